/-
  Contracts of functions that write rows: a table and an element of another row; a slice of one's own; two pointers out of a table.
-/
import Derived.Test.YtafigekkhpepkaaGreatCM6
set_option linter.unusedVariables false
set_option linter.unusedSimpArgs false
section
namespace Go.Ax
section
variable {P:Program} {G:Ctx} {H:Hots} {f:FuncId} {fn:Func} {r s key:Nat}
theorem thL2_0 {th:Nat→Nat→Nat}:∀ f,thL [r,s] key th 0 f = (r,f):=fun f => by simp [thL]
def famCl (fam:Fam):Prop:=∀ f,(fam f).g = none∧∀ j,j < (fam f).n→∀ c ∈ (fam f).get j,cleanC c = true
theorem famCl_E {fam:Fam} {f i:Nat} {cs:List AV} (h:famCl fam) (hc:∀ c ∈ cs,cleanC c = true):famCl (famE fam f i cs):=fun f' => by
 refine ⟨by rw [famE_g]; exact (h f').1,fun j hj c hcm => ?_⟩
 rw [famE_n] at hj
 by_cases e:f' = f
 ·subst e
  simp only [famE,if_true] at hcm
  split at hcm
  ·exact hc c hcm
  ·exact (h f').2 j hj c hcm
 ·rw [famE_off e] at hcm
  exact (h f').2 j hj c hcm
theorem rowRen_cl {θ:Nat→Nat→Nat×Nat} {g:Nat→Nat→Prop} {B:Nat→Prop} {fam:Fam} (h:famCl fam) (f:Nat):rowRen θ g B (fam f) (fam f):=rowRen_clean' (.refl _) (h f).2
theorem look_two0 {x y:Fam}:look [(1,y),(0,x)] 0 = some x:=by simp [look]
theorem look_two1 {x y:Fam}:look [(1,y),(0,x)] 1 = some y:=by simp [look]
theorem two_okG {fam fam' x0 y0 famB famB':Fam} {m:Mem} {es es0:List AV} {val val0:AV} {ob:List Prop} (hne:r≠s) (hl:look m r = some fam) (hl2:look m s = some famB)
  (h1:∀ f,(fam f).g = none∧rowRen (thE [r,s]) (lowG 2) (lowB 2) (x0 f) (fam f)) (hB:famCl famB) (hB':famCl famB')
  (h2:∀ th σ f,rowRen (thL [r,s] key th) (newG 2 σ th) (newB 2 σ) (y0 f) (fam' f)∧(y0 f).g≠some false) (ha:es = es0.map (renA (thE [r,s]) 3)) (hak:∀ a ∈ es0,kg (lowG 2) (lowB 2) 3 a)
  (hfn:funcOK P H fn es0.length = true) (hv:∀ th:Nat→Nat→Nat,∀ σ:Nat→Option (Nat×Nat),val = renA (thL [r,s] key th) 3 val0∧kg (newG 2 σ th) (newB 2 σ) 3 val0)
  (hb:bodyM P G H fn es0 [(1,famB),(0,x0)] 2 fun a m1 => a = val0∧look m1 0 = some y0∧look m1 1 = some famB') :
  ∃ ks m0 as0,Entry ks m m0 es as0∧funcOK P H fn as0.length = true∧bodyM P G H fn as0 m0 ks.length fun a m1 => ∃ σ th ys nw,(⟨ob,val,.many [(r,fam'),(s,famB')] none⟩:Eff).u = .many (ks.zip ys) nw∧Leave key ks σ th m1 a ys nw val:=by
 refine ⟨[r,s],[(1,famB),(0,x0)],es0,⟨by simp [hne],ha,hak,fun j hj => ?_,fun q x hq => ?_⟩,hfn,hb.mono fun a m1 ⟨q1,q2,q3⟩ => ?_⟩
 ·match j,hj with
  | 0,_ => exact ⟨_,fam,look_two0,hl,h1⟩
  | 1,_ => exact ⟨_,famB,look_two1,hl2,fun f => ⟨(hB f).1,rowRen_cl hB f⟩⟩
  | j + 2,hj => simp at hj; omega
 ·by_cases e:q = 0
  ·subst e; simp
  ·by_cases e1:q = 1
   ·subst e1; simp
   ·simp [look,Ne.symm e,Ne.symm e1] at hq
 ·obtain ⟨v1,v2⟩:=hv (fun _ _ => 0) (fun _ => none)
  refine ⟨fun _ => none,fun _ _ => 0,[fam',famB'],none,rfl,⟨fun f r g h => by simp at h,by rw [q1]; exact v1,by rw [q1]; exact v2,rfl,fun j hj => ?_,fun _ => rfl⟩⟩
  match j,hj with
  | 0,_ => exact ⟨_,_,q2,rfl,h2 _ _⟩
  | 1,_ => exact ⟨_,_,q3,rfl,fun f => ⟨rowRen_cl hB' f,by rw [(hB' f).1]; simp⟩⟩
  | j + 2,hj => simp at hj; omega
theorem tabOK_in2 {K C N sz:Nat} {tp ty:TypeId} {fam:Fam} (h:tabOK K N sz tp ty fam) (f:Nat):(fam f).g = none∧rowRen (thE [K,C]) (lowG 2) (lowB 2) (famT 0 N sz tp ty (fun i => (fam (i + 1)).get 0) f) (fam f):=
 ⟨(h.1 f).2.2.2.1.trans famT_g,rowRen_alike (rowRen_T (θ:=thE [K,C]) (g:=lowG 2) (B:=lowB 2) (fun _ => rfl) (fun _ => Nat.zero_lt_two) h.2 f) (h.1 f)⟩
def mcTPp (sz sz2:Nat) (tp ty:TypeId) (F:Nat→(Nat→List AV)→List AV→List AV→Option (List Prop×AV×(Nat→List AV)×List AV)):MCon:=fun key m es => match es with
 | .own K 0 N 1 :: .ptr C f i s2 0 :: rest => match look m K with
  | some fam => match look m C with
   | some famC => match F N (fun i => (fam (i + 1)).get 0) ((famC f).get i) rest with
    | some (ob,val,get',cs') => some ⟨(K≠C) :: (s2 = sz2) :: (i < (famC f).n) :: (sz2 = (famC f).sz) :: (cleanCs ((famC f).get i) = true) :: famCl famC :: tabOK K N sz tp ty fam :: ob,val,.many [(K,famT K N sz tp ty get'),(C,famE famC f i cs')] none⟩
    | none => none
   | none => none
  | none => none
 | _ => none
def mcTQ (sz sz2:Nat) (tp ty:TypeId) (F:Nat→(Nat→List AV)→List AV→List AV→Option (List Prop×AV×(Nat→List AV)×List AV)):MCon:=fun key m es => match es with
 | .own K 0 N 1 :: .bx C 0 :: rest => match look m K with
  | some fam => match look m C with
   | some famC => match F N (fun i => (fam (i + 1)).get 0) ((famC 0).get 0) rest with
    | some (ob,val,get',cs') => some ⟨(K≠C) :: ((famC 0).n = 1) :: (sz2 = (famC 0).sz) :: (cleanCs ((famC 0).get 0) = true) :: famCl famC :: tabOK K N sz tp ty fam :: ob,val,.many [(K,famT K N sz tp ty get'),(C,wb1 famC cs')] none⟩
    | none => none
   | none => none
  | none => none
 | es => mcTPp sz sz2 tp ty F key m es
def TPOK (P:Program) (G:Ctx) (H:Hots) (fn:Func) (sz sz2:Nat) (tp ty:TypeId) (F:Nat→(Nat→List AV)→List AV→List AV→Option (List Prop×AV×(Nat→List AV)×List AV)):Prop:=
 ∀ N get cells rest ob val get' cs',F N get cells rest = some (ob,val,get',cs')→(∀ p ∈ ob,p)→(∀ i,i < N→cleanCs (get i) = true)→cleanCs cells = true →
  (∀ a ∈ rest,clean 3 a = true)∧clean 3 val = true∧(∀ i,i < N→cleanCs (get' i) = true)∧cleanCs cs' = true∧funcOK P H fn (rest.length + 2) = true ∧
  ∀ (fam:Fam) (f i:Nat),i < (fam f).n→sz2 = (fam f).sz→famCl fam→bodyM P G H fn (.own 0 0 N 1 :: .ptr 1 f i sz2 0 :: rest) [(1,famE fam f i cells),(0,famT 0 N sz tp ty get)] 2 fun a m1 =>
   a = val∧look m1 0 = some (famT 0 N sz tp ty get')∧look m1 1 = some (famE fam f i cs')
theorem MConOK.mcTPp (hG:CtxOK P G) (hf:P.funcs[f]? = some fn) {sz sz2:Nat} {tp ty:TypeId} {F:Nat→(Nat→List AV)→List AV→List AV→Option (List Prop×AV×(Nat→List AV)×List AV)} (h:TPOK P G H fn sz sz2 tp ty F):MConOK P f (mcTPp sz sz2 tp ty F):=by
 refine MConOK.of (H:=H) hG hf fun key m es e hc hob => ?_
 unfold Ax.mcTPp at hc
 split at hc
 ·rename_i K N C f' i s2 rest
  split at hc
  ·rename_i fam hl
   split at hc
   ·rename_i famC hl2
    split at hc
    ·rename_i ob val get' cs' hF
     cases hc
     have hne:K≠C:=hob _ (by simp)
     have hs2:s2 = sz2:=hob _ (by simp)
     have hi:i < (famC f').n:=hob _ (by simp)
     have hsz:sz2 = (famC f').sz:=hob _ (by simp)
     have hcl:cleanCs ((famC f').get i) = true:=hob _ (by simp)
     have hC:famCl famC:=hob _ (by simp)
     have hok:tabOK K N sz tp ty fam:=hob _ (by simp)
     subst hs2
     obtain ⟨h1,h2,h3,h3',h4,h5⟩:=h _ _ _ _ _ _ _ _ hF (fun p hp => hob p (by simp [hp])) hok.2 hcl
     obtain ⟨a1,a2⟩:=cleans_ren (θ:=thE [K,C]) (g:=lowG 2) (B:=lowB 2) h1
     refine two_okG hne hl hl2 (tabOK_in2 hok) hC (famCl_E hC (cleanCs_mem h3'))
      (fun th σ f => ⟨rowRen_T thL2_0 (fun _ => .inl Nat.zero_lt_two) h3 f,by rw [famT_g]; simp⟩) (es0:=.own 0 0 N 1 :: .ptr 1 f' i s2 0 :: rest) (val0:=val) ?_ ?_ h4 (fun th σ => ?_) ?_
     ·rw [List.map_cons,List.map_cons,a1]; rfl
     ·intro a ha
      rcases List.mem_cons.1 ha with e | ha
      ·rw [e]; exact Nat.zero_lt_two
      ·rcases List.mem_cons.1 ha with e | ha
       ·rw [e]; exact Nat.one_lt_two
       ·exact a2 a ha
     ·obtain ⟨b1,b2⟩:=clean_ren (θ:=thL [K,C] key th) (g:=newG 2 σ th) (B:=newB 2 σ) 3 val h2
      exact ⟨b1.symm,b2⟩
     ·have:=h5 famC f' i hi hsz hC
      rw [famE_self] at this
      exact this
    ·cases hc
   ·cases hc
  ·cases hc
 ·cases hc
theorem MConOK.mcTQ (hG:CtxOK P G) (hf:P.funcs[f]? = some fn) {sz sz2:Nat} {tp ty:TypeId} {F:Nat→(Nat→List AV)→List AV→List AV→Option (List Prop×AV×(Nat→List AV)×List AV)} (h:TPOK P G H fn sz sz2 tp ty F):MConOK P f (mcTQ sz sz2 tp ty F):=by
 intro w0 ρ m m' D w key es vs e hR hk hm hRs hc hob hmany
 unfold Ax.mcTQ at hc
 split at hc
 ·rename_i K N C rest
  split at hc
  ·rename_i fam hl
   split at hc
   ·rename_i famC hl2
    split at hc
    ·rename_i ob val get' cs' hF
     cases hc
     have hne:K≠C:=hob _ (by simp)
     have hn:(famC 0).n = 1:=hob _ (by simp)
     have hsz:sz2 = (famC 0).sz:=hob _ (by simp)
     have hcl:cleanCs ((famC 0).get 0) = true:=hob _ (by simp)
     have hC:famCl famC:=hob _ (by simp)
     have hok:tabOK K N sz tp ty fam:=hob _ (by simp)
     have hRs':Rs w ρ (.own K 0 N 1 :: .ptr C 0 0 sz2 0 :: rest) vs:=by
      obtain ⟨x,xs,rfl,h1,h2⟩:=hRs.inv
      obtain ⟨y,ys,rfl,h3,h4⟩:=h2.inv
      refine .cons h1 (.cons ?_ h4)
      cases h3 with
      | bx hd =>
       have:R w ρ (.ptr C 0 0 sz2 0) (.pointer (some ⟨ρ.blk C 0,0 * sz2 + 0,none⟩)):=.ptr hd
       rw [Nat.zero_mul] at this
       exact this
     have:=MConOK.mcTPp hG hf h w0 ρ m m' D w key _ vs ⟨(K≠C) :: (sz2 = sz2) :: (0 < (famC 0).n) :: (sz2 = (famC 0).sz) :: (cleanCs ((famC 0).get 0) = true) :: famCl famC :: tabOK K N sz tp ty fam :: ob,val,.many [(K,famT K N sz tp ty get'),(C,famE famC 0 0 cs')] none⟩ hR hk hm hRs'
      (by simp only [Ax.mcTPp,hl,hl2,hF]) (fun p hp => by
       simp only [List.mem_cons] at hp
       rcases hp with rfl | rfl | rfl | rfl | rfl | rfl | rfl | hp
       ·exact hne
       ·trivial
       ·omega
       ·exact hsz
       ·exact hcl
       ·exact hC
       ·exact hok
       ·exact hob p (by simp [hp])) ⟨_,_,rfl⟩
     refine this.mono fun v w' ⟨ρ',p1,p2,p3,p4⟩ => ⟨ρ',p1,?_,p3,p4⟩
     have p2:Rel w0 ρ' (setRow C (famE famC 0 0 cs') (setRow K (famT K N sz tp ty get') m)) (fun r => D r∨r = key) w':=p2
     refine Rel.alike p2 fun f => ?_
     by_cases e:f = 0
     ·subst e
      refine ⟨rfl,rfl,rfl,rfl,fun i hi => ?_⟩
      rw [famE_n,hn] at hi
      have:i = 0:=by omega
      subst this
      rw [famE_get]; rfl
     ·unfold wb1
      rw [if_neg e,famE_off e]
      exact ⟨rfl,rfl,rfl,rfl,fun _ _ => rfl⟩
    ·cases hc
   ·cases hc
  ·cases hc
 ·exact MConOK.mcTPp hG hf h w0 ρ m m' D w key es vs e hR hk hm hRs hc hob hmany
def mc2P (sz:Nat) (tp ty:TypeId):MCon:=fun key m es => match es with
 | [.own K 0 N 1,.v (.int .i64 a),.v (.int .i64 b)] => match look m K with
  | some fam => some ⟨[tabOK K N sz tp ty fam,N≤1000],if 0≤a∧a < N∧0≤b∧b < N∧a≠b then .tup [.ptr K (a.toNat + 1) 0 sz 0,.ptr K (b.toNat + 1) 0 sz 0,.v (.bool true)] else .tup [.v (.pointer none),.v (.pointer none),.v (.bool false)],.many [(K,fam)] none⟩
  | none => none
 | _ => none
def TwoPOK (P:Program) (G:Ctx) (H:Hots) (fn:Func) (sz:Nat) (tp ty:TypeId):Prop:=
 ∀ N get,N≤1000→∀ a b:Int,funcOK P H fn 3 = true ∧
  bodyM P G H fn [.own 0 0 N 1,.v (.int .i64 a),.v (.int .i64 b)] [(0,famT 0 N sz tp ty get)] 1 fun x m1 => x = (if 0≤a∧a < N∧0≤b∧b < N∧a≠b then AV.tup [.ptr 0 (a.toNat + 1) 0 sz 0,.ptr 0 (b.toNat + 1) 0 sz 0,.v (.bool true)] else .tup [.v (.pointer none),.v (.pointer none),.v (.bool false)])∧look m1 0 = some (famT 0 N sz tp ty get)
theorem MConOK.mc2P (hG:CtxOK P G) (hf:P.funcs[f]? = some fn) {sz:Nat} {tp ty:TypeId} (h:TwoPOK P G H fn sz tp ty):MConOK P f (mc2P sz tp ty):=by
 refine MConOK.of (H:=H) hG hf fun key m es e hc hob => ?_
 unfold Ax.mc2P at hc
 split at hc
 ·rename_i K N a b
  split at hc
  ·rename_i fam hl
   cases hc
   have hok:tabOK K N sz tp ty fam:=hob _ (by simp)
   have hN:N≤1000:=hob _ (by simp)
   obtain ⟨h1,h2⟩:=h N (fun i => (fam (i + 1)).get 0) hN a b
   refine one_okG hl (tabOK_in hok) (fun th σ f => ⟨rowRen_alike (rowRen_T thL_0 (newG_0 (by simp)) hok.2 f) (hok.1 f),by rw [famT_g]; simp⟩) (es0:=[.own 0 0 N 1,.v (.int .i64 a),.v (.int .i64 b)]) ?_ ?_ h1 (fun th σ => ?_) h2
   ·rfl
   ·intro x hx
    simp only [List.mem_cons,List.not_mem_nil,or_false] at hx
    rcases hx with e | e | e <;> rw [e]
    ·exact Nat.zero_lt_one
    ·trivial
    ·trivial
   ·split
    ·refine ⟨?_,?_⟩
     ·show AV.tup [.ptr K _ _ _ _,.ptr K _ _ _ _,_] = .tup [.ptr (thL [K] key th 0 _).1 (thL [K] key th 0 _).2 _ _ _,.ptr (thL [K] key th 0 _).1 (thL [K] key th 0 _).2 _ _ _,_]
      rw [thL_0,thL_0]; rfl
     ·intro c hc
      simp only [List.mem_cons,List.not_mem_nil,or_false] at hc
      rcases hc with e | e | e <;> rw [e]
      ·exact newG_0 (by simp) _
      ·exact newG_0 (by simp) _
      ·trivial
    ·refine ⟨rfl,fun c hc => ?_⟩
     simp only [List.mem_cons,List.not_mem_nil,or_false] at hc
     rcases hc with e | e | e <;> rw [e] <;> trivial
  ·cases hc
 ·cases hc
def mcS (sz:Nat) (ty:TypeId) (F:Nat→(Nat→List AV)→List AV→Option (List Prop×AV×(Nat→List AV))):MCon:=fun key m es => match es with
 | .own r 0 N sz' :: rest => match look m r with
  | some fam => match F N (fam 0).get rest with
   | some (ob,val,get') => some ⟨(sz' = sz) :: (fam = famN N sz ty (fam 0).get none) :: (∀ i,i < N→cleanCs ((fam 0).get i) = true) :: ob,val,.many [(r,famN N sz ty get' none)] none⟩
   | none => none
  | none => none
 | _ => none
def SlOK (P:Program) (G:Ctx) (H:Hots) (fn:Func) (sz:Nat) (ty:TypeId) (F:Nat→(Nat→List AV)→List AV→Option (List Prop×AV×(Nat→List AV))):Prop:=
 ∀ N get rest ob val get',F N get rest = some (ob,val,get')→(∀ p ∈ ob,p)→(∀ i,i < N→cleanCs (get i) = true)→(∀ a ∈ rest,clean 3 a = true)∧clean 3 val = true∧(∀ i,i < N→cleanCs (get' i) = true)∧funcOK P H fn (rest.length + 1) = true ∧
  bodyM P G H fn (.own 0 0 N sz :: rest) [(0,famN N sz ty get none)] 1 fun a m1 => a = val∧look m1 0 = some (famN N sz ty get' none)
theorem famCl_N {n sz:Nat} {ty:TypeId} {get:Nat→List AV} (h:∀ i,i < n→cleanCs (get i) = true):famCl (famN n sz ty get none):=fun f => by
 unfold famN
 by_cases e:f = 0
 ·subst e
  exact ⟨rfl,fun j hj c hc => cleanCs_mem (h j (by simpa using hj)) c (by simpa using hc)⟩
 ·simp only [e,if_false]
  exact ⟨trivial,fun j hj => by omega⟩
theorem famCl_1 {sz:Nat} {ty:TypeId} {cs:List AV} (h:cleanCs cs = true):famCl (fam1 ty sz cs none):=fun f => by
 unfold fam1
 by_cases e:f = 0
 ·subst e
  exact ⟨rfl,fun j _ c hc => cleanCs_mem h c (by simpa using hc)⟩
 ·simp only [e,if_false]
  exact ⟨trivial,fun j hj => by omega⟩
theorem MConOK.mcS (hG:CtxOK P G) (hf:P.funcs[f]? = some fn) {sz:Nat} {ty:TypeId} {F:Nat→(Nat→List AV)→List AV→Option (List Prop×AV×(Nat→List AV))} (h:SlOK P G H fn sz ty F):MConOK P f (mcS sz ty F):=by
 refine MConOK.of (H:=H) hG hf fun key m es e hc hob => ?_
 unfold Ax.mcS at hc
 split at hc
 ·rename_i K N sz' rest
  split at hc
  ·rename_i fam hl
   split at hc
   ·rename_i ob val get' hF
    cases hc
    have hs:sz' = sz:=hob _ (by simp)
    have he:fam = famN N sz ty (fam 0).get none:=hob _ (by simp)
    have hcl:∀ i,i < N→cleanCs ((fam 0).get i) = true:=hob _ (by simp)
    subst hs
    obtain ⟨h1,h2,h3,h4,h5⟩:=h _ _ _ _ _ _ hF (fun p hp => hob p (by simp [hp])) hcl
    obtain ⟨a1,a2⟩:=cleans_ren (θ:=thE [K]) (g:=lowG 1) (B:=lowB 1) h1
    have hC:famCl fam:=by rw [he]; exact famCl_N hcl
    rw [← he] at h5
    refine one_okG hl (fun f => ⟨(hC f).1,rowRen_cl hC f⟩) (fun th σ f => ⟨rowRen_cl (famCl_N h3) f,by rw [(famCl_N h3 f).1]; simp⟩) (es0:=.own 0 0 N sz' :: rest) (val0:=val) ?_ ?_ h4 (fun th σ => ?_) h5
    ·rw [List.map_cons,a1]; rfl
    ·intro a ha
     rcases List.mem_cons.1 ha with e | ha
     ·rw [e]; exact Nat.zero_lt_one
     ·exact a2 a ha
    ·obtain ⟨b1,b2⟩:=clean_ren (θ:=thL [K] key th) (g:=newG 1 σ th) (B:=newB 1 σ) 3 val h2
     exact ⟨b1.symm,b2⟩
   ·cases hc
  ·cases hc
 ·cases hc
def LayOK2 (P:Program) (G:Ctx) (H:Hots) (fn:Func) (sz:Nat) (tp ty:TypeId) (F:List AV→Option (List Prop×Nat×(Nat→List AV))):Prop:=
 ∀ es ob N get,F es = some (ob,N,get)→(∀ p ∈ ob,p)→(∀ a ∈ es,clean 3 a = true)∧(∀ i,i < N→cleanCs (get i) = true)∧funcOK P H fn es.length = true ∧
  bodyM P G H fn es [] 0 fun a m1 => ∃ L M x y,L≠M∧a = .own L 0 N 1∧look m1 L = some x∧look m1 M = some y∧alike ⟨N,1,tp,fun j => [.ptr M j 0 sz 0],none⟩ (x 0)∧∀ i,i < N→alike ⟨1,sz,ty,fun _ => get i,none⟩ (y i)
def sigT (L M N:Nat) (f:Nat):Option (Nat×Nat):=match f with
 | 0 => some (L,0)
 | f + 1 => if f < N then some (M,f) else none
def thT (L:Nat) (r f:Nat):Nat:=if r = L then 0 else f + 1
theorem MConOK.mcL2 (hG:CtxOK P G) (hf:P.funcs[f]? = some fn) {sz:Nat} {tp ty:TypeId} {F:List AV→Option (List Prop×Nat×(Nat→List AV))} (h:LayOK2 P G H fn sz tp ty F):MConOK P f (Ax.mcL sz tp ty F):=by
 refine MConOK.of (H:=H) hG hf fun key m es e hc hob => ?_
 unfold Ax.mcL at hc
 split at hc
 ·rename_i ob N get hF
  cases hc
  obtain ⟨h1,h2,h3,h4⟩:=h _ _ _ _ hF fun p hp => hob p hp
  obtain ⟨a1,a2⟩:=cleans_ren (θ:=thE []) (g:=lowG 0) (B:=lowB 0) h1
  refine ⟨[],[],es,⟨by simp,a1.symm,a2,fun j hj => by simp at hj,fun q x hq => by simp [look] at hq⟩,h3,h4.mono fun a m1 ⟨L,M,x,y,q0,q1,q2,q3,q4,q5⟩ => ?_⟩
  have g0:∀ B:Nat,newG B (sigT L M N) (thT L) L 0:=fun B => .inr (by unfold thT sigT; rw [if_pos rfl])
  have gM:∀ B j:Nat,j < N→newG B (sigT L M N) (thT L) M j:=fun B j hj => .inr (by unfold thT; rw [if_neg (Ne.symm q0)]; unfold sigT; exact if_pos hj)
  refine ⟨sigT L M N,thT L,[],some _,rfl,⟨fun f r g h => ?_,?_,?_,rfl,fun j hj => by simp at hj,fun f => ?_⟩⟩
  ·cases f with
   | zero => cases h; exact ⟨Nat.zero_le _,if_pos rfl⟩
   | succ f =>
    unfold sigT at h
    dsimp only at h
    split at h
    ·cases h; exact ⟨Nat.zero_le _,if_neg (Ne.symm q0)⟩
    ·cases h
  ·rw [q1]
   show AV.own key 0 N 1 = .own (thL [] key (thT L) L 0).1 (thL [] key (thT L) L 0).2 N 1
   unfold thL thT
   simp
  ·rw [q1]; exact g0 _
  ·cases f with
   | zero =>
    refine ⟨_,q2,?_,by rw [q4.2.2.2.1]; simp⟩
    obtain ⟨k1,k2,k3,k4,k5⟩:=q4
    refine ⟨k1.symm,k2.symm,k3.symm,k4.symm,fun j hj => ?_⟩
    rw [k1] at hj
    rw [k5 j hj]
    refine ⟨?_,fun c hc => ?_⟩
    ·show [AV.ptr key (j + 1) 0 sz 0] = [AV.ptr (thL [] key (thT L) M j).1 (thL [] key (thT L) M j).2 0 sz 0]
     unfold thL thT
     simp [Ne.symm q0]
    ·rw [List.mem_singleton] at hc
     rw [hc]; exact gM _ j hj
   | succ f =>
    by_cases hf:f < N
    ·have e:sigT L M N (f + 1) = some (M,f):=if_pos hf
     rw [e]
     obtain ⟨k1,k2,k3,k4,k5⟩:=q5 f hf
     refine ⟨_,q3,?_,by rw [k4]; simp⟩
     refine rowRen_clean' ⟨?_,k2.symm,k3.symm,k4.symm,fun j hj => ?_⟩ fun j hj c hcm => ?_
     ·simp only [famT,if_pos hf]; exact k1.symm
     ·rw [k1] at hj
      have hj:j < 1:=hj
      have:j = 0:=by omega
      subst this
      rw [k5 0 Nat.zero_lt_one]; rfl
     ·rw [k1] at hj
      have hj:j < 1:=hj
      have:j = 0:=by omega
      subst this
      rw [k5 0 Nat.zero_lt_one] at hcm
      exact cleanCs_mem (h2 f hf) c hcm
    ·have e:sigT L M N (f + 1) = none:=if_neg hf
     rw [e]
     show (if f < N then 1 else 0) = 0
     exact if_neg hf
 ·cases hc
def mcV (sz:Nat) (ty:TypeId) (F:List AV→Option (List Prop×Nat×(Nat→List AV))):MCon:=fun key m es => match F es with
 | some (ob,N,get) => some ⟨ob,.own key 0 N sz,.many [] (some (famN N sz ty get none))⟩
 | none => none
def VecOK (P:Program) (G:Ctx) (H:Hots) (fn:Func) (sz:Nat) (ty:TypeId) (F:List AV→Option (List Prop×Nat×(Nat→List AV))):Prop:=
 ∀ es ob N get,F es = some (ob,N,get)→(∀ p ∈ ob,p)→(∀ a ∈ es,clean 3 a = true)∧(∀ i,i < N→cleanCs (get i) = true)∧funcOK P H fn es.length = true ∧
  bodyM P G H fn es [] 0 fun a m1 => ∃ L,a = .own L 0 N sz∧look m1 L = some (famN N sz ty get none)
theorem MConOK.mcV (hG:CtxOK P G) (hf:P.funcs[f]? = some fn) {sz:Nat} {ty:TypeId} {F:List AV→Option (List Prop×Nat×(Nat→List AV))} (h:VecOK P G H fn sz ty F):MConOK P f (Ax.mcV sz ty F):=by
 refine MConOK.of (H:=H) hG hf fun key m es e hc hob => ?_
 unfold Ax.mcV at hc
 split at hc
 ·rename_i ob N get hF
  cases hc
  obtain ⟨h1,h2,h3,h4⟩:=h _ _ _ _ hF fun p hp => hob p hp
  obtain ⟨a1,a2⟩:=cleans_ren (θ:=thE []) (g:=lowG 0) (B:=lowB 0) h1
  refine ⟨[],[],es,⟨by simp,a1.symm,a2,fun j hj => by simp at hj,fun q x hq => by simp [look] at hq⟩,h3,h4.mono fun a m1 ⟨L,q1,q2⟩ => ?_⟩
  refine ⟨whole L,idTh,[],some _,rfl,⟨fun f r g h => ?_,?_,?_,rfl,fun j hj => by simp at hj,fun f => ?_⟩⟩
  ·cases h; exact ⟨Nat.zero_le _,rfl⟩
  ·rw [q1]; rfl
  ·rw [q1]; exact .inr rfl
  ·exact ⟨_,q2,rowRen_cl (famCl_N h2) f,by rw [(famCl_N h2 f).1]; simp⟩
 ·cases hc
section
variable {sz sz2 K N C:Nat} {tp ty:TypeId} {m:Mem} {rest:List AV} {get get':Nat→List AV} {ob:List Prop} {val:AV} {fam famC:Fam} {cs cs':List AV}
def mcTf (K N sz:Nat) (tp ty:TypeId) (fam:Fam):Option (List Prop×AV×(Nat→List AV))→Option Eff
 | some (ob,val,get') => some ⟨tabOK K N sz tp ty fam :: ob,val,.many [(K,famT K N sz tp ty get')] none⟩
 | none => none
def mcTe (sz:Nat) (tp ty:TypeId) (F:Nat→(Nat→List AV)→List AV→Option (List Prop×AV×(Nat→List AV))) (K N:Nat) (rest:List AV):Option Fam→Option Eff
 | some fam => mcTf K N sz tp ty fam (F N (fun i => (fam (i + 1)).get 0) rest)
 | none => none
theorem mcT_eq {F:Nat→(Nat→List AV)→List AV→Option (List Prop×AV×(Nat→List AV))}:Ax.mcT sz tp ty F key m (.own K 0 N 1 :: rest) = mcTe sz tp ty F K N rest (look m K):=by
 show (match look m K with
  | some fam => (match F N (fun i => (fam (i + 1)).get 0) rest with
   | some (ob,val,get') => some (⟨tabOK K N sz tp ty fam :: ob,val,.many [(K,famT K N sz tp ty get')] none⟩:Eff)
   | none => none)
  | none => none) = _
 unfold mcTe
 cases look m K with
 | none => rfl
 | some fam =>
  dsimp only
  unfold mcTf
  cases F N (fun i => (fam (i + 1)).get 0) rest <;> rfl
theorem mcTe_T {F:Nat→(Nat→List AV)→List AV→Option (List Prop×AV×(Nat→List AV))}:mcTe sz tp ty F K N rest (some (famT K N sz tp ty get)) = mcTf K N sz tp ty (famT K N sz tp ty get) (F N get rest):=(rfl)
theorem mcTf_some:mcTf K N sz tp ty fam (some (ob,val,get')) = some ⟨tabOK K N sz tp ty fam :: ob,val,.many [(K,famT K N sz tp ty get')] none⟩:=(rfl)
def mcQf (K N C sz sz2:Nat) (tp ty:TypeId) (fam famC:Fam):Option (List Prop×AV×(Nat→List AV)×List AV)→Option Eff
 | some (ob,val,get',cs') => some ⟨(K≠C) :: ((famC 0).n = 1) :: (sz2 = (famC 0).sz) :: (cleanCs ((famC 0).get 0) = true) :: famCl famC :: tabOK K N sz tp ty fam :: ob,val,.many [(K,famT K N sz tp ty get'),(C,wb1 famC cs')] none⟩
 | none => none
def mcQe (sz sz2:Nat) (tp ty:TypeId) (F:Nat→(Nat→List AV)→List AV→List AV→Option (List Prop×AV×(Nat→List AV)×List AV)) (K N C:Nat) (rest:List AV):Option Fam→Option Fam→Option Eff
 | some fam,some famC => mcQf K N C sz sz2 tp ty fam famC (F N (fun i => (fam (i + 1)).get 0) ((famC 0).get 0) rest)
 | _,_ => none
theorem mcTQ_bx {F:Nat→(Nat→List AV)→List AV→List AV→Option (List Prop×AV×(Nat→List AV)×List AV)}:Ax.mcTQ sz sz2 tp ty F key m (.own K 0 N 1 :: .bx C 0 :: rest) = mcQe sz sz2 tp ty F K N C rest (look m K) (look m C):=by
 show (match look m K with
  | some fam => (match look m C with
   | some famC => (match F N (fun i => (fam (i + 1)).get 0) ((famC 0).get 0) rest with
    | some (ob,val,get',cs') => some (⟨(K≠C) :: ((famC 0).n = 1) :: (sz2 = (famC 0).sz) :: (cleanCs ((famC 0).get 0) = true) :: famCl famC :: tabOK K N sz tp ty fam :: ob,val,.many [(K,famT K N sz tp ty get'),(C,wb1 famC cs')] none⟩:Eff)
    | none => none)
   | none => none)
  | none => none) = _
 unfold mcQe
 cases look m K with
 | none => rfl
 | some fam =>
  dsimp only
  cases look m C with
  | none => rfl
  | some famC =>
   dsimp only
   unfold mcQf
   cases F N (fun i => (fam (i + 1)).get 0) ((famC 0).get 0) rest <;> rfl
theorem mcQe_T {F:Nat→(Nat→List AV)→List AV→List AV→Option (List Prop×AV×(Nat→List AV)×List AV)}:mcQe sz sz2 tp ty F K N C rest (some (famT K N sz tp ty get)) (some famC) = mcQf K N C sz sz2 tp ty (famT K N sz tp ty get) famC (F N get ((famC 0).get 0) rest):=(rfl)
theorem mcQf_some:mcQf K N C sz sz2 tp ty fam famC (some (ob,val,get',cs')) = some ⟨(K≠C) :: ((famC 0).n = 1) :: (sz2 = (famC 0).sz) :: (cleanCs ((famC 0).get 0) = true) :: famCl famC :: tabOK K N sz tp ty fam :: ob,val,.many [(K,famT K N sz tp ty get'),(C,wb1 famC cs')] none⟩:=(rfl)
def mcRf (K N C f i s2 sz sz2:Nat) (tp ty:TypeId) (fam famC:Fam):Option (List Prop×AV×(Nat→List AV)×List AV)→Option Eff
 | some (ob,val,get',cs') => some ⟨(K≠C) :: (s2 = sz2) :: (i < (famC f).n) :: (sz2 = (famC f).sz) :: (cleanCs ((famC f).get i) = true) :: famCl famC :: tabOK K N sz tp ty fam :: ob,val,.many [(K,famT K N sz tp ty get'),(C,famE famC f i cs')] none⟩
 | none => none
def mcRe (sz sz2:Nat) (tp ty:TypeId) (F:Nat→(Nat→List AV)→List AV→List AV→Option (List Prop×AV×(Nat→List AV)×List AV)) (K N C f i s2:Nat) (rest:List AV):Option Fam→Option Fam→Option Eff
 | some fam,some famC => mcRf K N C f i s2 sz sz2 tp ty fam famC (F N (fun i => (fam (i + 1)).get 0) ((famC f).get i) rest)
 | _,_ => none
theorem mcTQ_ptr {F:Nat→(Nat→List AV)→List AV→List AV→Option (List Prop×AV×(Nat→List AV)×List AV)} {f i s2:Nat}:Ax.mcTQ sz sz2 tp ty F key m (.own K 0 N 1 :: .ptr C f i s2 0 :: rest) = mcRe sz sz2 tp ty F K N C f i s2 rest (look m K) (look m C):=by
 show (match look m K with
  | some fam => (match look m C with
   | some famC => (match F N (fun i => (fam (i + 1)).get 0) ((famC f).get i) rest with
    | some (ob,val,get',cs') => some (⟨(K≠C) :: (s2 = sz2) :: (i < (famC f).n) :: (sz2 = (famC f).sz) :: (cleanCs ((famC f).get i) = true) :: famCl famC :: tabOK K N sz tp ty fam :: ob,val,.many [(K,famT K N sz tp ty get'),(C,famE famC f i cs')] none⟩:Eff)
    | none => none)
   | none => none)
  | none => none) = _
 unfold mcRe
 cases look m K with
 | none => rfl
 | some fam =>
  dsimp only
  cases look m C with
  | none => rfl
  | some famC =>
   dsimp only
   unfold mcRf
   cases F N (fun i => (fam (i + 1)).get 0) ((famC f).get i) rest <;> rfl
theorem mcRe_T {F:Nat→(Nat→List AV)→List AV→List AV→Option (List Prop×AV×(Nat→List AV)×List AV)} {f i s2:Nat}:mcRe sz sz2 tp ty F K N C f i s2 rest (some (famT K N sz tp ty get)) (some famC) = mcRf K N C f i s2 sz sz2 tp ty (famT K N sz tp ty get) famC (F N get ((famC f).get i) rest):=(rfl)
theorem mcRf_some {f i s2:Nat}:mcRf K N C f i s2 sz sz2 tp ty fam famC (some (ob,val,get',cs')) = some ⟨(K≠C) :: (s2 = sz2) :: (i < (famC f).n) :: (sz2 = (famC f).sz) :: (cleanCs ((famC f).get i) = true) :: famCl famC :: tabOK K N sz tp ty fam :: ob,val,.many [(K,famT K N sz tp ty get'),(C,famE famC f i cs')] none⟩:=(rfl)
def mcPf (r r' f i s1 f' i' s2 sz:Nat) (fam:Fam):Option (List Prop×AV×List AV×List AV)→Option Eff
 | some (ob,val,cs,cs') => some ⟨(r' = r) :: (f≠f') :: (i < (fam f).n) :: (i' < (fam f').n) :: (s1 = sz) :: (s2 = sz) :: (sz = (fam f).sz) :: (sz = (fam f').sz) :: (cleanCs ((fam f).get i) = true) :: (cleanCs ((fam f').get i') = true) :: famOK r fam :: ob,val,.many [(r,famE (famE fam f i cs) f' i' cs')] none⟩
 | none => none
def mcPe (sz:Nat) (F:List AV→List AV→List AV→Option (List Prop×AV×List AV×List AV)) (r r' f i s1 f' i' s2:Nat) (rest:List AV):Option Fam→Option Eff
 | some fam => mcPf r r' f i s1 f' i' s2 sz fam (F ((fam f).get i) ((fam f').get i') rest)
 | none => none
theorem mcPP_eq {F:List AV→List AV→List AV→Option (List Prop×AV×List AV×List AV)} {r r' f i s1 f' i' s2:Nat}:Ax.mcPP sz F key m (.ptr r f i s1 0 :: .ptr r' f' i' s2 0 :: rest) = mcPe sz F r r' f i s1 f' i' s2 rest (look m r):=by
 show (match look m r with
  | some fam => (match F ((fam f).get i) ((fam f').get i') rest with
   | some (ob,val,cs,cs') => some (⟨(r' = r) :: (f≠f') :: (i < (fam f).n) :: (i' < (fam f').n) :: (s1 = sz) :: (s2 = sz) :: (sz = (fam f).sz) :: (sz = (fam f').sz) :: (cleanCs ((fam f).get i) = true) :: (cleanCs ((fam f').get i') = true) :: famOK r fam :: ob,val,.many [(r,famE (famE fam f i cs) f' i' cs')] none⟩:Eff)
   | none => none)
  | none => none) = _
 unfold mcPe
 cases look m r with
 | none => rfl
 | some fam =>
  dsimp only
  unfold mcPf
  cases F ((fam f).get i) ((fam f').get i') rest <;> rfl
theorem mcPe_some {F:List AV→List AV→List AV→Option (List Prop×AV×List AV×List AV)} {r r' f i s1 f' i' s2:Nat}:mcPe sz F r r' f i s1 f' i' s2 rest (some fam) = mcPf r r' f i s1 f' i' s2 sz fam (F ((fam f).get i) ((fam f').get i') rest):=(rfl)
theorem mcPf_some {r r' f i s1 f' i' s2:Nat}:mcPf r r' f i s1 f' i' s2 sz fam (some (ob,val,cs,cs')) = some ⟨(r' = r) :: (f≠f') :: (i < (fam f).n) :: (i' < (fam f').n) :: (s1 = sz) :: (s2 = sz) :: (sz = (fam f).sz) :: (sz = (fam f').sz) :: (cleanCs ((fam f).get i) = true) :: (cleanCs ((fam f').get i') = true) :: famOK r fam :: ob,val,.many [(r,famE (famE fam f i cs) f' i' cs')] none⟩:=(rfl)
def mcSf (r N s sz:Nat) (ty:TypeId) (fam:Fam):Option (List Prop×AV×(Nat→List AV))→Option Eff
 | some (ob,val,get') => some ⟨(s = sz) :: (fam = famN N sz ty (fam 0).get none) :: (∀ i,i < N→cleanCs ((fam 0).get i) = true) :: ob,val,.many [(r,famN N sz ty get' none)] none⟩
 | none => none
def mcSe (sz:Nat) (ty:TypeId) (F:Nat→(Nat→List AV)→List AV→Option (List Prop×AV×(Nat→List AV))) (r N s:Nat) (rest:List AV):Option Fam→Option Eff
 | some fam => mcSf r N s sz ty fam (F N (fam 0).get rest)
 | none => none
theorem mcS_eq {F:Nat→(Nat→List AV)→List AV→Option (List Prop×AV×(Nat→List AV))} {r s:Nat}:Ax.mcS sz ty F key m (.own r 0 N s :: rest) = mcSe sz ty F r N s rest (look m r):=by
 show (match look m r with
  | some fam => (match F N (fam 0).get rest with
   | some (ob,val,get') => some (⟨(s = sz) :: (fam = famN N sz ty (fam 0).get none) :: (∀ i,i < N→cleanCs ((fam 0).get i) = true) :: ob,val,.many [(r,famN N sz ty get' none)] none⟩:Eff)
   | none => none)
  | none => none) = _
 unfold mcSe
 cases look m r with
 | none => rfl
 | some fam =>
  dsimp only
  unfold mcSf
  cases F N (fam 0).get rest <;> rfl
theorem mcSe_some {F:Nat→(Nat→List AV)→List AV→Option (List Prop×AV×(Nat→List AV))} {r s:Nat}:mcSe sz ty F r N s rest (some (famN N sz ty get none)) = mcSf r N s sz ty (famN N sz ty get none) (F N get rest):=(rfl)
theorem mcSf_some {r s:Nat}:mcSf r N s sz ty (famN N sz ty get none) (some (ob,val,get')) = some ⟨(s = sz) :: (famN N sz ty get none = famN N sz ty get none) :: (∀ i,i < N→cleanCs (get i) = true) :: ob,val,.many [(r,famN N sz ty get' none)] none⟩:=(rfl)
def mc2e (K N sz:Nat) (tp ty:TypeId) (a b:Int):Option Fam→Option Eff
 | some fam => some ⟨[tabOK K N sz tp ty fam,N≤1000],if 0≤a∧a < N∧0≤b∧b < N∧a≠b then .tup [.ptr K (a.toNat + 1) 0 sz 0,.ptr K (b.toNat + 1) 0 sz 0,.v (.bool true)] else .tup [.v (.pointer none),.v (.pointer none),.v (.bool false)],.many [(K,fam)] none⟩
 | none => none
theorem mc2P_eq {a b:Int}:Ax.mc2P sz tp ty key m [.own K 0 N 1,.v (.int .i64 a),.v (.int .i64 b)] = mc2e K N sz tp ty a b (look m K):=by
 show (match look m K with
  | some fam => some (⟨[tabOK K N sz tp ty fam,N≤1000],if 0≤a∧a < N∧0≤b∧b < N∧a≠b then .tup [.ptr K (a.toNat + 1) 0 sz 0,.ptr K (b.toNat + 1) 0 sz 0,.v (.bool true)] else .tup [.v (.pointer none),.v (.pointer none),.v (.bool false)],.many [(K,fam)] none⟩:Eff)
  | none => none) = _
 unfold mc2e
 cases look m K <;> rfl
theorem mc2e_some {a b:Int}:mc2e K N sz tp ty a b (some fam) = some ⟨[tabOK K N sz tp ty fam,N≤1000],if 0≤a∧a < N∧0≤b∧b < N∧a≠b then .tup [.ptr K (a.toNat + 1) 0 sz 0,.ptr K (b.toNat + 1) 0 sz 0,.v (.bool true)] else .tup [.v (.pointer none),.v (.pointer none),.v (.bool false)],.many [(K,fam)] none⟩:=(rfl)
theorem famCl_1t (h:cleanCs cs = true):famCl (fam1 ty sz cs none) = True:=eq_true (famCl_1 h)
theorem famCl_Nt {n:Nat} (h:∀ i,i < n→cleanCs (get i) = true):famCl (famN n sz ty get none) = True:=eq_true (famCl_N h)
end
attribute [go_sem] mcT_eq mcTe_T mcTf_some mcTQ_bx mcTQ_ptr mcQe_T mcQf_some mcRe_T mcRf_some mcPP_eq mcPe_some mcPf_some mcS_eq mcSe_some mcSf_some mc2P_eq mc2e_some famCl_1t famCl_Nt
end
end Go.Ax
end
section
set_option maxHeartbeats 4000000
set_option maxRecDepth 100000
namespace Go.Ax
open Go.Proofs Go.Proofs.Tryz
section
variable {P:Program} {G:Ctx} {H:Hots} {K0:AEx→St→Prop} {hot:Option Hot} {ops:Array Oper} {d:Option Tmp} {rest:List Oper} {i k:Nat} {st:List Fr} {t:Slots} {m:Mem} {nx:Nat} {o:List Prop} {u:Upd} {b:Bd} {c:Bool}
theorem ofC_body:ofC (some (true,27)) (bodyC b) = some (.agg (bodyC b)):=(rfl)
theorem cells_body:cellsOf (.agg (bodyC b)) = some (bodyC b):=(rfl)
theorem drop_body:(bodyC b).drop 27 = []:=(rfl)
theorem drop5_body:(bodyC b).drop 5 = [i64 b.pl.1.1,bo b.pl.1.2,i64 b.pl.2.1,bo b.pl.2.2,i64 b.rot.1.1,bo b.rot.1.2,i64 b.rot.2.1,bo b.rot.2.2,i64 b.v.1.1,bo b.v.1.2,i64 b.v.2.1,bo b.v.2.2,i64 b.w.1,bo b.w.2,i64 b.m.1,bo b.m.2,i64 b.i.1,bo b.i.2,i64 b.st,bo b.sl,bo b.fa,i64 b.ve]:=(rfl)
theorem drop19_body:(bodyC b).drop 19 = [i64 b.m.1,bo b.m.2,i64 b.i.1,bo b.i.2,i64 b.st,bo b.sl,bo b.fa,i64 b.ve]:=(rfl)
theorem drop21_body:(bodyC b).drop 21 = [i64 b.i.1,bo b.i.2,i64 b.st,bo b.sl,bo b.fa,i64 b.ve]:=(rfl)
theorem take_body:(bodyC b).take 27 = bodyC b:=(rfl)
theorem cleanCs_body:cleanCs (bodyC b) = true:=(rfl)
theorem allCells_body:allCells (bodyC b) = true:=(rfl)
theorem purUL_body:purUL 2 m (bodyC b) = bodyC b:=(rfl)
theorem pgsL_body:pgsL 2 m (bodyC b) = []:=(rfl)
theorem purL_body:(bodyC b).map (pur 2 m) = bodyC b:=(rfl)
theorem cleanL_body:cleanL 2 (bodyC b) = true:=(rfl)
theorem purLd_body {d:Nat}:purL d m (bodyC b) = bodyC b:=by cases d <;> rfl
theorem bindL_body:bindL P G H K0 hot ops d rest i st t m nx o u false [] (bodyC b) = bindC P G H K0 hot ops d rest i st t m nx o u (.agg (bodyC b)):=by
 unfold bindL; simp
end
attribute [go_sem] purLd_body drop5_body drop19_body drop21_body cleanL_body ofC_body cells_body drop_body take_body cleanCs_body allCells_body purUL_body pgsL_body purL_body bindL_body len_body clean_body bodyD_C
theorem tmpE_ptr {r f i sz k:Nat}:tmpE (.ptr r f i sz k) = some ⟨[],.ptr r f i sz k,.none⟩:=(rfl)
attribute [go_sem] tmpE_ptr
theorem iHft {b:Bd} {x n:V2}:inR (hftS b x n).1 = True:=iAdd
theorem iSpd1 {b:Bd} {x:V2}:inR (spdS b x).1.1 = True:=iVAdd1
theorem iSpd2 {b:Bd} {x:V2}:inR (spdS b x).2.1 = True:=iVAdd2
attribute [go_sem] iHft iSpd1 iSpd2
def bsC (B:Nat→Bd):Nat→List AV:=fun i => bodyC (B i)
def bsD (g:Nat→List AV):Nat→Bd:=fun i => bodyD (g i)
theorem bsD_C {B:Nat→Bd}:bsD (bsC B) = B:=rfl
theorem bsC_at {B:Nat→Bd} {i:Nat}:bsC B i = bodyC (B i):=(rfl)
def inBs (N:Nat) (B:Nat→Bd):Prop:=∀ i,i < N→inB (B i)∧(B i).n≤1000
def cL (F:Nat→(Nat→Bd)→List AV→Option (List Prop×AV)):Con
 | .ro N 27 g :: rest => match F N (bsD g) rest with
  | some (ob,r) => some ((g = bsC (bsD g)) :: ob,r)
  | none => none
 | _ => none
theorem cL_eq {F:Nat→(Nat→Bd)→List AV→Option (List Prop×AV)} {N:Nat} {g:Nat→List AV} {rest:List AV}:cL F (.ro N 27 g :: rest) = (match F N (bsD g) rest with
  | some (ob,r) => some ((g = bsC (bsD g)) :: ob,r)
  | none => none):=(rfl)
theorem ConOK.cL {P:Program} {G:Ctx} {H:Hots} (hG:CtxOK P G) {f:FuncId} {fn:Func} (hf:P.funcs[f]? = some fn) {F:Nat→(Nat→Bd)→List AV→Option (List Prop×AV)}
  (h:∀ N B rest ob r,F N B rest = some (ob,r)→(∀ p ∈ ob,p)→funcOK P H fn (rest.length + 1) = true∧fnVC P G H fn (.ro N 27 (bsC B) :: rest) (· = r)):ConOK P f (Ax.cL F):=ConOK.of hG hf fun l ob r hc hob => by
 unfold Ax.cL at hc
 split at hc
 ·rename_i N g rest
  split at hc
  ·rename_i ob' r' hF
   cases hc
   have e:g = bsC (bsD g):=hob _ (by simp)
   obtain ⟨h1,h2⟩:=h _ _ _ _ _ hF fun p hp => hob p (by simp [hp])
   rw [← e] at h2
   exact ⟨h1,h2⟩
  ·cases hc
 ·cases hc
def layF:List AV→Option (List Prop×Nat×(Nat→List AV))
 | [.ro N 27 g] => some ([N≤1000,g = bsC (bsD g),inBs N (bsD g)],N,g)
 | _ => none
def mNlay:MCon:=mcL 27 151 155 layF
theorem mNlay_eq {key:Nat} {m:Mem} {N:Nat} {g:Nat→List AV}:mNlay key m [.ro N 27 g] = some ⟨[N≤1000,g = bsC (bsD g),inBs N (bsD g)],.own key 0 N 1,.many [] (some (famT key N 27 151 155 g))⟩:=(rfl)
def famP (M N i:Nat):Fam:=famN N 1 151 (fun j => if j < i then [.ptr M j 0 27 0] else [.v (.pointer none)]) none
def famL (B:Nat→Bd) (i:Nat):Fam:=fun f => ⟨if f < i then 1 else 0,27,155,fun j => if j = 0 then bodyC (B f) else [],none⟩
theorem fitLA_body {N M:Nat} {θ:Alias} {b:Bd}:fitLA N M θ (bodyC b) (bodyC b):=by
 simp [fitLA,bodyC,fit1A,kb]
def thI (K Q i:Nat):Alias:=fun r f => if r = K then (if f < i then some (K,f) else if f = i then some (Q,0) else none) else some (r,f)
def th0 (K:Nat):Alias:=fun r f => if r = K then none else some (r,f)
theorem goodA_0 {K L:Nat} {x y:Fam} (hL:L < K):goodA K 1 (th0 K) [(K,x),(L,y)] []:=by
 refine ⟨fun r f hr => if_neg (by omega),fun e he => ?_,fun r f r' f' q g hr hr' h h' => ?_⟩
 ·simp only [List.mem_cons,List.not_mem_nil,or_false] at he
  rcases he with e | e <;> rw [e] <;> dsimp only <;> omega
 ·unfold th0 at h h'
  split at h
  ·cases h
  ·split at h'
   ·cases h'
   ·cases h; cases h'; exact ⟨rfl,rfl⟩
theorem goodA_I {K L Q i:Nat} {x y:Fam} (hL:L < K) (hQ:K < Q):goodA K 1 (thI K Q i) [(K,x),(L,y)] []:=by
 refine ⟨fun r f hr => if_neg (by omega),fun e he => ?_,fun r f r' f' q g hr hr' h h' => ?_⟩
 ·simp only [List.mem_cons,List.not_mem_nil,or_false] at he
  rcases he with e | e <;> rw [e] <;> dsimp only <;> omega
 ·simp only [List.map_cons,List.map_nil,List.mem_cons,List.not_mem_nil,or_false] at hr hr'
  unfold thI at h h'
  rcases hr with e | e <;> rcases hr' with e' | e' <;> subst e <;> subst e'
  ·rw [if_pos rfl] at h h'
   refine ⟨rfl,?_⟩
   (repeat' split at h) <;> (repeat' split at h') <;> simp_all
   all_goals omega
  ·rw [if_pos rfl] at h
   rw [if_neg (by omega)] at h'
   cases h'
   (repeat' split at h) <;> simp_all
   all_goals omega
  ·rw [if_pos rfl] at h'
   rw [if_neg (by omega)] at h
   cases h
   (repeat' split at h') <;> simp_all
   all_goals omega
  ·rw [if_neg (by omega)] at h h'
   cases h; cases h'; exact ⟨rfl,rfl⟩
theorem con73m:MConOK prog 73 mNlay:=MConOK.mcL2 (G:=[(114,.wr mNon)]) (H:=[]) (.mcons con114m .nil) func73 fun es ob N get hF hob => by
 unfold layF at hF
 split at hF
 ·cases hF
  have hN:N≤1000:=hob _ (by simp)
  have e:get = bsC (bsD get):=hob _ (by simp)
  have hB:inBs N (bsD get):=hob _ (by simp)
  generalize bsD get = B at *
  subst e
  refine ⟨by simp [clean],fun i _ => rfl,by kernel_rfl,bodyM_go (rs:=[.tmp 2]) rfl rfl ?_⟩
  simp only [go_sem,bsC_at]
  have hby:bytesT prog 151 = 8:=by kernel_rfl
  rw [hby]
  refine ⟨by omega,by omega,by omega,?_⟩
  refine loopA_go (fun (i:Nat) => i≤N) (fun i => N - i) (fun i => [(11,i64 (i:Int))]) (fun i => [(8,famL B i),(3,famP 8 N i)]) [] [12,13,14,15,5,4,16,17,18,19,20,21,11] 1 0 (by kernel_rfl) (Nat.zero_le _) ⟨th0 8,?_,?_,trivial,goodA_0 (by omega)⟩ ?_
  ·simp [fitSlotsA,fit1A,kb,slot]
  ·refine ⟨fun f => ⟨rfl,rfl⟩,fun f => ⟨_,rfl,?_⟩,trivial⟩
   unfold famP famN
   split
   ·refine ⟨rfl,rfl,rfl,rfl,rfl,fun j _ => ?_⟩
    simp [fitLA,fit1A,kb]
   ·exact ⟨rfl,rfl,rfl,rfl,rfl,fun j hj => absurd hj (Nat.not_lt_zero j)⟩
  intro i hi
  simp only [go_sem,famP,bsC_at,mNon_eq]
  refine ⟨fun h => ?_,fun h => ?_⟩
  ·have hi':i < N:=by omega
   refine ⟨by omega,h,(hB i hi').1,(hB i hi').2,by omega,h,hi',fun z hz => ⟨i + 1,by omega,by omega,thI 8 19 i,?_,?_,goodA_I (by omega) (by omega)⟩⟩
   ·have e:z = ((i + 1:Nat):Int):=by rw [hz,wrap_in (inRo (by omega))]; rfl
    subst e
    simp [fitSlotsA,fit1A,kb,slot]
   ·refine ⟨fun f => ?_,fun f => ?_,trivial⟩
    ·unfold thI
     rw [if_pos rfl]
     by_cases h1:f < i
     ·rw [if_pos h1]
      refine ⟨_,rfl,?_⟩
      unfold famL
      refine ⟨by simp [h1]; omega,rfl,rfl,rfl,rfl,fun j hj => ?_⟩
      have:j = 0:=by simp only at hj; split at hj <;> omega
      subst this
      exact fitLA_body
     ·rw [if_neg h1]
      by_cases h2:f = i
      ·subst h2
       rw [if_pos rfl]
       refine ⟨_,rfl,?_⟩
       unfold famL fam1
       refine ⟨by simp,rfl,rfl,rfl,rfl,fun j hj => ?_⟩
       have:j = 0:=by simp only at hj; split at hj <;> omega
       subst this
       exact fitLA_body
      ·rw [if_neg h2]
       exact ⟨if_neg (by omega),rfl⟩
    ·unfold thI
     rw [if_neg (by omega)]
     refine ⟨_,rfl,?_⟩
     unfold famN
     split
     ·refine ⟨rfl,rfl,rfl,rfl,rfl,fun j _ => ?_⟩
      dsimp only
      by_cases h1:j = i
      ·subst h1
       simp [fitLA,fit1A]
      ·by_cases h2:j < i
       ·rw [if_pos (by omega),if_neg h1,if_pos h2]
        simp [fitLA,fit1A,h2]
       ·rw [if_neg (by omega),if_neg h1,if_neg h2]
        simp [fitLA,fit1A,kb]
     ·exact ⟨rfl,rfl,rfl,rfl,rfl,fun j hj => absurd hj (Nat.not_lt_zero j)⟩
  ·have e:i = N:=by omega
   subst e
   refine ⟨3,8,_,_,by omega,rfl,rfl,rfl,⟨rfl,rfl,rfl,rfl,fun j hj => ?_⟩,fun j hj => ⟨if_pos hj,rfl,rfl,rfl,fun q hq => ?_⟩⟩
   ·show (if j < i then _ else _) = _
    exact if_pos hj
   ·have hq:q < 1:=hq
    show (if q = 0 then _ else _) = _
    exact if_pos (by omega)
 ·cases hF
theorem ofC_len {l:List AV} (h:l.length = 27):ofC (some (true,27)) l = some (.agg l):=by
 rw [ofC_agg,if_pos (by omega),← h,List.take_length]
theorem fitL_clean {N M:Nat} {σ:Names}:∀ {l:List AV},cleanCs l = true→fitL N M σ l l
 | [],_ => trivial
 | a :: l,h => by
  simp only [cleanCs,Bool.and_eq_true] at h
  refine ⟨?_,fitL_clean h.2⟩
  have h1:=h.1
  cases a <;> first | exact ⟨rfl,trivial⟩ | trivial | simp [cleanC] at h1
def mNtel:MCon:=mcTR 27 151 155 57
theorem con75L:MConOK prog 75 (mcTL 27 151 155 57):=MConOK.mcTL (G:=[]) (H:=[]) .nil func75 fun N get hN hcl hlen => by
 refine ⟨by kernel_rfl,bodyM_go (rs:=[.tmp 2]) rfl rfl ?_⟩
 simp only [go_sem]
 have hby:bytesT prog 57 = 224:=by kernel_rfl
 rw [hby]
 refine ⟨by omega,by omega,by omega,?_⟩
 refine loopC_go (fun (i:Nat) => i≤N) (fun i => N - i) (fun i => [(11,i64 (i:Int))]) (fun i => [(4,famN N 27 57 (fun j => if j < i then get j else [.v (.int .i64 0),.v (.int .i64 0),.v (.int .i64 0),.v (.int .i64 0),.v (.slice none 0 0),.v (.int .i64 0),.v (.bool false),.v (.int .i64 0),.v (.bool false),.v (.int .i64 0),.v (.bool false),.v (.int .i64 0),.v (.bool false),.v (.int .i64 0),.v (.bool false),.v (.int .i64 0),.v (.bool false),.v (.int .i64 0),.v (.bool false),.v (.int .i64 0),.v (.bool false),.v (.int .i64 0),.v (.bool false),.v (.int .i64 0),.v (.bool false),.v (.bool false),.v (.int .i64 0)]) none)]) [0] [12,13,14,15,4,5,16,17,18,19,20,21,22,23,11] 0 (by kernel_rfl) ?_ (Nat.zero_le _) ?_ ?_
 ·intro x _; simp [goodNames,asg]
 ·simp only [go_sem,Nat.not_lt_zero,if_false,implies_true]
 intro i hi
 by_cases hiN:i < N
 ·obtain ⟨hl,ha⟩:=hlen i hiN
  have hl27:(get i).drop 27 = []:=by rw [List.drop_eq_nil_iff]; omega
  have hof:=ofC_len hl
  simp only [go_sem,Nat.lt_irrefl,if_false,hl,ha,hof,hl27]
  refine ⟨fun h => ⟨by omega,h,hiN,hiN,by omega,h,hiN,fun z hz => ⟨i + 1,by omega,by omega,by rw [hz,wrap_in (inRo (by omega))]; rfl,fun j hj => ?_⟩⟩,fun h => absurd hiN (by omega)⟩
  by_cases e:j = i
  ·subst e
   rw [if_pos (by omega),if_pos rfl]
   exact fitL_clean (hcl j hj)
  ·rw [if_neg e]
   by_cases e2:j < i
   ·rw [if_pos (by omega),if_pos e2]
    exact fitL_clean (hcl j hj)
   ·rw [if_neg (by omega),if_neg e2]
    exact fitL_clean rfl
 ·simp only [go_sem]
  refine ⟨fun h => absurd h (by omega),fun h => ⟨4,_,by omega,rfl,rfl,fun j hj => if_pos (by omega)⟩⟩
theorem con75m:MConOK prog 75 mNtel:=MConOK.mcTR con75L
def nwE (k r w t:Int) (n:Nat) (X Y:Nat→Int) (at' rot:V2) (d:Int) (mv:Bool):Int:=
 if chkS k r w t n X Y≠0 then chkS k r w t n X Y else
 if (if mv = true then wgE k r w t n X Y d else if d≠0 then 3 else 0)≠0 then (if mv = true then wgE k r w t n X Y d else if d≠0 then 3 else 0) else plErr k r w t n X Y at' rot
def nwW (k r w t:Int) (n:Nat) (X Y:Nat→Int) (d:Int) (mv:Bool):Nb×Nb:=if mv = true then wgS k r w t n X Y d else ((0,false),(0,false))
def zV:V2:=((0,false),(0,false))
def nwB (k r w t:Int) (n:Nat) (X Y:Nat→Int) (at' rot:V2) (d:Int) (mv:Bool):Bd:=
 if nwE k r w t n X Y at' rot d mv = 0 then ⟨k,r,w,t,n,X,Y,at',rot,zV,(0,false),(nwW k r w t n X Y d mv).1,(nwW k r w t n X Y d mv).2,0,false,false,1⟩
 else ⟨0,0,0,0,0,X,Y,zV,zV,zV,(0,false),(0,false),(0,false),0,false,false,0⟩
theorem alk_bodyT {a b c d e p q:AV} {l:List AV} (h:alk p q):alk (.tup [.agg (a :: b :: c :: d :: p :: l),e]) (.tup [.agg (a :: b :: c :: d :: q :: l),e]):=fun w ρ v hR => by
 cases hR with
 | tup hl hh =>
  refine .tup hl fun i x z h1 h2 => ?_
  match i with
  | 0 =>
   simp at h1; subst h1
   have:=hh 0 _ z rfl h2
   cases this with
   | agg hl' hh' =>
    refine .agg hl' fun j x y h3 h4 => ?_
    match j with
    | 0 => exact hh' 0 x y h3 h4
    | 1 => exact hh' 1 x y h3 h4
    | 2 => exact hh' 2 x y h3 h4
    | 3 => exact hh' 3 x y h3 h4
    | 4 =>
     simp at h3; subst h3
     exact h _ _ _ (hh' 4 _ y rfl h4)
    | m + 5 => exact hh' (m + 5) x y h3 h4
  | i + 1 => exact hh (i + 1) x z h1 h2
theorem vc96 (k r w t:Int) (n:Nat) (X Y:Nat→Int) (at' rot:V2) (d:Int) (mv:Bool) (hX:∀ i,i < n→inR (X i)∧inR (Y i)) (hn:n≤9223372036854775806) (h0:inR at'.1.1) (h1:inR at'.2.1) (h2:inR rot.1.1) (h3:inR rot.2.1) (hd:inR d) :
  fnVC prog [(166,c202),(167,c167),(146,c145),(168,c168)] [(13,⟨[(5,.slot 8)],[]⟩)] Tryz.f96 [shapeA k r w t n fun i => [i64 (X i),i64 (Y i)],poseA at' rot,i64 d,bo mv] (alk (.tup [boA (nwB k r w t n X Y at' rot d mv),i64 (nwE k r w t n X Y at' rot d mv)])):=by
 refine fnVC_go (rs:=[.cell 8 57,.tmp 9]) rfl rfl ?_
 have hg:spots n fun i => [i64 (X i),i64 (Y i)]:=fun i hi => ⟨rfl,hX i hi⟩
 simp only [go_sem,c202,c167,c145,c168,wgV,hg,hn,hd,gx_pts0,gx_pts1,h0,h1,h2,h3]
 simp only [forall_eq,Int.reduceBEq,Int.reduceBNe,reduceCtorEq,false_imp_iff,true_imp_iff,true_and,and_true]
 have n8:chkS k r w t n X Y = 0→n≤1000:=fun h => by
  have:=chk_cases h
  omega
 have bad:∀ e:Int,nwE k r w t n X Y at' rot d mv = e→e≠0→alk (AV.tup [boA (nwB k r w t n X Y at' rot d mv),i64 (nwE k r w t n X Y at' rot d mv)]) (.tup [.agg [i64 0,i64 0,i64 0,i64 0,.v (.slice none 0 0),i64 0,bo false,i64 0,bo false,i64 0,bo false,i64 0,bo false,i64 0,bo false,i64 0,bo false,i64 0,bo false,i64 0,bo false,i64 0,bo false,i64 0,bo false,bo false,i64 0],i64 e]):=fun e he hne => by
  subst he
  rw [show nwB k r w t n X Y at' rot d mv = _ from if_neg hne]
  exact alk_bodyT alk_nil
 have good:∀ m:Nb×Nb,nwE k r w t n X Y at' rot d mv = 0→nwW k r w t n X Y d mv = m→alk (AV.tup [boA (nwB k r w t n X Y at' rot d mv),i64 (nwE k r w t n X Y at' rot d mv)]) (.tup [.agg [i64 k,i64 r,i64 w,i64 t,.ro n 2 fun i => [i64 (X i),i64 (Y i)],i64 at'.1.1,bo at'.1.2,i64 at'.2.1,bo at'.2.2,i64 rot.1.1,bo rot.1.2,i64 rot.2.1,bo rot.2.2,i64 0,bo false,i64 0,bo false,i64 0,bo false,i64 m.1.1,bo m.1.2,i64 m.2.1,bo m.2.2,i64 0,bo false,bo false,i64 1],i64 0]):=fun m he hm => by
  subst hm
  rw [show nwB k r w t n X Y at' rot d mv = _ from if_pos he,he]
  exact fun _ _ _ h => h
 refine ⟨fun h => bad _ (if_pos (bne_iff_ne.1 h)) (bne_iff_ne.1 h),fun h => ?_⟩
 have h:chkS k r w t n X Y = 0:=by simpa using h
 have eE:nwE k r w t n X Y at' rot d mv = if (if mv = true then wgE k r w t n X Y d else if d≠0 then 3 else 0)≠0 then (if mv = true then wgE k r w t n X Y d else if d≠0 then 3 else 0) else plErr k r w t n X Y at' rot:=if_neg (by simpa using h)
 refine ⟨fun hv => ?_,fun hv => ?_⟩
 ·have eW:nwW k r w t n X Y d mv = wgS k r w t n X Y d:=if_pos hv
  rw [if_pos hv] at eE
  refine ⟨fun g => ?_,fun g => ?_⟩
  ·rw [if_neg (by simpa using g)] at eE
   exact ⟨fun p => bad _ eE (bne_iff_ne.1 p),fun p => ⟨n8 h,good _ (eE.trans (by simpa using p)) eW⟩⟩
  ·have g:wgE k r w t n X Y d≠0:=by simpa using g
   rw [if_pos g] at eE
   exact ⟨fun p => bad _ eE g,fun p => absurd (by simpa using p) g⟩
 ·have eW:nwW k r w t n X Y d mv = ((0,false),(0,false)):=if_neg (by simp [hv])
  have eI:(if mv = true then wgE k r w t n X Y d else if d≠0 then 3 else 0) = if d≠0 then 3 else 0:=if_neg (by simp [hv])
  rw [eI] at eE
  refine ⟨fun g => ?_,fun g => ?_⟩
  ·have g:d≠0:=by simpa using g
   have eJ:(if d≠0 then (3:Int) else 0) = 3:=if_pos g
   rw [eJ,if_pos (by decide)] at eE
   exact bad _ eE (by decide)
  ·have g:d = 0:=by simpa using g
   have eJ:(if d≠0 then (3:Int) else 0) = 0:=if_neg (by simpa using g)
   rw [eJ,if_neg (by decide)] at eE
   refine ⟨fun _ => ⟨fun p => bad _ eE (bne_iff_ne.1 p),fun p => ⟨n8 h,good _ (eE.trans (by simpa using p)) eW⟩⟩,fun g2 => absurd h (by simpa using g2)⟩
def c96:Con
 | [.agg [.v (.int .i64 k),.v (.int .i64 r),.v (.int .i64 w),.v (.int .i64 t),.ro n 2 g],.agg [.v (.int .i64 x),.v (.bool e),.v (.int .i64 y),.v (.bool f),.v (.int .i64 c),.v (.bool o),.v (.int .i64 s),.v (.bool p)],.v (.int .i64 d),.v (.bool mv)] => some ([spots n g,n≤9223372036854775806,inR x,inR y,inR c,inR s,inR d],.tup [boA (nwB k r w t n (gx g 0) (gx g 1) ((x,e),(y,f)) ((c,o),(s,p)) d mv),i64 (nwE k r w t n (gx g 0) (gx g 1) ((x,e),(y,f)) ((c,o),(s,p)) d mv)])
 | _ => none
theorem con96:ConOK prog 96 c96:=ConOK.goR (G:=[(166,c202),(167,c167),(146,c145),(168,c168)]) (H:=[(13,⟨[(5,.slot 8)],[]⟩)]) (.cons con166 (.cons con167 (.cons con146 (.cons con168 .nil)))) func96 fun l ob rr hc hob => by
 unfold c96 at hc
 split at hc
 ·rename_i k r w t n g x e y f c o s p d mv
  cases hc
  have hs:spots n g:=hob _ (by simp)
  refine ⟨[shapeA k r w t n fun i => [i64 (gx g 0 i),i64 (gx g 1 i)],poseA ((x,e),(y,f)) ((c,o),(s,p)),i64 d,bo mv],fun w I vs h => ?_,by kernel_rfl,vc96 k r w t n _ _ ((x,e),(y,f)) ((c,o),(s,p)) d mv (fun i hi => (hs i hi).2) (hob _ (by simp)) (hob _ (by simp)) (hob _ (by simp)) (hob _ (by simp)) (hob _ (by simp)) (hob _ (by simp))⟩
  obtain ⟨x,xs,rfl,h1,h2⟩:=h.inv
  exact .cons (Rs_shape hs _ h1) h2
 ·cases hc
def mkD (dn kd:Int):Int:=if modS kd 4 = 0 then 0 else 1 + modS dn 1000
def nuN (x s:Int):Nb:=(x.tmod (s * 4294967296),false)
def mk0 (a b c x y u dn kd s:Int):Bd:=nwB (mkK a) (mkR a b) (mkH a b b) (mkH a b c) (mkN a) (mkX a b c) (mkY a b c) (foAt x y s) (foRot u) (mkD dn kd) (modS kd 4 != 0)
def mkB (a b c x y u vx vy sp dn kd s:Int):Bd:=
 if modS kd 4 = 1 then { mk0 a b c x y u dn kd s with v:=(nuN vx 200,nuN vy 200),w:=nuN sp 60 }
 else if modS kd 4 = 2 then { mk0 a b c x y u dn kd s with st:=30,sl:=true }
 else if modS kd 4 = 3 then { mk0 a b c x y u dn kd s with sl:=true,fa:=true }
 else mk0 a b c x y u dn kd s
theorem wrD {dn:Int}:IntKind.i64.wrap (1 + modS dn 1000) = 1 + modS dn 1000:=by
 have h:=modS_bd (n:=dn) (m:=1000) (by omega)
 exact wrap_in (inRo (by omega))
theorem mk_spots {a b c:Int}:(spots (mkN a) fun i => [i64 (mkX a b c i),i64 (mkY a b c i)]) = True:=eq_true fun i hi => ⟨rfl,mk_inR i hi⟩
theorem snV_inR {x:Int} {f:Bool}:inR (snV x f):=by
 have h:=@snV_rg x f
 unfold rg at h
 unfold inR
 omega
theorem csV_inR {x:Int} {f:Bool}:inR (csV x f):=snV_inR
def kb24:Con
 | [.agg [.v (.int .i64 a),.v (.int .i64 b),.v (.int .i64 c),.v (.int .i64 x),.v (.int .i64 y),.v (.int .i64 u),.v (.int .i64 p),.v (.int .i64 q),.v (.int .i64 r),.v (.int .i64 d),.v (.int .i64 k)],.v (.int .i64 s)] => some ([inR a,inR b,inR c,inR x,inR y,inR u,inR p,inR q,inR r,inR d,inR k,1≤s∧s≤1000000],boA (mkB a b c x y u p q r d k s))
 | _ => none
theorem con24:ConOK prog 24 kb24:=ConOK.of (G:=[(31,c31),(97,c97),(98,c98),(96,c96),(53,c53)]) (H:=[(5,⟨[(15,.made 14)],[]⟩),(8,⟨[(11,.slot 7),(13,.slot 7)],[]⟩)]) (.cons con31 (.cons con97 (.cons con98 (.cons con96 (.cons con53 .nil))))) func24 fun l ob rr hc hob => by
 unfold kb24 at hc
 split at hc
 ·rename_i a b c x y u p q r d k s
  cases hc
  have h_0:=ob0 hob
  have h_1:=ob1 hob
  have h_2:=ob2 hob
  have h_3:=ob3 hob
  have h_4:=ob4 hob
  have h_5:=ob5 hob
  have h_6:=ob6 hob
  have h_7:=ob7 hob
  have h_8:=ob8 hob
  have h_9:=ob9 hob
  have h_10:=ob10 hob
  have h_11:=ob11 hob
  clear hob
  refine ⟨by kernel_rfl,fnVC_go (rs:=[.cell 4 57]) rfl rfl ?_⟩
  simp only [go_sem,c31,c97,c98,c96,c53,boA,bodyC,mk_spots,gx_pts0,gx_pts1,wrD,h_0,h_1,h_2,h_3,h_4,h_5,h_6,h_7,h_8,h_9,h_10,h_11]
  simp only [forall_eq,true_imp_iff,true_and,and_true,wrD]
  refine ⟨inRo (by omega),inRo (by omega),fun g0 => ?_,fun g0 => ?_⟩
  ·have e0:mk0 a b c x y u d k s = nwB (mkK a) (mkR a b) (mkH a b b) (mkH a b c) (mkN a) (mkX a b c) (mkY a b c) (foAt x y s) (foRot u) 0 (modS k 4 != 0):=by
    unfold mk0; rw [show mkD d k = 0 from if_pos (by simpa using g0)]
   exact ⟨mkN_le,tmod_inR h_11,tmod_inR h_11,csV_inR,snV_inR,fun g1 => by
     rw [show mkB a b c x y u p q r d k s = { mk0 a b c x y u d k s with v:=(nuN p 200,nuN q 200),w:=nuN r 60 } from if_pos (by simpa using g1),e0] <;> rfl,
    fun g1 => ⟨fun g2 => by
     rw [show mkB a b c x y u p q r d k s = { mk0 a b c x y u d k s with st:=30,sl:=true } from (if_neg (by simpa using g1)).trans (if_pos (by simpa using g2)),e0] <;> rfl,
    fun g2 => ⟨fun g3 => by
     rw [show mkB a b c x y u p q r d k s = { mk0 a b c x y u d k s with sl:=true,fa:=true } from (if_neg (by simpa using g1)).trans ((if_neg (by simpa using g2)).trans (if_pos (by simpa using g3))),e0] <;> rfl,
    fun g3 => by
     rw [show mkB a b c x y u p q r d k s = mk0 a b c x y u d k s from (if_neg (by simpa using g1)).trans ((if_neg (by simpa using g2)).trans (if_neg (by simpa using g3))),e0] <;> rfl⟩⟩⟩
  ·have e0:mk0 a b c x y u d k s = nwB (mkK a) (mkR a b) (mkH a b b) (mkH a b c) (mkN a) (mkX a b c) (mkY a b c) (foAt x y s) (foRot u) (1 + modS d 1000) (modS k 4 != 0):=by
    unfold mk0; rw [show mkD d k = 1 + modS d 1000 from if_neg (by simpa using g0)]
   exact ⟨mkN_le,tmod_inR h_11,tmod_inR h_11,csV_inR,snV_inR,by have:=modS_bd (n:=d) (m:=1000) (by omega); unfold inR; omega,fun g1 => by
     rw [show mkB a b c x y u p q r d k s = { mk0 a b c x y u d k s with v:=(nuN p 200,nuN q 200),w:=nuN r 60 } from if_pos (by simpa using g1),e0] <;> rfl,
    fun g1 => ⟨fun g2 => by
     rw [show mkB a b c x y u p q r d k s = { mk0 a b c x y u d k s with st:=30,sl:=true } from (if_neg (by simpa using g1)).trans (if_pos (by simpa using g2)),e0] <;> rfl,
    fun g2 => ⟨fun g3 => by
     rw [show mkB a b c x y u p q r d k s = { mk0 a b c x y u d k s with sl:=true,fa:=true } from (if_neg (by simpa using g1)).trans ((if_neg (by simpa using g2)).trans (if_pos (by simpa using g3))),e0] <;> rfl,
    fun g3 => by
     rw [show mkB a b c x y u p q r d k s = mk0 a b c x y u d k s from (if_neg (by simpa using g1)).trans ((if_neg (by simpa using g2)).trans (if_neg (by simpa using g3))),e0] <;> rfl⟩⟩⟩
 ·cases hc
def mTwo:MCon:=mc2P 27 151 155
theorem con152m:MConOK prog 152 mTwo:=MConOK.mc2P (G:=[]) (H:=[]) .nil func152 fun N get hN a b => by
 refine ⟨by kernel_rfl,bodyM_go (rs:=[.tmp 6,.tmp 7,.tmp 8]) rfl rfl ?_⟩
 simp only [go_sem]
 intro z hz z1 hz1
 refine ⟨fun h => (if_neg fun hc => ?_).symm,fun h => ?_⟩
 ·rcases h with h | h
  ·omega
  ·have:a = b:=by simpa using h
   exact hc.2.2.2.2 this
 ·have hne:a≠b:=by simpa using h.2
  have hc:0≤a∧a < N∧0≤b∧b < N∧a≠b:=⟨by omega,by omega,by omega,by omega,hne⟩
  refine ⟨hc.1,hc.2.1,by omega,hc.2.2.1,hc.2.2.2.1,by omega,(if_pos hc).symm⟩
def sliK (a b:Bd) (x n:V2):Nb:=nAdd (hftS a x n) (hftS b x n)
def sliS (a b:Bd) (x n:V2):Nb:=nDiv (nNeg (vDot (vSub (spdS b x) (spdS a x)) n)) (sliK a b x n)
def kSli:Con
 | [.rop l,.rop l',.agg [.v (.int .i64 x),.v (.bool e),.v (.int .i64 y),.v (.bool f)],.agg [.v (.int .i64 z),.v (.bool g),.v (.int .i64 u),.v (.bool h)]] => some ([l = bodyC (bodyD l),l' = bodyC (bodyD l'),inB (bodyD l),inB (bodyD l'),inR x,inR y,inR z,inR u],
  .tup [.agg [i64 (sliS (bodyD l) (bodyD l') ((x,e),(y,f)) ((z,g),(u,h))).1,bo (sliS (bodyD l) (bodyD l') ((x,e),(y,f)) ((z,g),(u,h))).2],bo (!((sliK (bodyD l) (bodyD l') ((x,e),(y,f)) ((z,g),(u,h))).1 == 0))])
 | _ => none
theorem con161:ConOK prog 161 kSli:=ConOK.of (G:=[(151,kb151),(153,kw153),(150,kb150),(157,k172),(219,k178),(164,k179),(155,k168)]) (H:=[(1,⟨[(10,.made 9)],[]⟩),(2,⟨[(8,.made 7)],[]⟩),(3,⟨[(9,.slot 8)],[(7,[.slot 8])]⟩)]) (.cons konb151 (.cons konw153 (.cons konb150 (.cons kon172 (.cons kon178 (.cons kon179 (.cons kon168 .nil))))))) func161 fun l ob r hc hob => by
 unfold kSli at hc
 split at hc
 ·rename_i l l' x e y f z g u h
  cases hc
  have h1:l = bodyC (bodyD l):=hob _ (by simp)
  have h2:l' = bodyC (bodyD l'):=hob _ (by simp)
  have ha:inB (bodyD l):=hob _ (by simp)
  have hb:inB (bodyD l'):=hob _ (by simp)
  have k1:inR x:=hob _ (by simp)
  have k2:inR y:=hob _ (by simp)
  have k3:inR z:=hob _ (by simp)
  have k4:inR u:=hob _ (by simp)
  clear hob
  generalize bodyD l = a at *
  generalize bodyD l' = b at *
  subst h1 h2
  refine ⟨by kernel_rfl,fnVC_go (rs:=[.cell 8 24,.tmp 9]) rfl rfl ?_⟩
  simp only [go_sem,kb151,kw153,kb150,k172,k178,k179,k168,cBR_eq,ha,hb,k1,k2,k3,k4]
  rfl
 ·cases hc
def apaF:List AV→List AV→List AV→Option (List Prop×AV×List AV×List AV)
 | l,l',[.agg [.v (.int .i64 x),.v (.bool e),.v (.int .i64 y),.v (.bool f)],.agg [.v (.int .i64 x'),.v (.bool e'),.v (.int .i64 y'),.v (.bool f')],.agg [.v (.int .i64 z),.v (.bool g),.v (.int .i64 u),.v (.bool h)],.agg [.v (.int .i64 d),.v (.bool k)]] =>
  some ([l = bodyC (bodyD l),l' = bodyC (bodyD l'),inB (bodyD l),inB (bodyD l'),inR x,inR y,inR x',inR y',inR z,inR u,inR d],.tup [],bodyC (pshS (bodyD l) ((x,e),(y,f)) (vScale ((z,g),(u,h)) (nNeg (d,k)))),bodyC (pshS (bodyD l') ((x',e'),(y',f')) (vScale ((z,g),(u,h)) (d,k))))
 | _,_,_ => none
def mApa:MCon:=mcPP 27 apaF
theorem famE_comm {fam:Fam} {f f' i i':Nat} {c c':List AV} (h:f≠f'):famE (famE fam f' i' c') f i c = famE (famE fam f i c) f' i' c':=by
 funext q
 unfold famE
 by_cases h1:q = f
 ·subst h1; simp [h]
 ·by_cases h2:q = f'
  ·subst h2; simp [h1,Ne.symm h]
  ·simp [h1,h2]
theorem con162m:MConOK prog 162 mApa:=MConOK.mcPP (G:=[(164,k179),(122,k169),(115,.wr kw115)]) (H:=[(1,⟨[(6,.call)],[]⟩),(2,⟨[(5,.call)],[]⟩)]) (.cons kon179 (.cons kon169 (.mcons konw115 .nil))) func162 fun l l' rest ob val cs cs' hF hob => by
 unfold apaF at hF
 split at hF
 ·rename_i x e y f x' e' y' f' z g u h d k
  cases hF
  have h1:l = bodyC (bodyD l):=hob _ (by simp)
  have h2:l' = bodyC (bodyD l'):=hob _ (by simp)
  have ha:inB (bodyD l):=hob _ (by simp)
  have hb:inB (bodyD l'):=hob _ (by simp)
  have k1:inR x:=hob _ (by simp)
  have k2:inR y:=hob _ (by simp)
  have k3:inR x':=hob _ (by simp)
  have k4:inR y':=hob _ (by simp)
  have k5:inR z:=hob _ (by simp)
  have k6:inR u:=hob _ (by simp)
  have k7:inR d:=hob _ (by simp)
  clear hob
  generalize bodyD l = a at *
  generalize bodyD l' = b at *
  subst h1 h2
  refine ⟨by simp [clean],rfl,cleanC_body,cleanC_body,by kernel_rfl,fun fam f i f' i' hne hi hi' hs hs' hg hk => bodyM_go (rs:=[]) rfl rfl ?_⟩
  have e1:∀ (fam:Fam) (j:Nat) (c:List AV),famE fam f' j c f = fam f:=fun _ _ _ => famE_off hne
  have e2:∀ (fam:Fam) (j:Nat) (c:List AV),famE fam f j c f' = fam f':=fun _ _ _ => famE_off (Ne.symm hne)
  have e3:∀ (fam:Fam) (j j':Nat) (c c':List AV),famE (famE fam f' j' c') f j c = famE (famE fam f j c) f' j' c':=fun _ _ _ _ _ => famE_comm hne
  simp only [go_sem,k179,k169,kw115,cBR_eq,mB_ptr,mbP_some,stepC_mbQ,ha,hb,k1,k2,k3,k4,k5,k6,k7,e1,e2,e3,hi,hi',hg,hk,← hs,← hs']
  intro c hc b' hb'
  rw [hc,hb']
 ·cases hF
def updB (B:Nat→Bd) (i:Nat) (b:Bd):Nat→Bd:=fun j => if j = i then b else B j
theorem updB_at {B:Nat→Bd} {i:Nat} {b:Bd}:updB B i b i = b:=if_pos rfl
theorem updB_off {B:Nat→Bd} {i j:Nat} {b:Bd} (h:j≠i):updB B i b j = B j:=if_neg h
theorem bsC_upd {B:Nat→Bd} {i:Nat} {b:Bd}:(fun j => if j = i then bodyC b else bsC B j) = bsC (updB B i b):=funext fun j => by
 unfold bsC updB
 split <;> rfl
theorem famT_upd {K N sz:Nat} {tp ty:TypeId} {B:Nat→Bd} {i:Nat} {b:Bd}:famT K N sz tp ty (fun j => if j = i then bodyC b else bsC B j) = famT K N sz tp ty (bsC (updB B i b)):=by rw [bsC_upd]
theorem famT_upd2 {K N sz:Nat} {tp ty:TypeId} {B:Nat→Bd} {i:Nat} {b:Bd}:famT K N sz tp ty (fun j => if j = i then bodyC b else bodyC (B j)) = famT K N sz tp ty (bsC (updB B i b)):=famT_upd
theorem tabOK_bs {K N:Nat} {B:Nat→Bd}:tabOK K N 27 151 155 (famT K N 27 151 155 (bsC B)) = True:=tabOK_T fun _ _ => rfl
theorem famOK_bs {K N:Nat} {B:Nat→Bd}:famOK K (famT K N 27 151 155 (bsC B)) = True:=famOK_T fun _ _ => rfl
attribute [go_sem] famT_upd famT_upd2 tabOK_bs famOK_bs bsC_at bsD_C
structure Ct where
 a:Int
 b:Int
 nv:V2
 n:Nat
 P:Nat→V2
 D:Nat→Nb
 p0:Nb
 p1:Nb
 r0:Nb
 r1:Nb
def tchC (p:V2) (d:Nb):List AV:=[i64 p.1.1,bo p.1.2,i64 p.2.1,bo p.2.2,i64 d.1,bo d.2]
def tchs (P:Nat→V2) (D:Nat→Nb):Nat→List AV:=fun j => tchC (P j) (D j)
theorem tchs_at {P:Nat→V2} {D:Nat→Nb} {j:Nat}:tchs P D j = tchC (P j) (D j):=(rfl)
def contC (c:Ct):List AV:=[i64 c.a,i64 c.b,i64 c.nv.1.1,bo c.nv.1.2,i64 c.nv.2.1,bo c.nv.2.2,.ro c.n 6 (tchs c.P c.D),
 i64 c.p0.1,bo c.p0.2,i64 c.p1.1,bo c.p1.2,i64 c.r0.1,bo c.r0.2,i64 c.r1.1,bo c.r1.2]
def tchP (g:Nat→List AV):Nat→V2:=fun j => ((gi (g j) 0,gib (g j) 1),(gi (g j) 2,gib (g j) 3))
def tchD (g:Nat→List AV):Nat→Nb:=fun j => (gi (g j) 4,gib (g j) 5)
def contD (l:List AV):Ct:=
 ⟨gi l 0,gi l 1,((gi l 2,gib l 3),(gi l 4,gib l 5)),roN l 6,tchP (roG l 6),tchD (roG l 6),(gi l 7,gib l 8),(gi l 9,gib l 10),(gi l 11,gib l 12),(gi l 13,gib l 14)⟩
theorem contD_C (c:Ct):contD (contC c) = c:=rfl
section
variable {a b x y p q r s:Int} {n:Nat} {P:Nat→V2} {D:Nat→Nb} {e f k l m o:Bool}
end
def inC (c:Ct):Prop:=inR c.a∧inR c.b∧inR c.nv.1.1∧inR c.nv.2.1∧(∀ j,j < c.n→inR (c.P j).1.1∧inR (c.P j).2.1∧inR (c.D j).1)∧inR c.p0.1∧inR c.p1.1∧inR c.r0.1∧inR c.r1.1
theorem byt69:bytesT prog 69 = 48:=by kernel_rfl
section
variable {P:Program} {G:Ctx} {H:Hots} {K0:AEx→St→Prop} {hot:Option Hot} {ops:Array Oper} {d:Option Tmp} {rest:List Oper} {i k:Nat} {st:List Fr} {t:Slots} {m:Mem} {nx:Nat} {o:List Prop} {u:Upd} {b:Ct} {c:Bool}
theorem ofC_cont:ofC (some (true,15)) (contC b) = some (.agg (contC b)):=(rfl)
theorem cells_cont:cellsOf (.agg (contC b)) = some (contC b):=(rfl)
theorem drop_cont:(contC b).drop 15 = []:=(rfl)
theorem take_cont:(contC b).take 15 = contC b:=(rfl)
theorem cleanCs_cont:cleanCs (contC b) = true:=(rfl)
theorem clean_cont:clean 3 (.agg (contC b)) = true:=(rfl)
theorem cleanL_cont:cleanL 2 (contC b) = true:=(rfl)
theorem allCells_cont:allCells (contC b) = true:=(rfl)
theorem len_cont:(contC b).length = 15:=(rfl)
theorem purUL_cont:purUL 2 m (contC b) = contC b:=(rfl)
theorem pgsL_cont:pgsL 2 m (contC b) = []:=(rfl)
theorem purL_cont {d:Nat}:purL d m (contC b) = contC b:=by cases d <;> rfl
theorem bindL_cont:bindL P G H K0 hot ops d rest i st t m nx o u false [] (contC b) = bindC P G H K0 hot ops d rest i st t m nx o u (.agg (contC b)):=by
 unfold bindL; simp
end
attribute [go_sem] ofC_cont cells_cont drop_cont take_cont cleanCs_cont clean_cont cleanL_cont allCells_cont len_cont purUL_cont pgsL_cont purL_cont bindL_cont contD_C
def kCon:Con
 | [.agg l] => some ([l = contC (contD l),(contD l).n≤1000],.agg (contC (contD l)))
 | _ => none
theorem con88:ConOK prog 88 kCon:=ConOK.of (G:=[]) (H:=[]) .nil func88 fun l ob r hc hob => by
 unfold kCon at hc
 split at hc
 ·rename_i l
  cases hc
  have e:l = contC (contD l):=hob _ (by simp)
  have hn:(contD l).n≤1000:=hob _ (by simp)
  generalize contD l = c at *
  subst e
  refine ⟨by kernel_rfl,fnVC_go (rs:=[.cell 2 32]) rfl rfl ?_⟩
  simp only [contC,go_sem]
  exact ⟨fun _ _ => rfl,by rw [byt69]; omega,by omega,rfl⟩
 ·cases hc
def apB (N:Nat) (a b:Int):Prop:=0≤a∧a < N∧0≤b∧b < N∧a≠b
instance {N:Nat} {a b:Int}:Decidable (apB N a b):=by unfold apB; infer_instance
def dpS (c:Ct):Nb:=if 1 < c.n then nMx (c.D 0) (c.D 1) else c.D 0
def parK (a b:Bd) (c:Ct):Nb:=nDiv (nMul (nPos (nSub (dpS c) (nRat 1 64))) (nRat 1 5)) (nAdd a.m b.m)
def parA (a b:Bd) (c:Ct):Bd:=shfS a (vSub a.pl (vScale c.nv (nMul (parK a b c) a.m)))
def parB (a b:Bd) (c:Ct):Bd:=shfS b (vAdd b.pl (vScale c.nv (nMul (parK a b c) b.m)))
def parT (N:Nat) (B:Nat→Bd) (c:Ct):Nat→Bd:=
 if apB N c.a c.b∧c.n≠0∧(nAdd (B c.a.toNat).m (B c.b.toNat).m).1≠0 then updB (updB B c.a.toNat (parA (B c.a.toNat) (B c.b.toNat) c)) c.b.toNat (parB (B c.a.toNat) (B c.b.toNat) c) else B
theorem whV_wh {v:Int}:whV (whV v) = whV v:=by unfold whV; (repeat' split) <;> omega
theorem whF_wh {v:Int} {f:Bool}:whF (whV v) f = f:=by
 unfold whF whV
 split
 ·simp
 ·rename_i h; simp [h]
theorem nMx_self {x:Nb}:nMx x x = nWh x:=by
 unfold nMx nWh
 rw [Bool.or_self]
 split <;> rfl
theorem nMx_wh {x y:Nb}:nMx (nWh x) y = nMx x y:=by
 unfold nMx nWh
 dsimp only
 rw [whV_wh,whF_wh]
theorem nSub_wh {x y:Nb}:nSub (nWh x) y = nSub x y:=by
 unfold nSub nWh
 dsimp only
 rw [whV_wh,whF_wh]
def dpq (c:Ct):Nat→Nb
 | 0 => c.D 0
 | 1 => nMx (c.D 0) (c.D 0)
 | _ + 2 => nMx (nMx (c.D 0) (c.D 0)) (c.D 1)
theorem dpq_succ {c:Ct} {i:Nat} (h:i < 2):dpq c (i + 1) = nMx (dpq c i) (c.D i):=by
 match i with
 | 0 => rfl
 | 1 => rfl
 | i + 2 => omega
theorem dpq_in {c:Ct} (h:∀ j,j < c.n→inR (c.D j).1) (hn:c.n≠0):∀ i,i≤min 2 c.n→inR (dpq c i).1
 | 0,_ => h 0 (by omega)
 | 1,_ => of_eq_true (iMx (h 0 (by omega)) (h 0 (by omega)))
 | i + 2,hi => by
  unfold dpq
  rw [nMx_self,nMx_wh]
  by_cases h1:1 < c.n
  ·exact of_eq_true (iMx (h 0 (by omega)) (h 1 h1))
  ·exact absurd h1 (by omega)
def parF:Nat→(Nat→List AV)→List AV→Option (List Prop×AV×(Nat→List AV))
 | N,get,[.agg l] => some ([get = bsC (bsD get),inBs N (bsD get),N≤1000,l = contC (contD l),inC (contD l),(contD l).n≤1000],.tup [],bsC (parT N (bsD get) (contD l)))
 | _,_,_ => none
def mPar:MCon:=mcT 27 151 155 parF
theorem con74m:MConOK prog 74 mPar:=MConOK.mcT (G:=[(152,.wr mTwo),(129,k214),(153,kw153),(132,k132),(154,k160),(125,k129),(155,k168),(122,k169),(157,k172),(156,.wr kw156),(121,k130)]) (H:=[(7,⟨[(10,.slot 7)],[]⟩),(9,⟨[(14,.made 13)],[]⟩),(11,⟨[(7,.made 6)],[]⟩),(12,⟨[(6,.made 5)],[]⟩),(13,⟨[(20,.call)],[]⟩),(14,⟨[(21,.call)],[]⟩)]) (.mcons con152m (.cons kon214 (.cons konw153 (.cons kon132 (.cons kon160 (.cons kon129 (.cons kon168 (.cons kon169 (.cons kon172 (.mcons konw156 (.cons kon130 .nil))))))))))) func74 fun N get rest ob val get' hF hob hcl => by
 unfold parF at hF
 split at hF
 ·rename_i l
  cases hF
  have h1:get = bsC (bsD get):=hob _ (by simp)
  have hB:inBs N (bsD get):=hob _ (by simp)
  have hN:N≤1000:=hob _ (by simp)
  have h2:l = contC (contD l):=hob _ (by simp)
  have hc:inC (contD l):=hob _ (by simp)
  have hn:(contD l).n≤1000:=hob _ (by simp)
  clear hob
  generalize bsD get = B at *
  generalize contD l = c at *
  subst h1 h2
  refine ⟨by simp [clean,contC],rfl,fun i _ => rfl,by kernel_rfl,bodyM_go (rs:=[]) rfl rfl ?_⟩
  simp only [contC,go_sem,k214,kw153,k132,k160,k129,k168,k169,k172,kw156,k130,mTwo,tchs_at,tchC]
  obtain ⟨c1,c2,c3,c4,c5,c6,c7,c8,c9⟩:=id hc
  refine ⟨fun hap z hz => ⟨hN,fun h => ?_,fun h => ⟨by have:=h.2; simp at this; omega,fun z1 hz1 => ?_⟩⟩,fun hap z hz => ⟨hN,fun h => ?_,fun h => by simp [hz] at h⟩⟩
  ·have e:parT N B c = B:=if_neg fun hh => by
    rcases h with h | h
    ·rw [hz] at h; cases h
    ·exact hh.2.1 (by simpa using h)
   rw [e]
  ·have hn0:c.n≠0:=by have:=h.2; intro e; rw [e] at this; simp at this
   have hz1':z1 = ((min 2 c.n:Nat):Int):=by rw [hz1]; omega
   generalize hM:min 2 c.n = M at *
   subst hz1'
   refine loopC_go (fun (i:Nat) => i≤M) (fun i => M - i) (fun i => [(42,i64 (i:Int))]) (fun i => [(30,fam1 24 2 [i64 (dpq c i).1,bo (dpq c i).2] none)]) [1,0] [43,44,8,45,46,47,48,49,50,51,52,53,54,55,42] 0 (by kernel_rfl) ?_ (Nat.zero_le _) ?_ ?_
   ·intro x _; simp [goodNames,asg]
   ·simp only [go_sem,dpq]
   intro i hi
   have hdi:=dpq_in (c:=c) (fun j hj => (c5 j hj).2.2) hn0 i (by omega)
   obtain ⟨a1,a2,a3,a4,a5⟩:=id hap
   obtain ⟨i1,i2⟩:=hB c.a.toNat (by omega)
   obtain ⟨i3,i4⟩:=hB c.b.toNat (by omega)
   obtain ⟨p1,p2,p3,p4,p5,p6,p7,p8,p9,p10,p11,p12,p13,p14,p15,p16⟩:=id i1
   obtain ⟨q1,q2,q3,q4,q5,q6,q7,q8,q9,q10,q11,q12,q13,q14,q15,q16⟩:=id i3
   have hne:¬ c.b.toNat = c.a.toNat:=by omega
   simp only [go_sem,k214,kw153,k132,k160,k129,k168,k169,k172,kw156,k130,tchs_at,tchC,mB_ptr,mbP_some,stepC_mbQ,nums_rows,gx_rows1,gx_rows2,gb_rows1,gb_rows2,hdi,c3,c4,i1,i3,p6,p7,p13,q6,q7,q13,hne,if_false]
   refine ⟨fun hiM => ?_,fun hiM => ?_⟩
   ·have hin:i < c.n:=by omega
    refine ⟨by omega,by omega,(c5 i hin).2.2,fun z2 hz2 => ⟨i + 1,by omega,by omega,by rw [hz2,wrap_in (inRo (by omega))]; rfl,?_⟩⟩
    rw [dpq_succ (by omega)]
    exact ⟨rfl,rfl⟩
   ·have hiM:i = M:=by omega
    subst hiM
    have hd:nSub (dpq c i) (nRat 1 64) = nSub (dpS c) (nRat 1 64):=by
     unfold dpS
     split
     ·have e:i = 2:=by omega
      subst e
      show nSub (nMx (nMx (c.D 0) (c.D 0)) (c.D 1)) _ = _
      rw [nMx_self,nMx_wh]
     ·have e:i = 1:=by omega
      subst e
      show nSub (nMx (c.D 0) (c.D 0)) _ = _
      rw [nMx_self,nSub_wh]
    rw [hd]
    have ha:c.a.toNat < N:=by omega
    have hb:c.b.toNat < N:=by omega
    have hof:∀ b',updB B c.a.toNat b' c.b.toNat = B c.b.toNat:=fun b' => updB_off hne
    simp only [hof]
    refine ⟨ha,hb,fun hk => ?_,fun hk => ⟨inRo (by omega),inRo (by omega),ha,ha,fun b1 hb1 => ⟨ha,hb,hb,q13,⟨q6,q7⟩,fun b2 hb2 => ⟨hb,i3,?_⟩⟩⟩⟩
    ·have e:parT N B c = B:=if_neg fun hh => hh.2.2 (by simpa using hk)
     rw [e]
    ·have e:parT N B c = updB (updB B c.a.toNat (parA (B c.a.toNat) (B c.b.toNat) c)) c.b.toNat (parB (B c.a.toNat) (B c.b.toNat) c):=if_pos ⟨hap,hn0,by simpa using hk⟩
     rw [e,hb1,hb2]
     rfl
  ·have e:parT N B c = B:=if_neg fun hh => hap hh.1
   rw [e]
 ·cases hF
def kPar:Con:=cL fun N B rest => match rest with
 | [.agg l] => some ([N≤1000,inBs N B,l = contC (contD l),inC (contD l),(contD l).n≤1000],.ro N 27 (bsC (parT N B (contD l))))
 | _ => none
theorem inB_shf {b:Bd} {p:V2} (h:inB b) (h1:inR p.1.1) (h2:inR p.2.1):inB (shfS b p):=by
 unfold shfS
 split
 ·obtain ⟨b1,b2,b3,b4,b5,b6,b7,b8,b9,b10,b11,b12,b13,b14,b15,b16⟩:=h
  exact ⟨b1,b2,b3,b4,b5,h1,h2,b8,b9,b10,b11,b12,b13,b14,b15,b16⟩
 ·exact h
theorem shf_n {b:Bd} {p:V2}:(shfS b p).n = b.n:=by unfold shfS; split <;> rfl
theorem par_in {N:Nat} {B:Nat→Bd} {c:Ct} (h:inBs N B):inBs N (parT N B c):=by
 unfold parT
 split
 ·rename_i hh
  have hap:=hh.1
  unfold apB at hap
  intro j hj
  have hA:=h c.a.toNat (by omega)
  have hC:=h c.b.toNat (by omega)
  unfold updB
  split
  ·exact ⟨inB_shf hC.1 (of_eq_true iVAdd1) (of_eq_true iVAdd2),by unfold parB; rw [shf_n]; exact hC.2⟩
  ·split
   ·exact ⟨inB_shf hA.1 (of_eq_true iVSub1) (of_eq_true iVSub2),by unfold parA; rw [shf_n]; exact hA.2⟩
   ·exact h j hj
 ·exact h
def tellE (key K N:Nat):Option Fam→Option Eff
 | some fam => some ⟨[tabOK K N 27 151 155 fam,N≤1000,∀ i,i < N→((fam (i + 1)).get 0).length = 27∧allCells ((fam (i + 1)).get 0) = true],.own key 0 N 27,.many [] (some (famN N 27 57 (fun i => (fam (i + 1)).get 0) none))⟩
 | none => none
theorem mNtel_at {key:Nat} {m:Mem} {K N:Nat}:mNtel key m [.own K 0 N 1] = tellE key K N (look m K):=by
 show (match look m K with
  | some fam => some (⟨[tabOK K N 27 151 155 fam,N≤1000,∀ i,i < N→((fam (i + 1)).get 0).length = 27∧allCells ((fam (i + 1)).get 0) = true],.own key 0 N 27,.many [] (some (famN N 27 57 (fun i => (fam (i + 1)).get 0) none))⟩:Eff)
  | none => none) = _
 cases look m K <;> rfl
theorem tellE_bs {key K N:Nat} {B:Nat→Bd}:tellE key K N (some (famT K N 27 151 155 (bsC B))) = some ⟨[True,N≤1000,True],.own key 0 N 27,.many [] (some (famN N 27 57 (bsC B) none))⟩:=by
 show some (⟨[tabOK K N 27 151 155 (famT K N 27 151 155 (bsC B)),N≤1000,∀ i,i < N→(bsC B i).length = 27∧allCells (bsC B i) = true],.own key 0 N 27,.many [] (some (famN N 27 57 (bsC B) none))⟩:Eff) = _
 rw [tabOK_bs,eq_true (show ∀ i,i < N→(bsC B i).length = 27∧allCells (bsC B i) = true from fun i _ => ⟨rfl,rfl⟩)]
attribute [go_sem] mNtel_at tellE_bs mNlay_eq
theorem con19:ConOK prog 19 kPar:=ConOK.cL (G:=[(73,.wr mNlay),(74,.wr mPar),(75,.wr mNtel)]) (H:=[]) (.mcons con73m (.mcons con74m (.mcons con75m .nil))) func19 fun N B rest ob r hc hob => by
 split at hc
 ·rename_i l
  cases hc
  have hN:N≤1000:=hob _ (by simp)
  have hB:inBs N B:=hob _ (by simp)
  have h2:l = contC (contD l):=hob _ (by simp)
  have hi:inC (contD l):=hob _ (by simp)
  have hn:(contD l).n≤1000:=hob _ (by simp)
  clear hob
  generalize contD l = c at *
  subst h2
  refine ⟨by kernel_rfl,fnVC_go (rs:=[.tmp 4]) rfl rfl ?_⟩
  simp only [go_sem,mPar,parF,hN,hB,hi,hn]
  rfl
 ·cases hc
def bsF:List AV→Option (List Prop×Nat×(Nat→List AV))
 | [.ro N 27 g] => some ([g = bsC (bsD g),N≤1000,inBs N (bsD g)],N,g)
 | _ => none
def mNbs:MCon:=mcV 27 57 bsF
theorem mNbs_eq {key:Nat} {m:Mem} {N:Nat} {g:Nat→List AV}:mNbs key m [.ro N 27 g] = some ⟨[g = bsC (bsD g),N≤1000,inBs N (bsD g)],.own key 0 N 27,.many [] (some (famN N 27 57 g none))⟩:=(rfl)
attribute [go_sem] mNbs_eq
theorem famN_upd {N:Nat} {B:Nat→Bd} {i:Nat} {b:Bd}:famN N 27 57 (fun j => if j = i then bodyC b else bodyC (B j)) none = famN N 27 57 (bsC (updB B i b)) none:=by rw [← bsC_upd]; rfl
theorem famN_upd2 {N:Nat} {B:Nat→Bd} {i:Nat} {b:Bd}:famN N 27 57 (fun j => if j = i then bodyC b else bsC B j) none = famN N 27 57 (bsC (updB B i b)) none:=famN_upd
attribute [go_sem] famN_upd famN_upd2
def manC (v:V2) (n:Nat) (P:Nat→V2) (D:Nat→Nb):AV:=.agg [i64 v.1.1,bo v.1.2,i64 v.2.1,bo v.2.2,.ro n 6 (tchs P D)]
def tiN (n:Int):Int:=16777216 + modS n 1056964608
theorem tiN_bd {n:Int}:16777216≤tiN n∧tiN n≤1073741824:=by
 have h:=modS_bd (n:=n) (m:=1056964608) (by omega)
 unfold tiN
 omega
theorem wrT {n:Int}:IntKind.i64.wrap (16777216 + modS n 1056964608) = tiN n:=by
 have h:=@tiN_bd n
 exact wrap_in (by show inR (tiN n); unfold inR; omega)
def kt48:Con
 | [.v (.int .i64 n)] => some ([inR n],nbA (tiN n,false))
 | _ => none
theorem kont48:ConOK prog 48 kt48:=ConOK.of (G:=[(31,c31)]) (H:=[]) (.cons con31 .nil) func48 fun l ob rr hc hob => by
 unfold kt48 at hc
 split at hc
 ·rename_i n
  cases hc
  have h_0:=ob0 hob
  refine ⟨by kernel_rfl,fnVC_go (rs:=[.cell 2 24]) rfl rfl ?_⟩
  simp only [go_sem,c31,iMul,iDiv,iInt,iAdd,iSub,iRat,iDot,iHyp,iSq,iNeg,iPos,iAbs,iMx,iMn,iCl,iWh,iLoc1,iLoc2,iVAdd1,iVAdd2,iVSub1,iVSub2,iScale1,iScale2,iVDot,iVCross,iLen,iOf1,iOf2,iUnit1,iUnit2,h_0]
  simp only [forall_eq,wrT]
  exact ⟨inRo (by omega),rfl⟩
 ·cases hc
theorem aEq209 {a0 b0:Int} {a1 b1:Int} {a2 b2:Int} {a3 b3:Int}:aEq prog 209 (.agg [i64 a0,i64 a1,i64 a2,i64 a3]) (.agg [i64 b0,i64 b1,i64 b2,i64 b3]) = some ((a0 == b0) && ((a1 == b1) && ((a2 == b2) && ((a3 == b3) && true)))):=by kernel_rfl
theorem eq209 {xo yo:Operand} {neg:Bool} {a0 b0:Int} {a1 b1:Int} {a2 b2:Int} {a3 b3:Int}:eqE prog neg 209 xo yo (.agg [i64 a0,i64 a1,i64 a2,i64 a3]) (.agg [i64 b0,i64 b1,i64 b2,i64 b3]) = some ⟨[],.v (.bool (negV neg ((a0 == b0) && ((a1 == b1) && ((a2 == b2) && ((a3 == b3) && true)))))),.none⟩:=eqE_agg aEq209
attribute [go_sem] eq209
end Go.Ax
end
section
set_option maxHeartbeats 4000000
set_option maxRecDepth 100000
namespace Go.Ax
open Go.Proofs Go.Proofs.Tryz
end Go.Ax
end
section
set_option maxHeartbeats 4000000
set_option maxRecDepth 100000
namespace Go.Ax
open Go.Proofs Go.Proofs.Tryz
theorem whF_in {x:Int} (h:-1000000000000000000≤x):whF x false = false:=by
 unfold whF
 simp
 omega
theorem whV_in {x:Int} (h:-1000000000000000000≤x) (h2:x≤1000000000000000000):whV x = x:=by
 unfold whV
 split <;> omega
theorem ftV_in {x:Int} (h:-1000000000000000000≤x) (h2:x≤1000000000000000000):ftV x = x:=by
 unfold ftV
 (repeat' split) <;> omega
theorem ftF_in {x:Int} (h:-1000000000000000000≤x) (h2:x≤1000000000000000000):ftF x = false:=by
 unfold ftF
 simp
 omega
end Go.Ax
end
section
namespace Go.Ax
def pev:List Int→Int→Int
 | [],_ => 0
 | c :: cs,y => c + y * pev cs y
def padd:List Int→List Int→List Int
 | [],q => q
 | a :: p,[] => a :: p
 | a :: p,b :: q => (a + b) :: padd p q
def psm (k:Int):List Int→List Int
 | [] => []
 | a :: p => k * a :: psm k p
def pmul:List Int→List Int→List Int
 | [],_ => []
 | a :: p,q => padd (psm a q) (0 :: pmul p q)
def pcomp:List Int→List Int→List Int
 | [],_ => []
 | a :: p,q => padd [a] (pmul q (pcomp p q))
def pabs:List Int→Int→Int
 | [],_ => 0
 | c :: cs,B => (if c < 0 then -c else c) + B * pabs cs B
theorem pev_add (y:Int):∀ p q:List Int,pev (padd p q) y = pev p y + pev q y
 | [],q => by simp [padd,pev]
 | a :: p,[] => by simp [padd,pev]
 | a :: p,b :: q => by simp only [padd,pev,pev_add y p q]; grind
theorem pev_sm (k y:Int):∀ p:List Int,pev (psm k p) y = k * pev p y
 | [] => by simp [psm,pev]
 | a :: p => by simp only [psm,pev,pev_sm k y p]; grind
theorem pev_mul (y:Int):∀ p q:List Int,pev (pmul p q) y = pev p y * pev q y
 | [],q => by simp [pmul,pev]
 | a :: p,q => by simp only [pmul,pev,pev_add,pev_sm,pev_mul y p q]; grind
theorem pev_comp (y:Int) (q:List Int):∀ p:List Int,pev (pcomp p q) y = pev p (pev q y)
 | [] => by simp [pcomp,pev]
 | a :: p => by simp only [pcomp,pev,pev_add,pev_mul,pev_comp y q p]; grind
theorem pev_bd {y B:Int} (h0:0≤y) (h1:y≤B):∀ cs:List Int,0≤pabs cs B∧-(pabs cs B)≤pev cs y∧pev cs y≤pabs cs B
 | [] => by simp [pabs,pev]
 | c :: cs => by
  obtain ⟨k0,k1,k2⟩:=pev_bd h0 h1 cs
  have m1:y * pev cs y≤y * pabs cs B:=Int.mul_le_mul_of_nonneg_left k2 h0
  have m2:y * -(pabs cs B)≤y * pev cs y:=Int.mul_le_mul_of_nonneg_left k1 h0
  have m3:y * pabs cs B≤B * pabs cs B:=Int.mul_le_mul_of_nonneg_right h1 k0
  have m4:0≤y * pabs cs B:=Int.mul_nonneg h0 k0
  rw [Int.mul_neg] at m2
  simp only [pabs,pev]
  split <;> refine ⟨?_,?_,?_⟩ <;> omega
def serT:List Int:=[0,4768988719006436111262234168778648423474656980035636955663595829178822894077063921902894844467270927543474141934655026171951583604355055887615953102486438762529161216000,0,(-43087899414213674021824125643264255072305462219207007284242456456798725817691141891220050084051744617156383553793407931128471747317646658681962496000),0,116789985381818398160573898299231102288065772677584217151319844983904676864291965346766500211691480339536943806187305008155852800,0,(-150742804613711681364039825115385279235570281032314673924162220557576589258871909346252821120275293038182400),0,113496997394961198577319469229027706569291890953579835547744303126809085079968756531200,0,(-55933495975544804015926845529165017287291580706094561614752645120),0,19436928798524005033027957576502600238366720,0,(-5017514388048998039552),0,1]
def serN:Int:=4768988719006436111262234168778648423474656980035636955663595829178822894077063921902894844467270927543474141934655026171951583604355055887615953102486438762529161216000
def serG (q:Int):List Int:=padd (padd (pmul serT serT) (pmul (pcomp serT [q,-1]) (pcomp serT [q,-1]))) [-(serN * 4294967296 * (serN * 4294967296))]
theorem serG_small:pabs (serG 6746518852) 6746518852 * 1048576≤serN * 4294967296 * (serN * 4294967296):=by decide +kernel
theorem serG_small':pabs (serG 6746518851) 6746518851 * 1048576≤serN * 4294967296 * (serN * 4294967296):=by decide +kernel
theorem pev_G {q y:Int}:pev (serG q) y = pev serT y * pev serT y + pev serT (q - y) * pev serT (q - y) - serN * 4294967296 * (serN * 4294967296):=by
 unfold serG
 simp only [pev_add,pev_mul,pev_comp,pev]
 have e:q + y * (-1 + y * 0) = q - y:=by grind
 rw [e]
 generalize pev serT y = a
 generalize pev serT (q - y) = b
 generalize serN = n
 grind
theorem ser_circle {q y:Int} (hq:q = 6746518852∨q = 6746518851) (h0:0≤y) (h1:y≤q) :
  -(serN * 4294967296 * (serN * 4294967296))≤1048576 * (pev serT y * pev serT y + pev serT (q - y) * pev serT (q - y) - serN * 4294967296 * (serN * 4294967296)) ∧
  1048576 * (pev serT y * pev serT y + pev serT (q - y) * pev serT (q - y) - serN * 4294967296 * (serN * 4294967296))≤serN * 4294967296 * (serN * 4294967296):=by
 rw [← pev_G]
 obtain ⟨k0,k1,k2⟩:=pev_bd h0 h1 (serG q)
 have hs:pabs (serG q) q * 1048576≤serN * 4294967296 * (serN * 4294967296):=by
  rcases hq with rfl | rfl
  ·exact serG_small
  ·exact serG_small'
 generalize serN * 4294967296 * (serN * 4294967296) = M at *
 omega
theorem td_err {x k:Int} (hk:0 < k):-k < x - x.tdiv k * k∧x - x.tdiv k * k < k:=by
 rcases Int.le_total 0 x with h | h
 ·rw [Int.tdiv_eq_ediv_of_nonneg h]
  have h1:=Int.emod_nonneg x (by omega:k≠0)
  have h2:=Int.emod_lt_of_pos x hk
  have h3:=Int.emod_add_mul_ediv x k
  rw [Int.mul_comm k] at h3
  omega
 ·have e:x.tdiv k = -((-x).tdiv k):=by rw [Int.neg_tdiv,Int.neg_neg]
  rw [e,Int.tdiv_eq_ediv_of_nonneg (by omega)]
  have h1:=Int.emod_nonneg (-x) (by omega:k≠0)
  have h2:=Int.emod_lt_of_pos (-x) hk
  have h3:=Int.emod_add_mul_ediv (-x) k
  rw [Int.mul_comm k] at h3
  rw [Int.neg_mul]
  omega
theorem ab_mul {a b A B:Int} (ha:-A≤a∧a≤A) (hb:-B≤b∧b≤B):-(A * B)≤a * b∧a * b≤A * B:=by
 have hA:0≤A:=by omega
 have hB:0≤B:=by omega
 rcases Int.le_total 0 a with h | h
 ·have k1:a * b≤a * B:=Int.mul_le_mul_of_nonneg_left hb.2 h
  have k2:a * -B≤a * b:=Int.mul_le_mul_of_nonneg_left hb.1 h
  have k3:a * B≤A * B:=Int.mul_le_mul_of_nonneg_right ha.2 hB
  rw [Int.mul_neg] at k2
  omega
 ·have k1:-a * b≤-a * B:=Int.mul_le_mul_of_nonneg_left hb.2 (by omega)
  have k2:-a * -B≤-a * b:=Int.mul_le_mul_of_nonneg_left hb.1 (by omega)
  have k3:-a * B≤A * B:=Int.mul_le_mul_of_nonneg_right (by omega) hB
  simp only [Int.mul_neg,Int.neg_mul] at k1 k2 k3
  omega
def facM (k:Nat):Int:=2 * ((k:Int) + 1) * (2 * ((k:Int) + 1) + 1)
def tq (y:Int):Nat→Int
 | 0 => y
 | k + 1 => -((((tq y k * y).tdiv 4294967296 * y).tdiv 4294967296 * 4294967296).tdiv (facM k * 4294967296))
def sq (y:Int):Nat→Int
 | 0 => y
 | k + 1 => sq y k + tq y (k + 1)
def mq:Nat→Int
 | 0 => 1
 | k + 1 => mq k * (facM k * (4294967296 * 4294967296))
def xq (y:Int):Nat→Int
 | 0 => y
 | k + 1 => -(xq y k * (y * y))
theorem tq_neg (y:Int):∀ k,tq (-y) k = -tq y k
 | 0 => rfl
 | k + 1 => by
  simp only [tq,tq_neg y k,Int.mul_neg,Int.neg_tdiv,Int.neg_mul,Int.neg_neg]
theorem sq_neg (y:Int):∀ k,sq (-y) k = -sq y k
 | 0 => rfl
 | k + 1 => by simp only [sq,sq_neg y k,tq_neg]; omega
theorem ser_step {t y m:Int} (ht:-6746518852≤t∧t≤6746518852) (hy:-6746518852≤y∧y≤6746518852) (hm:6≤m) :
  (-13493037704≤(t * y).tdiv 4294967296∧(t * y).tdiv 4294967296≤13493037704) ∧
  (-26986075408≤((t * y).tdiv 4294967296 * y).tdiv 4294967296∧((t * y).tdiv 4294967296 * y).tdiv 4294967296≤26986075408) ∧
  (-6746518852≤-((((t * y).tdiv 4294967296 * y).tdiv 4294967296 * 4294967296).tdiv (m * 4294967296))∧-((((t * y).tdiv 4294967296 * y).tdiv 4294967296 * 4294967296).tdiv (m * 4294967296))≤6746518852) ∧
  (-(3 + m) * 18446744073709551616≤-((((t * y).tdiv 4294967296 * y).tdiv 4294967296 * 4294967296).tdiv (m * 4294967296)) * (m * 18446744073709551616) + t * (y * y) ∧
   -((((t * y).tdiv 4294967296 * y).tdiv 4294967296 * 4294967296).tdiv (m * 4294967296)) * (m * 18446744073709551616) + t * (y * y)≤(3 + m) * 18446744073709551616):=by
 have e3:=td_err (x:=t * y) (k:=4294967296) (by decide)
 have m3:=ab_mul ht hy
 generalize hA:(t * y).tdiv 4294967296 = a at *
 have ba:-13493037704≤a∧a≤13493037704:=by omega
 have e2:=td_err (x:=a * y) (k:=4294967296) (by decide)
 have m2:=ab_mul ba hy
 generalize hB:(a * y).tdiv 4294967296 = b at *
 have bb:-26986075408≤b∧b≤26986075408:=by omega
 have hm':0 < m * 4294967296:=by omega
 have e1:=td_err (x:=b * 4294967296) (k:=m * 4294967296) hm'
 generalize hC:(b * 4294967296).tdiv (m * 4294967296) = c at *
 have e1':c * (m * 4294967296) = (c * m) * 4294967296:=by grind
 rw [e1'] at e1
 have e0:-m < b - c * m∧b - c * m < m:=by omega
 have bc:-6746518852≤c∧c≤6746518852:=by
  constructor
  ·refine Int.not_lt.1 fun h => ?_
   have:c * m≤(-6746518853) * m:=Int.mul_le_mul_of_nonneg_right (by omega) (by omega)
   omega
  ·refine Int.not_lt.1 fun h => ?_
   have:6746518853 * m≤c * m:=Int.mul_le_mul_of_nonneg_right (by omega) (by omega)
   omega
 refine ⟨ba,bb,by omega,?_⟩
 have r3:-4294967296≤t * y - a * 4294967296∧t * y - a * 4294967296≤4294967296:=by omega
 have k3:=ab_mul r3 hy
 have id1:-c * (m * 18446744073709551616) + t * (y * y) = (t * y - a * 4294967296) * y + (a * y - b * 4294967296) * 4294967296 + (b - c * m) * 18446744073709551616:=by grind
 rw [id1]
 omega
theorem facM_ge (k:Nat):6≤facM k:=by
 unfold facM
 have h1:(2:Int) * ((k:Int) + 1) ≥ 2:=by omega
 have h2:(2:Int) * ((k:Int) + 1) + 1 ≥ 3:=by omega
 have:=Int.mul_le_mul h1 h2 (by omega) (by omega)
 omega
theorem facM_ge1 (k:Nat):20≤facM (k + 1):=by
 unfold facM
 have h1:(2:Int) * (((k + 1:Nat):Int) + 1) ≥ 4:=by omega
 have h2:(2:Int) * (((k + 1:Nat):Int) + 1) + 1 ≥ 5:=by omega
 have:=Int.mul_le_mul h1 h2 (by omega) (by omega)
 omega
theorem mq_pos:∀ k,0 < mq k
 | 0 => by decide
 | k + 1 => by
  simp only [mq]
  have:=facM_ge k
  exact Int.mul_pos (mq_pos k) (Int.mul_pos (by omega) (by decide))
theorem tq_le {y:Int} (hy:-6746518852≤y∧y≤6746518852):∀ k,-6746518852≤tq y k∧tq y k≤6746518852
 | 0 => hy
 | k + 1 => (ser_step (tq_le hy k) hy (facM_ge k)).2.2.1
theorem err_step {t t' y m M X d:Int} (hM:0 < M) (hy:-6746518852≤y∧y≤6746518852) (hd:0≤d) (hd2:d≤2) (h:-(d * M)≤t * M - X∧t * M - X≤d * M)
  (he:-(3 + m) * 18446744073709551616≤t' * (m * 18446744073709551616) + t * (y * y)∧t' * (m * 18446744073709551616) + t * (y * y)≤(3 + m) * 18446744073709551616) (hm:3 * d + 3≤m) :
  -(2 * (M * (m * (4294967296 * 4294967296))))≤t' * (M * (m * (4294967296 * 4294967296))) - -(X * (y * y))∧t' * (M * (m * (4294967296 * 4294967296))) - -(X * (y * y))≤2 * (M * (m * (4294967296 * 4294967296))):=by
 have hyy:=ab_mul hy hy
 have y0:0≤y * y:=by
  rcases Int.le_total 0 y with h | h
  ·exact Int.mul_nonneg h h
  ·have:=Int.mul_nonneg (show 0≤-y by omega) (show 0≤-y by omega)
   rwa [Int.neg_mul_neg] at this
 have id1:t' * (M * (m * (4294967296 * 4294967296))) - -(X * (y * y)) = M * (t' * (m * 18446744073709551616) + t * (y * y)) - (t * M - X) * (y * y):=by grind
 rw [id1]
 generalize t * M - X = e at *
 generalize t' * (m * 18446744073709551616) + t * (y * y) = f at *
 generalize y * y = q at *
 have k1:=ab_mul (a:=e) (A:=d * M) h (b:=q) (B:=3 * 18446744073709551616) (by omega)
 have k2:M * f≤M * ((3 + m) * 18446744073709551616):=Int.mul_le_mul_of_nonneg_left he.2 (by omega)
 have k3:M * (-(3 + m) * 18446744073709551616)≤M * f:=Int.mul_le_mul_of_nonneg_left he.1 (by omega)
 have k4:M * (3 * d + 3)≤M * m:=Int.mul_le_mul_of_nonneg_left hm (by omega)
 have j1:M * ((3 + m) * 18446744073709551616) = (3 * M + M * m) * 18446744073709551616:=by grind
 have j2:M * (-(3 + m) * 18446744073709551616) = -((3 * M + M * m) * 18446744073709551616):=by grind
 have j3:d * M * (3 * 18446744073709551616) = (3 * (M * d)) * 18446744073709551616:=by grind
 have j4:M * (3 * d + 3) = 3 * (M * d) + 3 * M:=by grind
 have j5:M * (m * (4294967296 * 4294967296)) = (M * m) * 18446744073709551616:=by grind
 rw [j1] at k2
 rw [j2] at k3
 rw [j3] at k1
 rw [j4] at k4
 rw [j5]
 omega
theorem ser_err {y:Int} (hy:-6746518852≤y∧y≤6746518852):∀ k,-(2 * mq (k + 1))≤tq y (k + 1) * mq (k + 1) - xq y (k + 1)∧tq y (k + 1) * mq (k + 1) - xq y (k + 1)≤2 * mq (k + 1)
 | 0 => by
  have h:=ser_step (t:=tq y 0) hy hy (facM_ge 0)
  exact err_step (d:=0) (t:=tq y 0) (M:=mq 0) (X:=xq y 0) (m:=facM 0) (mq_pos 0) hy (by omega) (by omega) (by simp [tq,mq,xq]) h.2.2.2 (by have:=facM_ge 0; omega)
 | k + 1 => by
  have h:=ser_step (tq_le hy (k + 1)) hy (facM_ge (k + 1))
  exact err_step (d:=2) (t:=tq y (k + 1)) (M:=mq (k + 1)) (X:=xq y (k + 1)) (m:=facM (k + 1)) (mq_pos _) hy (by omega) (by omega) (ser_err hy k) h.2.2.2 (by have:=facM_ge1 k; omega)
theorem mq_1:mq 1 * 43087899414213674021824125643264255072305462219207007284242456456798725817691141891220050084051744617156383553793407931128471747317646658681962496000 = serN:=by decide +kernel
theorem mq_2:mq 2 * 116789985381818398160573898299231102288065772677584217151319844983904676864291965346766500211691480339536943806187305008155852800 = serN:=by decide +kernel
theorem mq_3:mq 3 * 150742804613711681364039825115385279235570281032314673924162220557576589258871909346252821120275293038182400 = serN:=by decide +kernel
theorem mq_4:mq 4 * 113496997394961198577319469229027706569291890953579835547744303126809085079968756531200 = serN:=by decide +kernel
theorem mq_5:mq 5 * 55933495975544804015926845529165017287291580706094561614752645120 = serN:=by decide +kernel
theorem mq_6:mq 6 * 19436928798524005033027957576502600238366720 = serN:=by decide +kernel
theorem mq_7:mq 7 * 5017514388048998039552 = serN:=by decide +kernel
theorem mq_8:mq 8 * 1 = serN:=by decide +kernel
theorem err_R {t M X r N:Int} (hM:0 < M) (hr:0≤r) (e:M * r = N) (h:-(2 * M)≤t * M - X∧t * M - X≤2 * M):-(2 * N)≤t * N - X * r∧t * N - X * r≤2 * N:=by
 have k1:=Int.mul_le_mul_of_nonneg_right h.1 hr
 have k2:=Int.mul_le_mul_of_nonneg_right h.2 hr
 subst e
 have j1:-(2 * M) * r = -(2 * (M * r)):=by grind
 have j2:(t * M - X) * r = t * (M * r) - X * r:=by grind
 have j3:2 * M * r = 2 * (M * r):=by grind
 rw [j1,j2] at k1
 rw [j2,j3] at k2
 exact ⟨k1,k2⟩
theorem ser_sum {y:Int} (hy:-6746518852≤y∧y≤6746518852):-(16 * serN)≤sq y 8 * serN - pev serT y∧sq y 8 * serN - pev serT y≤16 * serN:=by
 have e1:-(2 * serN)≤tq y 1 * serN - xq y 1 * 43087899414213674021824125643264255072305462219207007284242456456798725817691141891220050084051744617156383553793407931128471747317646658681962496000∧tq y 1 * serN - xq y 1 * 43087899414213674021824125643264255072305462219207007284242456456798725817691141891220050084051744617156383553793407931128471747317646658681962496000≤2 * serN:=err_R (mq_pos 1) (by decide) mq_1 (ser_err hy 0)
 have e2:-(2 * serN)≤tq y 2 * serN - xq y 2 * 116789985381818398160573898299231102288065772677584217151319844983904676864291965346766500211691480339536943806187305008155852800∧tq y 2 * serN - xq y 2 * 116789985381818398160573898299231102288065772677584217151319844983904676864291965346766500211691480339536943806187305008155852800≤2 * serN:=err_R (mq_pos 2) (by decide) mq_2 (ser_err hy 1)
 have e3:-(2 * serN)≤tq y 3 * serN - xq y 3 * 150742804613711681364039825115385279235570281032314673924162220557576589258871909346252821120275293038182400∧tq y 3 * serN - xq y 3 * 150742804613711681364039825115385279235570281032314673924162220557576589258871909346252821120275293038182400≤2 * serN:=err_R (mq_pos 3) (by decide) mq_3 (ser_err hy 2)
 have e4:-(2 * serN)≤tq y 4 * serN - xq y 4 * 113496997394961198577319469229027706569291890953579835547744303126809085079968756531200∧tq y 4 * serN - xq y 4 * 113496997394961198577319469229027706569291890953579835547744303126809085079968756531200≤2 * serN:=err_R (mq_pos 4) (by decide) mq_4 (ser_err hy 3)
 have e5:-(2 * serN)≤tq y 5 * serN - xq y 5 * 55933495975544804015926845529165017287291580706094561614752645120∧tq y 5 * serN - xq y 5 * 55933495975544804015926845529165017287291580706094561614752645120≤2 * serN:=err_R (mq_pos 5) (by decide) mq_5 (ser_err hy 4)
 have e6:-(2 * serN)≤tq y 6 * serN - xq y 6 * 19436928798524005033027957576502600238366720∧tq y 6 * serN - xq y 6 * 19436928798524005033027957576502600238366720≤2 * serN:=err_R (mq_pos 6) (by decide) mq_6 (ser_err hy 5)
 have e7:-(2 * serN)≤tq y 7 * serN - xq y 7 * 5017514388048998039552∧tq y 7 * serN - xq y 7 * 5017514388048998039552≤2 * serN:=err_R (mq_pos 7) (by decide) mq_7 (ser_err hy 6)
 have e8:-(2 * serN)≤tq y 8 * serN - xq y 8 * 1∧tq y 8 * serN - xq y 8 * 1≤2 * serN:=err_R (mq_pos 8) (by decide) mq_8 (ser_err hy 7)
 have hs:sq y 8 * serN = y * serN + tq y 1 * serN + tq y 2 * serN + tq y 3 * serN + tq y 4 * serN + tq y 5 * serN + tq y 6 * serN + tq y 7 * serN + tq y 8 * serN:=by
  simp only [sq]
  generalize serN = n
  grind
 have hp:pev serT y = y * serN + xq y 1 * 43087899414213674021824125643264255072305462219207007284242456456798725817691141891220050084051744617156383553793407931128471747317646658681962496000 + xq y 2 * 116789985381818398160573898299231102288065772677584217151319844983904676864291965346766500211691480339536943806187305008155852800 + xq y 3 * 150742804613711681364039825115385279235570281032314673924162220557576589258871909346252821120275293038182400 + xq y 4 * 113496997394961198577319469229027706569291890953579835547744303126809085079968756531200 + xq y 5 * 55933495975544804015926845529165017287291580706094561614752645120 + xq y 6 * 19436928798524005033027957576502600238366720 + xq y 7 * 5017514388048998039552 + xq y 8 * 1:=by
  simp only [xq,pev,serT,serN]
  grind
 rw [hs,hp]
 omega
theorem sq_circle0 {q y:Int} (hq:q = 6746518852∨q = 6746518851) (h0:0≤y) (h1:y≤q) :
  -35184372088832≤sq y 8 * sq y 8 + sq (q - y) 8 * sq (q - y) 8 - 18446744073709551616∧sq y 8 * sq y 8 + sq (q - y) 8 * sq (q - y) 8 - 18446744073709551616≤35184372088832:=by
 have hc:=ser_circle hq h0 h1
 have ha:=ser_sum (y:=y) (by omega)
 have hb:=ser_sum (y:=q - y) (by omega)
 generalize sq y 8 = S at *
 generalize sq (q - y) 8 = C at *
 generalize pev serT y = A at *
 generalize pev serT (q - y) = B at *
 have hN:0 < serN:=by decide +kernel
 have hN1:1000000≤serN:=by decide +kernel
 generalize serN = N at *
 have sqA:0≤A * A:=by
  rcases Int.le_total 0 A with h | h
  ·exact Int.mul_nonneg h h
  ·have:=Int.mul_nonneg (show 0≤-A by omega) (show 0≤-A by omega)
   rwa [Int.neg_mul_neg] at this
 have sqB:0≤B * B:=by
  rcases Int.le_total 0 B with h | h
  ·exact Int.mul_nonneg h h
  ·have:=Int.mul_nonneg (show 0≤-B by omega) (show 0≤-B by omega)
   rwa [Int.neg_mul_neg] at this
 have jN:N * 4294967296 * (N * 4294967296) = (N * N) * 18446744073709551616:=by grind
 rw [jN] at hc
 have nn:0 < N * N:=Int.mul_pos hN hN
 have big:∀ X:Int,X * X≤(N * N) * 18446744073709551616 * 2→-(2 * (N * 4294967296))≤X∧X≤2 * (N * 4294967296):=fun X hX => by
  have p0:0 < N * 4294967296:=by omega
  constructor
  ·refine Int.not_lt.1 fun h => ?_
   have h1:2 * (N * 4294967296)≤-X:=by omega
   have h2:=Int.mul_le_mul h1 h1 (by omega) (by omega)
   have h3:2 * (N * 4294967296) * (2 * (N * 4294967296)) = (N * N) * 18446744073709551616 * 4:=by grind
   have h4:-X * -X = X * X:=by grind
   rw [h3,h4] at h2
   omega
  ·refine Int.not_lt.1 fun h => ?_
   have h1:2 * (N * 4294967296)≤X:=by omega
   have h2:=Int.mul_le_mul h1 h1 (by omega) (by omega)
   have h3:2 * (N * 4294967296) * (2 * (N * 4294967296)) = (N * N) * 18446744073709551616 * 4:=by grind
   rw [h3] at h2
   omega
 have bA:=big A (by omega)
 have bB:=big B (by omega)
 have err:∀ X s:Int,-(2 * (N * 4294967296))≤X∧X≤2 * (N * 4294967296)→-(16 * N)≤s * N - X∧s * N - X≤16 * N→-((N * N) * 300000000000)≤(s * s) * (N * N) - X * X∧(s * s) * (N * N) - X * X≤(N * N) * 300000000000:=fun X s hX hs => by
  have id1:(s * s) * (N * N) - X * X = (s * N - X) * (s * N - X) + 2 * ((s * N - X) * X):=by grind
  rw [id1]
  have k1:=ab_mul hs hs
  have k2:=ab_mul hs hX
  have j1:16 * N * (16 * N) = (N * N) * 256:=by grind
  have j2:16 * N * (2 * (N * 4294967296)) = (N * N) * 137438953472:=by grind
  rw [j1] at k1
  rw [j2] at k2
  omega
 have eA:=err A S bA ha
 have eB:=err B C bB hb
 have fin:∀ z:Int,z * (N * N)≤(N * N) * 18000000000000→z≤18000000000000:=fun z hz => Int.not_lt.1 fun h => by
  have:=Int.mul_lt_mul_of_pos_left h nn
  rw [Int.mul_comm] at this
  have e:N * N * z = z * (N * N):=Int.mul_comm _ _
  omega
 have u1:(S * S + C * C - 18446744073709551616) * (N * N)≤(N * N) * 18000000000000 + (N * N) * 600000000000:=by
  have e:(S * S + C * C - 18446744073709551616) * (N * N) = S * S * (N * N) + C * C * (N * N) - (N * N) * 18446744073709551616:=by grind
  rw [e]; omega
 have u2:-((N * N) * 18000000000000 + (N * N) * 600000000000)≤(S * S + C * C - 18446744073709551616) * (N * N):=by
  have e:(S * S + C * C - 18446744073709551616) * (N * N) = S * S * (N * N) + C * C * (N * N) - (N * N) * 18446744073709551616:=by grind
  rw [e]; omega
 have fin2:∀ z:Int,z * (N * N)≤(N * N) * 35184372088832→z≤35184372088832:=fun z hz => Int.not_lt.1 fun h => by
  have h2:=Int.mul_lt_mul_of_pos_left h nn
  have e:N * N * z = z * (N * N):=Int.mul_comm _ _
  omega
 constructor
 ·have:=fin2 (-(S * S + C * C - 18446744073709551616)) (by rw [Int.neg_mul]; omega)
  omega
 ·exact fin2 _ (by omega)
theorem sq_circle {y z:Int} (hy:-6746518852≤y∧y≤6746518852) {q:Int} (hq:q = 6746518852∨q = 6746518851) (h1:(if y < 0 then -y else y)≤q) (hz:(if z < 0 then -z else z) = q - (if y < 0 then -y else y)) :
  -35184372088832≤sq y 8 * sq y 8 + sq z 8 * sq z 8 - 18446744073709551616∧sq y 8 * sq y 8 + sq z 8 * sq z 8 - 18446744073709551616≤35184372088832:=by
 have h:=sq_circle0 (y:=if y < 0 then -y else y) hq (by split <;> omega) h1
 rw [← hz] at h
 have e:∀ x:Int,sq (if x < 0 then -x else x) 8 * sq (if x < 0 then -x else x) 8 = sq x 8 * sq x 8:=fun x => by
  split
  ·rw [sq_neg,Int.neg_mul_neg]
  ·rfl
 rw [e,e] at h
 exact h
end Go.Ax
end
section
set_option maxHeartbeats 4000000
set_option maxRecDepth 100000
namespace Go.Ax
open Go.Proofs Go.Proofs.Tryz
theorem td_le {x A:Int} (h:-(A * 4294967296)≤x∧x≤A * 4294967296):-A≤x.tdiv 4294967296∧x.tdiv 4294967296≤A:=by
 have e:=@td_err x 4294967296 (by omega)
 omega
theorem nMul_in {t y:Int} (ht:-100000000000≤t∧t≤100000000000) (hy:-6746518852≤y∧y≤6746518852):nMul (t,false) (y,false) = ((t * y).tdiv 4294967296,false)∧(-200000000000≤(t * y).tdiv 4294967296∧(t * y).tdiv 4294967296≤200000000000):=by
 have h:=ab_mul ht hy
 have h2:=@td_le (t * y) 200000000000 (by omega)
 refine ⟨?_,h2⟩
 unfold nMul
 dsimp only
 rw [whV_in (by omega) (by omega),whV_in (by omega) (by omega),ftV_in (by omega) (by omega),ftF_in (by omega) (by omega),whF_in (by omega),whF_in (by omega)]
 rfl
theorem nInt_in {n:Int} (h:0≤n∧n≤1000000):nInt n = (n * 4294967296,false):=by
 unfold nInt
 rw [ftV_in (by omega) (by omega),ftF_in (by omega) (by omega)]
 rfl
theorem facM_le {k:Nat} (h:k < 8):facM k≤1000:=by
 unfold facM
 match k,h with
 | 0,_ | 1,_ | 2,_ | 3,_ | 4,_ | 5,_ | 6,_ | 7,_ => decide
 | k + 8,h => omega
theorem snT_eq {y:Int} (hy:-6746518852≤y∧y≤6746518852):∀ k,k≤8→snT (y,false) k = (tq y k,false)
 | 0,_ => rfl
 | k + 1,hk => by
  have ht:=tq_le hy k
  have g1:=facM_ge k
  have g2:=@facM_le k (by omega)
  obtain ⟨s1,s2,s3,s4⟩:=ser_step (m:=facM k) ht hy g1
  show nNeg (nDiv (nMul (nMul (snT (y,false) k) (y,false)) (y,false)) (nInt (facM k))) = _
  rw [snT_eq hy k (by omega),(nMul_in (by omega) hy).1,(nMul_in (by omega) hy).1,nInt_in (by omega)]
  show nNeg (nDiv _ _) = (-((((tq y k * y).tdiv 4294967296 * y).tdiv 4294967296 * 4294967296).tdiv (facM k * 4294967296)),false)
  generalize ((tq y k * y).tdiv 4294967296 * y).tdiv 4294967296 = u at *
  unfold nDiv raV raF
  dsimp only
  rw [whV_in (by omega) (by omega),whV_in (by omega) (by omega),if_neg (by omega),if_neg (by omega)]
  generalize (u * 4294967296).tdiv (facM k * 4294967296) = v at *
  rw [ftV_in (by omega) (by omega),ftF_in (by omega) (by omega),whF_in (by omega),whF_in (by omega)]
  unfold nNeg
  dsimp only
  rw [whV_in (by omega) (by omega)]
  show (-v,whF v false) = _
  rw [whF_in (by omega)]
theorem sq_le {y:Int} (hy:-6746518852≤y∧y≤6746518852):∀ k:Nat,k≤8→-((k + 1:Int) * 6746518852)≤sq y k∧sq y k≤(k + 1:Int) * 6746518852
 | 0,_ => by
  show _≤y∧y≤_
  omega
 | k + 1,hk => by
  have h1:=sq_le hy k (by omega)
  have h2:=tq_le hy (k + 1)
  show _≤sq y k + tq y (k + 1)∧sq y k + tq y (k + 1)≤_
  omega
theorem snS_eq {y:Int} (hy:-6746518852≤y∧y≤6746518852):∀ k,k≤8→snS (y,false) k = (sq y k,false)
 | 0,_ => rfl
 | k + 1,hk => by
  have h1:=sq_le hy k (by omega)
  have h2:=tq_le hy (k + 1)
  show nAdd (snS (y,false) k) (snT (y,false) (k + 1)) = (sq y k + tq y (k + 1),false)
  rw [snS_eq hy k (by omega),snT_eq hy (k + 1) hk]
  unfold nAdd
  dsimp only
  rw [whV_in (by omega) (by omega),whV_in (by omega) (by omega),ftV_in (by omega) (by omega),ftF_in (by omega) (by omega),whF_in (by omega),whF_in (by omega)]
  rfl
theorem mul_ge {M T:Int} (hM:64≤M) (hT:64≤T):64 * M≤M * T∧64 * T≤M * T:=by
 have h1:M * 64≤M * T:=Int.mul_le_mul_of_nonneg_left hT (by omega)
 have h2:64 * T≤M * T:=Int.mul_le_mul_of_nonneg_right hM (by omega)
 omega
theorem tri_cvx {M T:Int} (hM:64≤M) (hT:64≤T) {X Y:Nat→Int} (x0:X 0 = -M) (x1:X 1 = M) (x2:X 2 = 0) (y0:Y 0 = -T) (y1:Y 1 = -T) (y2:Y 2 = T):cvxS 3 X Y = true:=by
 obtain ⟨p1,p2⟩:=mul_ge hM hT
 unfold cvxS
 refine decide_eq_true fun i hi => ?_
 match i,hi with
 | 0,_ =>
  rw [show nxt 3 0 = 1 from rfl,show nxt2 3 0 = 2 from rfl,x0,x1,x2,y0,y1,y2]
  refine ⟨?_,fun j hj k1 k2 => ?_⟩
  ·simp only [Int.sub_mul,Int.mul_sub,Int.add_mul,Int.mul_add,Int.neg_mul,Int.mul_neg,Int.zero_mul,Int.mul_zero,Int.mul_comm T M,Int.neg_neg,ab]
   (repeat' split) <;> omega
  ·match j,hj,k1,k2 with
   | 0,_,k1,k2 => exact absurd rfl k1
   | 1,_,k1,k2 => exact absurd rfl k2
   | 2,_,_,_ =>
    rw [x2,y2]
    simp only [Int.sub_mul,Int.mul_sub,Int.add_mul,Int.mul_add,Int.neg_mul,Int.mul_neg,Int.zero_mul,Int.mul_zero,Int.mul_comm T M,Int.neg_neg,ab]
    omega
   | j + 3,h,_,_ => omega
 | 1,_ =>
  rw [show nxt 3 1 = 2 from rfl,show nxt2 3 1 = 0 from rfl,x0,x1,x2,y0,y1,y2]
  refine ⟨?_,fun j hj k1 k2 => ?_⟩
  ·simp only [Int.sub_mul,Int.mul_sub,Int.add_mul,Int.mul_add,Int.neg_mul,Int.mul_neg,Int.zero_mul,Int.mul_zero,Int.mul_comm T M,Int.neg_neg,ab]
   (repeat' split) <;> omega
  ·match j,hj,k1,k2 with
   | 0,_,_,_ =>
    rw [x0,y0]
    simp only [Int.sub_mul,Int.mul_sub,Int.add_mul,Int.mul_add,Int.neg_mul,Int.mul_neg,Int.zero_mul,Int.mul_zero,Int.mul_comm T M,Int.neg_neg,ab]
    omega
   | 1,_,k1,k2 => exact absurd rfl k1
   | 2,_,k1,k2 => exact absurd rfl k2
   | j + 3,h,_,_ => omega
 | 2,_ =>
  rw [show nxt 3 2 = 0 from rfl,show nxt2 3 2 = 1 from rfl,x0,x1,x2,y0,y1,y2]
  refine ⟨?_,fun j hj k1 k2 => ?_⟩
  ·simp only [Int.sub_mul,Int.mul_sub,Int.add_mul,Int.mul_add,Int.neg_mul,Int.mul_neg,Int.zero_mul,Int.mul_zero,Int.mul_comm T M,Int.neg_neg,ab]
   (repeat' split) <;> omega
  ·match j,hj,k1,k2 with
   | 0,_,k1,k2 => exact absurd rfl k2
   | 1,_,_,_ =>
    rw [x1,y1]
    simp only [Int.sub_mul,Int.mul_sub,Int.add_mul,Int.mul_add,Int.neg_mul,Int.mul_neg,Int.zero_mul,Int.mul_zero,Int.mul_comm T M,Int.neg_neg,ab]
    omega
   | 2,_,k1,k2 => exact absurd rfl k1
   | j + 3,h,_,_ => omega
 | i + 3,h => omega
end Go.Ax
end