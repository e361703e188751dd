/-
  Contracts of functions that write rows: a table and an element of another row; a slice of one's own; two pointers out of a table.
-/
import Derived.Test.YtempjfjppjfciaaGreatCM6
set_option linter.unusedVariables false
set_option linter.unusedSimpArgs false
section
namespace Go.Ax
section
variable {P:Program} {G:Ctx} {H:Hots} {f:FuncId} {fn:Func} {r s key:Nat}
theorem thL2_0 {th:Nat → Nat → Nat}:∀ f,thL [r,s] key th 0 f = (r,f):=fun f => by simp [thL]
def famCl (fam:Fam):Prop:=∀ f,(fam f).g = none ∧ ∀ j,j < (fam f).n → ∀ c ∈ (fam f).get j,cleanC c = true
theorem famCl_E {fam:Fam} {f i:Nat} {cs:List AV} (h:famCl fam) (hc:∀ c ∈ cs,cleanC c = true):famCl (famE fam f i cs):=fun f' => by
 refine ⟨by rw [famE_g]; exact (h f').1,fun j hj c hcm => ?_⟩
 rw [famE_n] at hj
 by_cases e:f' = f
 ·subst e
  simp only [famE,if_true] at hcm
  split at hcm
  ·exact hc c hcm
  ·exact (h f').2 j hj c hcm
 ·rw [famE_off e] at hcm
  exact (h f').2 j hj c hcm
theorem rowRen_cl {θ:Nat → Nat → Nat × Nat} {g:Nat → Nat → Prop} {B:Nat → Prop} {fam:Fam} (h:famCl fam) (f:Nat):rowRen θ g B (fam f) (fam f):=rowRen_clean' (.refl _) (h f).2
theorem look_two0 {x y:Fam}:look [(1,y),(0,x)] 0 = some x:=by simp [look]
theorem look_two1 {x y:Fam}:look [(1,y),(0,x)] 1 = some y:=by simp [look]
theorem two_okG {fam fam' x0 y0 famB famB':Fam} {m:Mem} {es es0:List AV} {val val0:AV} {ob:List Prop} (hne:r ≠ s) (hl:look m r = some fam) (hl2:look m s = some famB)
  (h1:∀ f,(fam f).g = none ∧ rowRen (thE [r,s]) (lowG 2) (lowB 2) (x0 f) (fam f)) (hB:famCl famB) (hB':famCl famB')
  (h2:∀ th σ f,rowRen (thL [r,s] key th) (newG 2 σ th) (newB 2 σ) (y0 f) (fam' f) ∧ (y0 f).g ≠ some false) (ha:es = es0.map (renA (thE [r,s]) 3)) (hak:∀ a ∈ es0,kg (lowG 2) (lowB 2) 3 a)
  (hfn:funcOK P H fn es0.length = true) (hv:∀ th:Nat → Nat → Nat,∀ σ:Nat → Option (Nat × Nat),val = renA (thL [r,s] key th) 3 val0 ∧ kg (newG 2 σ th) (newB 2 σ) 3 val0)
  (hb:bodyM P G H fn es0 [(1,famB),(0,x0)] 2 fun a m1 => a = val0 ∧ look m1 0 = some y0 ∧ look m1 1 = some famB') :
  ∃ ks m0 as0,Entry ks m m0 es as0 ∧ funcOK P H fn as0.length = true ∧ bodyM P G H fn as0 m0 ks.length fun a m1 => ∃ σ th ys nw,(⟨ob,val,.many [(r,fam'),(s,famB')] none⟩:Eff).u = .many (ks.zip ys) nw ∧ Leave key ks σ th m1 a ys nw val:=by
 refine ⟨[r,s],[(1,famB),(0,x0)],es0,⟨by simp [hne],ha,hak,fun j hj => ?_,fun q x hq => ?_⟩,hfn,hb.mono fun a m1 ⟨q1,q2,q3⟩ => ?_⟩
 ·match j,hj with
  | 0,_ => exact ⟨_,fam,look_two0,hl,h1⟩
  | 1,_ => exact ⟨_,famB,look_two1,hl2,fun f => ⟨(hB f).1,rowRen_cl hB f⟩⟩
  | j + 2,hj => simp at hj; omega
 ·by_cases e:q = 0
  ·subst e; simp
  ·by_cases e1:q = 1
   ·subst e1; simp
   ·simp [look,Ne.symm e,Ne.symm e1] at hq
 ·obtain ⟨v1,v2⟩:=hv (fun _ _ => 0) (fun _ => none)
  refine ⟨fun _ => none,fun _ _ => 0,[fam',famB'],none,rfl,⟨fun f r g h => by simp at h,by rw [q1]; exact v1,by rw [q1]; exact v2,rfl,fun j hj => ?_,fun _ => rfl⟩⟩
  match j,hj with
  | 0,_ => exact ⟨_,_,q2,rfl,h2 _ _⟩
  | 1,_ => exact ⟨_,_,q3,rfl,fun f => ⟨rowRen_cl hB' f,by rw [(hB' f).1]; simp⟩⟩
  | j + 2,hj => simp at hj; omega
theorem tabOK_in2 {K C N sz:Nat} {tp ty:TypeId} {fam:Fam} (h:tabOK K N sz tp ty fam) (f:Nat):(fam f).g = none ∧ rowRen (thE [K,C]) (lowG 2) (lowB 2) (famT 0 N sz tp ty (fun i => (fam (i + 1)).get 0) f) (fam f):=
 ⟨(h.1 f).2.2.2.1.trans famT_g,rowRen_alike (rowRen_T (θ:=thE [K,C]) (g:=lowG 2) (B:=lowB 2) (fun _ => rfl) (fun _ => Nat.zero_lt_two) h.2 f) (h.1 f)⟩
def mcTPp (sz sz2:Nat) (tp ty:TypeId) (F:Nat → (Nat → List AV) → List AV → List AV → Option (List Prop × AV × (Nat → List AV) × List AV)):MCon:=fun key m es => match es with
 | .own K 0 N 1 :: .ptr C f i s2 0 :: rest => match look m K with
  | some fam => match look m C with
   | some famC => match F N (fun i => (fam (i + 1)).get 0) ((famC f).get i) rest with
    | some (ob,val,get',cs') => some ⟨(K ≠ C) :: (s2 = sz2) :: (i < (famC f).n) :: (sz2 = (famC f).sz) :: (cleanCs ((famC f).get i) = true) :: famCl famC :: tabOK K N sz tp ty fam :: ob,val,.many [(K,famT K N sz tp ty get'),(C,famE famC f i cs')] none⟩
    | none => none
   | none => none
  | none => none
 | _ => none
def mcTQ (sz sz2:Nat) (tp ty:TypeId) (F:Nat → (Nat → List AV) → List AV → List AV → Option (List Prop × AV × (Nat → List AV) × List AV)):MCon:=fun key m es => match es with
 | .own K 0 N 1 :: .bx C 0 :: rest => match look m K with
  | some fam => match look m C with
   | some famC => match F N (fun i => (fam (i + 1)).get 0) ((famC 0).get 0) rest with
    | some (ob,val,get',cs') => some ⟨(K ≠ C) :: ((famC 0).n = 1) :: (sz2 = (famC 0).sz) :: (cleanCs ((famC 0).get 0) = true) :: famCl famC :: tabOK K N sz tp ty fam :: ob,val,.many [(K,famT K N sz tp ty get'),(C,wb1 famC cs')] none⟩
    | none => none
   | none => none
  | none => none
 | es => mcTPp sz sz2 tp ty F key m es
def TPOK (P:Program) (G:Ctx) (H:Hots) (fn:Func) (sz sz2:Nat) (tp ty:TypeId) (F:Nat → (Nat → List AV) → List AV → List AV → Option (List Prop × AV × (Nat → List AV) × List AV)):Prop:=
 ∀ N get cells rest ob val get' cs',F N get cells rest = some (ob,val,get',cs') → (∀ p ∈ ob,p) → (∀ i,i < N → cleanCs (get i) = true) → cleanCs cells = true →
  (∀ a ∈ rest,clean 3 a = true) ∧ clean 3 val = true ∧ (∀ i,i < N → cleanCs (get' i) = true) ∧ cleanCs cs' = true ∧ funcOK P H fn (rest.length + 2) = true ∧
  ∀ (fam:Fam) (f i:Nat),i < (fam f).n → sz2 = (fam f).sz → famCl fam → bodyM P G H fn (.own 0 0 N 1 :: .ptr 1 f i sz2 0 :: rest) [(1,famE fam f i cells),(0,famT 0 N sz tp ty get)] 2 fun a m1 =>
   a = val ∧ look m1 0 = some (famT 0 N sz tp ty get') ∧ look m1 1 = some (famE fam f i cs')
theorem MConOK.mcTPp (hG:CtxOK P G) (hf:P.funcs[f]? = some fn) {sz sz2:Nat} {tp ty:TypeId} {F:Nat → (Nat → List AV) → List AV → List AV → Option (List Prop × AV × (Nat → List AV) × List AV)} (h:TPOK P G H fn sz sz2 tp ty F):MConOK P f (mcTPp sz sz2 tp ty F):=by
 refine MConOK.of (H:=H) hG hf fun key m es e hc hob => ?_
 unfold Ax.mcTPp at hc
 split at hc
 ·rename_i K N C f' i s2 rest
  split at hc
  ·rename_i fam hl
   split at hc
   ·rename_i famC hl2
    split at hc
    ·rename_i ob val get' cs' hF
     cases hc
     have hne:K ≠ C:=hob _ (by simp)
     have hs2:s2 = sz2:=hob _ (by simp)
     have hi:i < (famC f').n:=hob _ (by simp)
     have hsz:sz2 = (famC f').sz:=hob _ (by simp)
     have hcl:cleanCs ((famC f').get i) = true:=hob _ (by simp)
     have hC:famCl famC:=hob _ (by simp)
     have hok:tabOK K N sz tp ty fam:=hob _ (by simp)
     subst hs2
     obtain ⟨h1,h2,h3,h3',h4,h5⟩:=h _ _ _ _ _ _ _ _ hF (fun p hp => hob p (by simp [hp])) hok.2 hcl
     obtain ⟨a1,a2⟩:=cleans_ren (θ:=thE [K,C]) (g:=lowG 2) (B:=lowB 2) h1
     refine two_okG hne hl hl2 (tabOK_in2 hok) hC (famCl_E hC (cleanCs_mem h3'))
      (fun th σ f => ⟨rowRen_T thL2_0 (fun _ => .inl Nat.zero_lt_two) h3 f,by rw [famT_g]; simp⟩) (es0:=.own 0 0 N 1 :: .ptr 1 f' i s2 0 :: rest) (val0:=val) ?_ ?_ h4 (fun th σ => ?_) ?_
     ·rw [List.map_cons,List.map_cons,a1]; rfl
     ·intro a ha
      rcases List.mem_cons.1 ha with e | ha
      ·rw [e]; exact Nat.zero_lt_two
      ·rcases List.mem_cons.1 ha with e | ha
       ·rw [e]; exact Nat.one_lt_two
       ·exact a2 a ha
     ·obtain ⟨b1,b2⟩:=clean_ren (θ:=thL [K,C] key th) (g:=newG 2 σ th) (B:=newB 2 σ) 3 val h2
      exact ⟨b1.symm,b2⟩
     ·have:=h5 famC f' i hi hsz hC
      rw [famE_self] at this
      exact this
    ·cases hc
   ·cases hc
  ·cases hc
 ·cases hc
theorem MConOK.mcTQ (hG:CtxOK P G) (hf:P.funcs[f]? = some fn) {sz sz2:Nat} {tp ty:TypeId} {F:Nat → (Nat → List AV) → List AV → List AV → Option (List Prop × AV × (Nat → List AV) × List AV)} (h:TPOK P G H fn sz sz2 tp ty F):MConOK P f (mcTQ sz sz2 tp ty F):=by
 intro w0 ρ m m' D w key es vs e hR hk hm hRs hc hob hmany
 unfold Ax.mcTQ at hc
 split at hc
 ·rename_i K N C rest
  split at hc
  ·rename_i fam hl
   split at hc
   ·rename_i famC hl2
    split at hc
    ·rename_i ob val get' cs' hF
     cases hc
     have hne:K ≠ C:=hob _ (by simp)
     have hn:(famC 0).n = 1:=hob _ (by simp)
     have hsz:sz2 = (famC 0).sz:=hob _ (by simp)
     have hcl:cleanCs ((famC 0).get 0) = true:=hob _ (by simp)
     have hC:famCl famC:=hob _ (by simp)
     have hok:tabOK K N sz tp ty fam:=hob _ (by simp)
     have hRs':Rs w ρ (.own K 0 N 1 :: .ptr C 0 0 sz2 0 :: rest) vs:=by
      obtain ⟨x,xs,rfl,h1,h2⟩:=hRs.inv
      obtain ⟨y,ys,rfl,h3,h4⟩:=h2.inv
      refine .cons h1 (.cons ?_ h4)
      cases h3 with
      | bx hd =>
       have:R w ρ (.ptr C 0 0 sz2 0) (.pointer (some ⟨ρ.blk C 0,0 * sz2 + 0,none⟩)):=.ptr hd
       rw [Nat.zero_mul] at this
       exact this
     have:=MConOK.mcTPp hG hf h w0 ρ m m' D w key _ vs ⟨(K ≠ C) :: (sz2 = sz2) :: (0 < (famC 0).n) :: (sz2 = (famC 0).sz) :: (cleanCs ((famC 0).get 0) = true) :: famCl famC :: tabOK K N sz tp ty fam :: ob,val,.many [(K,famT K N sz tp ty get'),(C,famE famC 0 0 cs')] none⟩ hR hk hm hRs'
      (by simp only [Ax.mcTPp,hl,hl2,hF]) (fun p hp => by
       simp only [List.mem_cons] at hp
       rcases hp with rfl | rfl | rfl | rfl | rfl | rfl | rfl | hp
       ·exact hne
       ·trivial
       ·omega
       ·exact hsz
       ·exact hcl
       ·exact hC
       ·exact hok
       ·exact hob p (by simp [hp])) ⟨_,_,rfl⟩
     refine this.mono fun v w' ⟨ρ',p1,p2,p3,p4⟩ => ⟨ρ',p1,?_,p3,p4⟩
     have p2:Rel w0 ρ' (setRow C (famE famC 0 0 cs') (setRow K (famT K N sz tp ty get') m)) (fun r => D r ∨ r = key) w':=p2
     refine Rel.alike p2 fun f => ?_
     by_cases e:f = 0
     ·subst e
      refine ⟨rfl,rfl,rfl,rfl,fun i hi => ?_⟩
      rw [famE_n,hn] at hi
      have:i = 0:=by omega
      subst this
      rw [famE_get]; rfl
     ·unfold wb1
      rw [if_neg e,famE_off e]
      exact ⟨rfl,rfl,rfl,rfl,fun _ _ => rfl⟩
    ·cases hc
   ·cases hc
  ·cases hc
 ·exact MConOK.mcTPp hG hf h w0 ρ m m' D w key es vs e hR hk hm hRs hc hob hmany
def mc2P (sz:Nat) (tp ty:TypeId):MCon:=fun key m es => match es with
 | [.own K 0 N 1,.v (.int .i64 a),.v (.int .i64 b)] => match look m K with
  | some fam => some ⟨[tabOK K N sz tp ty fam,N ≤ 1000],if 0 ≤ a ∧ a < N ∧ 0 ≤ b ∧ b < N ∧ a ≠ b then .tup [.ptr K (a.toNat + 1) 0 sz 0,.ptr K (b.toNat + 1) 0 sz 0,.v (.bool true)] else .tup [.v (.pointer none),.v (.pointer none),.v (.bool false)],.many [(K,fam)] none⟩
  | none => none
 | _ => none
def TwoPOK (P:Program) (G:Ctx) (H:Hots) (fn:Func) (sz:Nat) (tp ty:TypeId):Prop:=
 ∀ N get,N ≤ 1000 → ∀ a b:Int,funcOK P H fn 3 = true ∧
  bodyM P G H fn [.own 0 0 N 1,.v (.int .i64 a),.v (.int .i64 b)] [(0,famT 0 N sz tp ty get)] 1 fun x m1 => x = (if 0 ≤ a ∧ a < N ∧ 0 ≤ b ∧ b < N ∧ a ≠ b then AV.tup [.ptr 0 (a.toNat + 1) 0 sz 0,.ptr 0 (b.toNat + 1) 0 sz 0,.v (.bool true)] else .tup [.v (.pointer none),.v (.pointer none),.v (.bool false)]) ∧ look m1 0 = some (famT 0 N sz tp ty get)
theorem MConOK.mc2P (hG:CtxOK P G) (hf:P.funcs[f]? = some fn) {sz:Nat} {tp ty:TypeId} (h:TwoPOK P G H fn sz tp ty):MConOK P f (mc2P sz tp ty):=by
 refine MConOK.of (H:=H) hG hf fun key m es e hc hob => ?_
 unfold Ax.mc2P at hc
 split at hc
 ·rename_i K N a b
  split at hc
  ·rename_i fam hl
   cases hc
   have hok:tabOK K N sz tp ty fam:=hob _ (by simp)
   have hN:N ≤ 1000:=hob _ (by simp)
   obtain ⟨h1,h2⟩:=h N (fun i => (fam (i + 1)).get 0) hN a b
   refine one_okG hl (tabOK_in hok) (fun th σ f => ⟨rowRen_alike (rowRen_T thL_0 (newG_0 (by simp)) hok.2 f) (hok.1 f),by rw [famT_g]; simp⟩) (es0:=[.own 0 0 N 1,.v (.int .i64 a),.v (.int .i64 b)]) ?_ ?_ h1 (fun th σ => ?_) h2
   ·rfl
   ·intro x hx
    simp only [List.mem_cons,List.not_mem_nil,or_false] at hx
    rcases hx with e | e | e <;> rw [e]
    ·exact Nat.zero_lt_one
    ·trivial
    ·trivial
   ·split
    ·refine ⟨?_,?_⟩
     ·show AV.tup [.ptr K _ _ _ _,.ptr K _ _ _ _,_] = .tup [.ptr (thL [K] key th 0 _).1 (thL [K] key th 0 _).2 _ _ _,.ptr (thL [K] key th 0 _).1 (thL [K] key th 0 _).2 _ _ _,_]
      rw [thL_0,thL_0]; rfl
     ·intro c hc
      simp only [List.mem_cons,List.not_mem_nil,or_false] at hc
      rcases hc with e | e | e <;> rw [e]
      ·exact newG_0 (by simp) _
      ·exact newG_0 (by simp) _
      ·trivial
    ·refine ⟨rfl,fun c hc => ?_⟩
     simp only [List.mem_cons,List.not_mem_nil,or_false] at hc
     rcases hc with e | e | e <;> rw [e] <;> trivial
  ·cases hc
 ·cases hc
def mcS (sz:Nat) (ty:TypeId) (F:Nat → (Nat → List AV) → List AV → Option (List Prop × AV × (Nat → List AV))):MCon:=fun key m es => match es with
 | .own r 0 N sz' :: rest => match look m r with
  | some fam => match F N (fam 0).get rest with
   | some (ob,val,get') => some ⟨(sz' = sz) :: (fam = famN N sz ty (fam 0).get none) :: (∀ i,i < N → cleanCs ((fam 0).get i) = true) :: ob,val,.many [(r,famN N sz ty get' none)] none⟩
   | none => none
  | none => none
 | _ => none
def SlOK (P:Program) (G:Ctx) (H:Hots) (fn:Func) (sz:Nat) (ty:TypeId) (F:Nat → (Nat → List AV) → List AV → Option (List Prop × AV × (Nat → List AV))):Prop:=
 ∀ N get rest ob val get',F N get rest = some (ob,val,get') → (∀ p ∈ ob,p) → (∀ i,i < N → cleanCs (get i) = true) → (∀ a ∈ rest,clean 3 a = true) ∧ clean 3 val = true ∧ (∀ i,i < N → cleanCs (get' i) = true) ∧ funcOK P H fn (rest.length + 1) = true ∧
  bodyM P G H fn (.own 0 0 N sz :: rest) [(0,famN N sz ty get none)] 1 fun a m1 => a = val ∧ look m1 0 = some (famN N sz ty get' none)
theorem famCl_N {n sz:Nat} {ty:TypeId} {get:Nat → List AV} (h:∀ i,i < n → cleanCs (get i) = true):famCl (famN n sz ty get none):=fun f => by
 unfold famN
 by_cases e:f = 0
 ·subst e
  exact ⟨rfl,fun j hj c hc => cleanCs_mem (h j (by simpa using hj)) c (by simpa using hc)⟩
 ·simp only [e,if_false]
  exact ⟨trivial,fun j hj => by omega⟩
theorem famCl_1 {sz:Nat} {ty:TypeId} {cs:List AV} (h:cleanCs cs = true):famCl (fam1 ty sz cs none):=fun f => by
 unfold fam1
 by_cases e:f = 0
 ·subst e
  exact ⟨rfl,fun j _ c hc => cleanCs_mem h c (by simpa using hc)⟩
 ·simp only [e,if_false]
  exact ⟨trivial,fun j hj => by omega⟩
theorem MConOK.mcS (hG:CtxOK P G) (hf:P.funcs[f]? = some fn) {sz:Nat} {ty:TypeId} {F:Nat → (Nat → List AV) → List AV → Option (List Prop × AV × (Nat → List AV))} (h:SlOK P G H fn sz ty F):MConOK P f (mcS sz ty F):=by
 refine MConOK.of (H:=H) hG hf fun key m es e hc hob => ?_
 unfold Ax.mcS at hc
 split at hc
 ·rename_i K N sz' rest
  split at hc
  ·rename_i fam hl
   split at hc
   ·rename_i ob val get' hF
    cases hc
    have hs:sz' = sz:=hob _ (by simp)
    have he:fam = famN N sz ty (fam 0).get none:=hob _ (by simp)
    have hcl:∀ i,i < N → cleanCs ((fam 0).get i) = true:=hob _ (by simp)
    subst hs
    obtain ⟨h1,h2,h3,h4,h5⟩:=h _ _ _ _ _ _ hF (fun p hp => hob p (by simp [hp])) hcl
    obtain ⟨a1,a2⟩:=cleans_ren (θ:=thE [K]) (g:=lowG 1) (B:=lowB 1) h1
    have hC:famCl fam:=by rw [he]; exact famCl_N hcl
    rw [← he] at h5
    refine one_okG hl (fun f => ⟨(hC f).1,rowRen_cl hC f⟩) (fun th σ f => ⟨rowRen_cl (famCl_N h3) f,by rw [(famCl_N h3 f).1]; simp⟩) (es0:=.own 0 0 N sz' :: rest) (val0:=val) ?_ ?_ h4 (fun th σ => ?_) h5
    ·rw [List.map_cons,a1]; rfl
    ·intro a ha
     rcases List.mem_cons.1 ha with e | ha
     ·rw [e]; exact Nat.zero_lt_one
     ·exact a2 a ha
    ·obtain ⟨b1,b2⟩:=clean_ren (θ:=thL [K] key th) (g:=newG 1 σ th) (B:=newB 1 σ) 3 val h2
     exact ⟨b1.symm,b2⟩
   ·cases hc
  ·cases hc
 ·cases hc
def LayOK2 (P:Program) (G:Ctx) (H:Hots) (fn:Func) (sz:Nat) (tp ty:TypeId) (F:List AV → Option (List Prop × Nat × (Nat → List AV))):Prop:=
 ∀ es ob N get,F es = some (ob,N,get) → (∀ p ∈ ob,p) → (∀ a ∈ es,clean 3 a = true) ∧ (∀ i,i < N → cleanCs (get i) = true) ∧ funcOK P H fn es.length = true ∧
  bodyM P G H fn es [] 0 fun a m1 => ∃ L M x y,L ≠ M ∧ a = .own L 0 N 1 ∧ look m1 L = some x ∧ look m1 M = some y ∧ alike ⟨N,1,tp,fun j => [.ptr M j 0 sz 0],none⟩ (x 0) ∧ ∀ i,i < N → alike ⟨1,sz,ty,fun _ => get i,none⟩ (y i)
def sigT (L M N:Nat) (f:Nat):Option (Nat × Nat):=match f with
 | 0 => some (L,0)
 | f + 1 => if f < N then some (M,f) else none
def thT (L:Nat) (r f:Nat):Nat:=if r = L then 0 else f + 1
theorem MConOK.mcL2 (hG:CtxOK P G) (hf:P.funcs[f]? = some fn) {sz:Nat} {tp ty:TypeId} {F:List AV → Option (List Prop × Nat × (Nat → List AV))} (h:LayOK2 P G H fn sz tp ty F):MConOK P f (Ax.mcL sz tp ty F):=by
 refine MConOK.of (H:=H) hG hf fun key m es e hc hob => ?_
 unfold Ax.mcL at hc
 split at hc
 ·rename_i ob N get hF
  cases hc
  obtain ⟨h1,h2,h3,h4⟩:=h _ _ _ _ hF fun p hp => hob p hp
  obtain ⟨a1,a2⟩:=cleans_ren (θ:=thE []) (g:=lowG 0) (B:=lowB 0) h1
  refine ⟨[],[],es,⟨by simp,a1.symm,a2,fun j hj => by simp at hj,fun q x hq => by simp [look] at hq⟩,h3,h4.mono fun a m1 ⟨L,M,x,y,q0,q1,q2,q3,q4,q5⟩ => ?_⟩
  have g0:∀ B:Nat,newG B (sigT L M N) (thT L) L 0:=fun B => .inr (by unfold thT sigT; rw [if_pos rfl])
  have gM:∀ B j:Nat,j < N → newG B (sigT L M N) (thT L) M j:=fun B j hj => .inr (by unfold thT; rw [if_neg (Ne.symm q0)]; unfold sigT; exact if_pos hj)
  refine ⟨sigT L M N,thT L,[],some _,rfl,⟨fun f r g h => ?_,?_,?_,rfl,fun j hj => by simp at hj,fun f => ?_⟩⟩
  ·cases f with
   | zero => cases h; exact ⟨Nat.zero_le _,if_pos rfl⟩
   | succ f =>
    unfold sigT at h
    dsimp only at h
    split at h
    ·cases h; exact ⟨Nat.zero_le _,if_neg (Ne.symm q0)⟩
    ·cases h
  ·rw [q1]
   show AV.own key 0 N 1 = .own (thL [] key (thT L) L 0).1 (thL [] key (thT L) L 0).2 N 1
   unfold thL thT
   simp
  ·rw [q1]; exact g0 _
  ·cases f with
   | zero =>
    refine ⟨_,q2,?_,by rw [q4.2.2.2.1]; simp⟩
    obtain ⟨k1,k2,k3,k4,k5⟩:=q4
    refine ⟨k1.symm,k2.symm,k3.symm,k4.symm,fun j hj => ?_⟩
    rw [k1] at hj
    rw [k5 j hj]
    refine ⟨?_,fun c hc => ?_⟩
    ·show [AV.ptr key (j + 1) 0 sz 0] = [AV.ptr (thL [] key (thT L) M j).1 (thL [] key (thT L) M j).2 0 sz 0]
     unfold thL thT
     simp [Ne.symm q0]
    ·rw [List.mem_singleton] at hc
     rw [hc]; exact gM _ j hj
   | succ f =>
    by_cases hf:f < N
    ·have e:sigT L M N (f + 1) = some (M,f):=if_pos hf
     rw [e]
     obtain ⟨k1,k2,k3,k4,k5⟩:=q5 f hf
     refine ⟨_,q3,?_,by rw [k4]; simp⟩
     refine rowRen_clean' ⟨?_,k2.symm,k3.symm,k4.symm,fun j hj => ?_⟩ fun j hj c hcm => ?_
     ·simp only [famT,if_pos hf]; exact k1.symm
     ·rw [k1] at hj
      have hj:j < 1:=hj
      have:j = 0:=by omega
      subst this
      rw [k5 0 Nat.zero_lt_one]; rfl
     ·rw [k1] at hj
      have hj:j < 1:=hj
      have:j = 0:=by omega
      subst this
      rw [k5 0 Nat.zero_lt_one] at hcm
      exact cleanCs_mem (h2 f hf) c hcm
    ·have e:sigT L M N (f + 1) = none:=if_neg hf
     rw [e]
     show (if f < N then 1 else 0) = 0
     exact if_neg hf
 ·cases hc
def mcV (sz:Nat) (ty:TypeId) (F:List AV → Option (List Prop × Nat × (Nat → List AV))):MCon:=fun key m es => match F es with
 | some (ob,N,get) => some ⟨ob,.own key 0 N sz,.many [] (some (famN N sz ty get none))⟩
 | none => none
def VecOK (P:Program) (G:Ctx) (H:Hots) (fn:Func) (sz:Nat) (ty:TypeId) (F:List AV → Option (List Prop × Nat × (Nat → List AV))):Prop:=
 ∀ es ob N get,F es = some (ob,N,get) → (∀ p ∈ ob,p) → (∀ a ∈ es,clean 3 a = true) ∧ (∀ i,i < N → cleanCs (get i) = true) ∧ funcOK P H fn es.length = true ∧
  bodyM P G H fn es [] 0 fun a m1 => ∃ L,a = .own L 0 N sz ∧ look m1 L = some (famN N sz ty get none)
theorem MConOK.mcV (hG:CtxOK P G) (hf:P.funcs[f]? = some fn) {sz:Nat} {ty:TypeId} {F:List AV → Option (List Prop × Nat × (Nat → List AV))} (h:VecOK P G H fn sz ty F):MConOK P f (Ax.mcV sz ty F):=by
 refine MConOK.of (H:=H) hG hf fun key m es e hc hob => ?_
 unfold Ax.mcV at hc
 split at hc
 ·rename_i ob N get hF
  cases hc
  obtain ⟨h1,h2,h3,h4⟩:=h _ _ _ _ hF fun p hp => hob p hp
  obtain ⟨a1,a2⟩:=cleans_ren (θ:=thE []) (g:=lowG 0) (B:=lowB 0) h1
  refine ⟨[],[],es,⟨by simp,a1.symm,a2,fun j hj => by simp at hj,fun q x hq => by simp [look] at hq⟩,h3,h4.mono fun a m1 ⟨L,q1,q2⟩ => ?_⟩
  refine ⟨whole L,idTh,[],some _,rfl,⟨fun f r g h => ?_,?_,?_,rfl,fun j hj => by simp at hj,fun f => ?_⟩⟩
  ·cases h; exact ⟨Nat.zero_le _,rfl⟩
  ·rw [q1]; rfl
  ·rw [q1]; exact .inr rfl
  ·exact ⟨_,q2,rowRen_cl (famCl_N h2) f,by rw [(famCl_N h2 f).1]; simp⟩
 ·cases hc
section
variable {sz sz2 K N C:Nat} {tp ty:TypeId} {m:Mem} {rest:List AV} {get get':Nat → List AV} {ob:List Prop} {val:AV} {fam famC:Fam} {cs cs':List AV}
def mcTf (K N sz:Nat) (tp ty:TypeId) (fam:Fam):Option (List Prop × AV × (Nat → List AV)) → Option Eff
 | some (ob,val,get') => some ⟨tabOK K N sz tp ty fam :: ob,val,.many [(K,famT K N sz tp ty get')] none⟩
 | none => none
def mcTe (sz:Nat) (tp ty:TypeId) (F:Nat → (Nat → List AV) → List AV → Option (List Prop × AV × (Nat → List AV))) (K N:Nat) (rest:List AV):Option Fam → Option Eff
 | some fam => mcTf K N sz tp ty fam (F N (fun i => (fam (i + 1)).get 0) rest)
 | none => none
theorem mcT_eq {F:Nat → (Nat → List AV) → List AV → Option (List Prop × AV × (Nat → List AV))}:Ax.mcT sz tp ty F key m (.own K 0 N 1 :: rest) = mcTe sz tp ty F K N rest (look m K):=by
 show (match look m K with
  | some fam => (match F N (fun i => (fam (i + 1)).get 0) rest with
   | some (ob,val,get') => some (⟨tabOK K N sz tp ty fam :: ob,val,.many [(K,famT K N sz tp ty get')] none⟩:Eff)
   | none => none)
  | none => none) = _
 unfold mcTe
 cases look m K with
 | none => rfl
 | some fam =>
  dsimp only
  unfold mcTf
  cases F N (fun i => (fam (i + 1)).get 0) rest <;> rfl
theorem mcTe_T {F:Nat → (Nat → List AV) → List AV → Option (List Prop × AV × (Nat → List AV))}:mcTe sz tp ty F K N rest (some (famT K N sz tp ty get)) = mcTf K N sz tp ty (famT K N sz tp ty get) (F N get rest):=(rfl)
theorem mcTf_some:mcTf K N sz tp ty fam (some (ob,val,get')) = some ⟨tabOK K N sz tp ty fam :: ob,val,.many [(K,famT K N sz tp ty get')] none⟩:=(rfl)
def mcQf (K N C sz sz2:Nat) (tp ty:TypeId) (fam famC:Fam):Option (List Prop × AV × (Nat → List AV) × List AV) → Option Eff
 | some (ob,val,get',cs') => some ⟨(K ≠ C) :: ((famC 0).n = 1) :: (sz2 = (famC 0).sz) :: (cleanCs ((famC 0).get 0) = true) :: famCl famC :: tabOK K N sz tp ty fam :: ob,val,.many [(K,famT K N sz tp ty get'),(C,wb1 famC cs')] none⟩
 | none => none
def mcQe (sz sz2:Nat) (tp ty:TypeId) (F:Nat → (Nat → List AV) → List AV → List AV → Option (List Prop × AV × (Nat → List AV) × List AV)) (K N C:Nat) (rest:List AV):Option Fam → Option Fam → Option Eff
 | some fam,some famC => mcQf K N C sz sz2 tp ty fam famC (F N (fun i => (fam (i + 1)).get 0) ((famC 0).get 0) rest)
 | _,_ => none
theorem mcTQ_bx {F:Nat → (Nat → List AV) → List AV → List AV → Option (List Prop × AV × (Nat → List AV) × List AV)}:Ax.mcTQ sz sz2 tp ty F key m (.own K 0 N 1 :: .bx C 0 :: rest) = mcQe sz sz2 tp ty F K N C rest (look m K) (look m C):=by
 show (match look m K with
  | some fam => (match look m C with
   | some famC => (match F N (fun i => (fam (i + 1)).get 0) ((famC 0).get 0) rest with
    | some (ob,val,get',cs') => some (⟨(K ≠ C) :: ((famC 0).n = 1) :: (sz2 = (famC 0).sz) :: (cleanCs ((famC 0).get 0) = true) :: famCl famC :: tabOK K N sz tp ty fam :: ob,val,.many [(K,famT K N sz tp ty get'),(C,wb1 famC cs')] none⟩:Eff)
    | none => none)
   | none => none)
  | none => none) = _
 unfold mcQe
 cases look m K with
 | none => rfl
 | some fam =>
  dsimp only
  cases look m C with
  | none => rfl
  | some famC =>
   dsimp only
   unfold mcQf
   cases F N (fun i => (fam (i + 1)).get 0) ((famC 0).get 0) rest <;> rfl
theorem mcQe_T {F:Nat → (Nat → List AV) → List AV → List AV → Option (List Prop × AV × (Nat → List AV) × List AV)}:mcQe sz sz2 tp ty F K N C rest (some (famT K N sz tp ty get)) (some famC) = mcQf K N C sz sz2 tp ty (famT K N sz tp ty get) famC (F N get ((famC 0).get 0) rest):=(rfl)
theorem mcQf_some:mcQf K N C sz sz2 tp ty fam famC (some (ob,val,get',cs')) = some ⟨(K ≠ C) :: ((famC 0).n = 1) :: (sz2 = (famC 0).sz) :: (cleanCs ((famC 0).get 0) = true) :: famCl famC :: tabOK K N sz tp ty fam :: ob,val,.many [(K,famT K N sz tp ty get'),(C,wb1 famC cs')] none⟩:=(rfl)
def mcRf (K N C f i s2 sz sz2:Nat) (tp ty:TypeId) (fam famC:Fam):Option (List Prop × AV × (Nat → List AV) × List AV) → Option Eff
 | some (ob,val,get',cs') => some ⟨(K ≠ C) :: (s2 = sz2) :: (i < (famC f).n) :: (sz2 = (famC f).sz) :: (cleanCs ((famC f).get i) = true) :: famCl famC :: tabOK K N sz tp ty fam :: ob,val,.many [(K,famT K N sz tp ty get'),(C,famE famC f i cs')] none⟩
 | none => none
def mcRe (sz sz2:Nat) (tp ty:TypeId) (F:Nat → (Nat → List AV) → List AV → List AV → Option (List Prop × AV × (Nat → List AV) × List AV)) (K N C f i s2:Nat) (rest:List AV):Option Fam → Option Fam → Option Eff
 | some fam,some famC => mcRf K N C f i s2 sz sz2 tp ty fam famC (F N (fun i => (fam (i + 1)).get 0) ((famC f).get i) rest)
 | _,_ => none
theorem mcTQ_ptr {F:Nat → (Nat → List AV) → List AV → List AV → Option (List Prop × AV × (Nat → List AV) × List AV)} {f i s2:Nat}:Ax.mcTQ sz sz2 tp ty F key m (.own K 0 N 1 :: .ptr C f i s2 0 :: rest) = mcRe sz sz2 tp ty F K N C f i s2 rest (look m K) (look m C):=by
 show (match look m K with
  | some fam => (match look m C with
   | some famC => (match F N (fun i => (fam (i + 1)).get 0) ((famC f).get i) rest with
    | some (ob,val,get',cs') => some (⟨(K ≠ C) :: (s2 = sz2) :: (i < (famC f).n) :: (sz2 = (famC f).sz) :: (cleanCs ((famC f).get i) = true) :: famCl famC :: tabOK K N sz tp ty fam :: ob,val,.many [(K,famT K N sz tp ty get'),(C,famE famC f i cs')] none⟩:Eff)
    | none => none)
   | none => none)
  | none => none) = _
 unfold mcRe
 cases look m K with
 | none => rfl
 | some fam =>
  dsimp only
  cases look m C with
  | none => rfl
  | some famC =>
   dsimp only
   unfold mcRf
   cases F N (fun i => (fam (i + 1)).get 0) ((famC f).get i) rest <;> rfl
theorem mcRe_T {F:Nat → (Nat → List AV) → List AV → List AV → Option (List Prop × AV × (Nat → List AV) × List AV)} {f i s2:Nat}:mcRe sz sz2 tp ty F K N C f i s2 rest (some (famT K N sz tp ty get)) (some famC) = mcRf K N C f i s2 sz sz2 tp ty (famT K N sz tp ty get) famC (F N get ((famC f).get i) rest):=(rfl)
theorem mcRf_some {f i s2:Nat}:mcRf K N C f i s2 sz sz2 tp ty fam famC (some (ob,val,get',cs')) = some ⟨(K ≠ C) :: (s2 = sz2) :: (i < (famC f).n) :: (sz2 = (famC f).sz) :: (cleanCs ((famC f).get i) = true) :: famCl famC :: tabOK K N sz tp ty fam :: ob,val,.many [(K,famT K N sz tp ty get'),(C,famE famC f i cs')] none⟩:=(rfl)
def mcPf (r r' f i s1 f' i' s2 sz:Nat) (fam:Fam):Option (List Prop × AV × List AV × List AV) → Option Eff
 | some (ob,val,cs,cs') => some ⟨(r' = r) :: (f ≠ f') :: (i < (fam f).n) :: (i' < (fam f').n) :: (s1 = sz) :: (s2 = sz) :: (sz = (fam f).sz) :: (sz = (fam f').sz) :: (cleanCs ((fam f).get i) = true) :: (cleanCs ((fam f').get i') = true) :: famOK r fam :: ob,val,.many [(r,famE (famE fam f i cs) f' i' cs')] none⟩
 | none => none
def mcPe (sz:Nat) (F:List AV → List AV → List AV → Option (List Prop × AV × List AV × List AV)) (r r' f i s1 f' i' s2:Nat) (rest:List AV):Option Fam → Option Eff
 | some fam => mcPf r r' f i s1 f' i' s2 sz fam (F ((fam f).get i) ((fam f').get i') rest)
 | none => none
theorem mcPP_eq {F:List AV → List AV → List AV → Option (List Prop × AV × List AV × List AV)} {r r' f i s1 f' i' s2:Nat}:Ax.mcPP sz F key m (.ptr r f i s1 0 :: .ptr r' f' i' s2 0 :: rest) = mcPe sz F r r' f i s1 f' i' s2 rest (look m r):=by
 show (match look m r with
  | some fam => (match F ((fam f).get i) ((fam f').get i') rest with
   | some (ob,val,cs,cs') => some (⟨(r' = r) :: (f ≠ f') :: (i < (fam f).n) :: (i' < (fam f').n) :: (s1 = sz) :: (s2 = sz) :: (sz = (fam f).sz) :: (sz = (fam f').sz) :: (cleanCs ((fam f).get i) = true) :: (cleanCs ((fam f').get i') = true) :: famOK r fam :: ob,val,.many [(r,famE (famE fam f i cs) f' i' cs')] none⟩:Eff)
   | none => none)
  | none => none) = _
 unfold mcPe
 cases look m r with
 | none => rfl
 | some fam =>
  dsimp only
  unfold mcPf
  cases F ((fam f).get i) ((fam f').get i') rest <;> rfl
theorem mcPe_some {F:List AV → List AV → List AV → Option (List Prop × AV × List AV × List AV)} {r r' f i s1 f' i' s2:Nat}:mcPe sz F r r' f i s1 f' i' s2 rest (some fam) = mcPf r r' f i s1 f' i' s2 sz fam (F ((fam f).get i) ((fam f').get i') rest):=(rfl)
theorem mcPf_some {r r' f i s1 f' i' s2:Nat}:mcPf r r' f i s1 f' i' s2 sz fam (some (ob,val,cs,cs')) = some ⟨(r' = r) :: (f ≠ f') :: (i < (fam f).n) :: (i' < (fam f').n) :: (s1 = sz) :: (s2 = sz) :: (sz = (fam f).sz) :: (sz = (fam f').sz) :: (cleanCs ((fam f).get i) = true) :: (cleanCs ((fam f').get i') = true) :: famOK r fam :: ob,val,.many [(r,famE (famE fam f i cs) f' i' cs')] none⟩:=(rfl)
def mcSf (r N s sz:Nat) (ty:TypeId) (fam:Fam):Option (List Prop × AV × (Nat → List AV)) → Option Eff
 | some (ob,val,get') => some ⟨(s = sz) :: (fam = famN N sz ty (fam 0).get none) :: (∀ i,i < N → cleanCs ((fam 0).get i) = true) :: ob,val,.many [(r,famN N sz ty get' none)] none⟩
 | none => none
def mcSe (sz:Nat) (ty:TypeId) (F:Nat → (Nat → List AV) → List AV → Option (List Prop × AV × (Nat → List AV))) (r N s:Nat) (rest:List AV):Option Fam → Option Eff
 | some fam => mcSf r N s sz ty fam (F N (fam 0).get rest)
 | none => none
theorem mcS_eq {F:Nat → (Nat → List AV) → List AV → Option (List Prop × AV × (Nat → List AV))} {r s:Nat}:Ax.mcS sz ty F key m (.own r 0 N s :: rest) = mcSe sz ty F r N s rest (look m r):=by
 show (match look m r with
  | some fam => (match F N (fam 0).get rest with
   | some (ob,val,get') => some (⟨(s = sz) :: (fam = famN N sz ty (fam 0).get none) :: (∀ i,i < N → cleanCs ((fam 0).get i) = true) :: ob,val,.many [(r,famN N sz ty get' none)] none⟩:Eff)
   | none => none)
  | none => none) = _
 unfold mcSe
 cases look m r with
 | none => rfl
 | some fam =>
  dsimp only
  unfold mcSf
  cases F N (fam 0).get rest <;> rfl
theorem mcSe_some {F:Nat → (Nat → List AV) → List AV → Option (List Prop × AV × (Nat → List AV))} {r s:Nat}:mcSe sz ty F r N s rest (some (famN N sz ty get none)) = mcSf r N s sz ty (famN N sz ty get none) (F N get rest):=(rfl)
theorem mcSf_some {r s:Nat}:mcSf r N s sz ty (famN N sz ty get none) (some (ob,val,get')) = some ⟨(s = sz) :: (famN N sz ty get none = famN N sz ty get none) :: (∀ i,i < N → cleanCs (get i) = true) :: ob,val,.many [(r,famN N sz ty get' none)] none⟩:=(rfl)
def mc2e (K N sz:Nat) (tp ty:TypeId) (a b:Int):Option Fam → Option Eff
 | some fam => some ⟨[tabOK K N sz tp ty fam,N ≤ 1000],if 0 ≤ a ∧ a < N ∧ 0 ≤ b ∧ b < N ∧ a ≠ b then .tup [.ptr K (a.toNat + 1) 0 sz 0,.ptr K (b.toNat + 1) 0 sz 0,.v (.bool true)] else .tup [.v (.pointer none),.v (.pointer none),.v (.bool false)],.many [(K,fam)] none⟩
 | none => none
theorem mc2P_eq {a b:Int}:Ax.mc2P sz tp ty key m [.own K 0 N 1,.v (.int .i64 a),.v (.int .i64 b)] = mc2e K N sz tp ty a b (look m K):=by
 show (match look m K with
  | some fam => some (⟨[tabOK K N sz tp ty fam,N ≤ 1000],if 0 ≤ a ∧ a < N ∧ 0 ≤ b ∧ b < N ∧ a ≠ b then .tup [.ptr K (a.toNat + 1) 0 sz 0,.ptr K (b.toNat + 1) 0 sz 0,.v (.bool true)] else .tup [.v (.pointer none),.v (.pointer none),.v (.bool false)],.many [(K,fam)] none⟩:Eff)
  | none => none) = _
 unfold mc2e
 cases look m K <;> rfl
theorem mc2e_some {a b:Int}:mc2e K N sz tp ty a b (some fam) = some ⟨[tabOK K N sz tp ty fam,N ≤ 1000],if 0 ≤ a ∧ a < N ∧ 0 ≤ b ∧ b < N ∧ a ≠ b then .tup [.ptr K (a.toNat + 1) 0 sz 0,.ptr K (b.toNat + 1) 0 sz 0,.v (.bool true)] else .tup [.v (.pointer none),.v (.pointer none),.v (.bool false)],.many [(K,fam)] none⟩:=(rfl)
theorem famCl_1t (h:cleanCs cs = true):famCl (fam1 ty sz cs none) = True:=eq_true (famCl_1 h)
theorem famCl_Nt {n:Nat} (h:∀ i,i < n → cleanCs (get i) = true):famCl (famN n sz ty get none) = True:=eq_true (famCl_N h)
end
attribute [go_sem] mcT_eq mcTe_T mcTf_some mcTQ_bx mcTQ_ptr mcQe_T mcQf_some mcRe_T mcRf_some mcPP_eq mcPe_some mcPf_some mcS_eq mcSe_some mcSf_some mc2P_eq mc2e_some famCl_1t famCl_Nt
end
end Go.Ax
end
section
set_option maxHeartbeats 4000000
set_option maxRecDepth 100000
namespace Go.Ax
open Go.Proofs
section
variable {P:Program} {G:Ctx} {H:Hots} {K0:AEx → St → Prop} {hot:Option Hot} {ops:Array Oper} {d:Option Tmp} {rest:List Oper} {i k:Nat} {st:List Fr} {t:Slots} {m:Mem} {nx:Nat} {o:List Prop} {u:Upd} {b:Bd} {c:Bool}
theorem ofC_body:ofC (some (true,27)) (bodyC b) = some (.agg (bodyC b)):=(rfl)
theorem cells_body:cellsOf (.agg (bodyC b)) = some (bodyC b):=(rfl)
theorem drop_body:(bodyC b).drop 27 = []:=(rfl)
theorem drop5_body:(bodyC b).drop 5 = [i64 b.pl.1.1,bo b.pl.1.2,i64 b.pl.2.1,bo b.pl.2.2,i64 b.rot.1.1,bo b.rot.1.2,i64 b.rot.2.1,bo b.rot.2.2,i64 b.v.1.1,bo b.v.1.2,i64 b.v.2.1,bo b.v.2.2,i64 b.w.1,bo b.w.2,i64 b.m.1,bo b.m.2,i64 b.i.1,bo b.i.2,i64 b.st,bo b.sl,bo b.fa,i64 b.ve]:=(rfl)
theorem drop19_body:(bodyC b).drop 19 = [i64 b.m.1,bo b.m.2,i64 b.i.1,bo b.i.2,i64 b.st,bo b.sl,bo b.fa,i64 b.ve]:=(rfl)
theorem drop21_body:(bodyC b).drop 21 = [i64 b.i.1,bo b.i.2,i64 b.st,bo b.sl,bo b.fa,i64 b.ve]:=(rfl)
theorem take_body:(bodyC b).take 27 = bodyC b:=(rfl)
theorem cleanCs_body:cleanCs (bodyC b) = true:=(rfl)
theorem allCells_body:allCells (bodyC b) = true:=(rfl)
theorem purUL_body:purUL 2 m (bodyC b) = bodyC b:=(rfl)
theorem pgsL_body:pgsL 2 m (bodyC b) = []:=(rfl)
theorem purL_body:(bodyC b).map (pur 2 m) = bodyC b:=(rfl)
theorem cleanL_body:cleanL 2 (bodyC b) = true:=(rfl)
theorem purLd_body {d:Nat}:purL d m (bodyC b) = bodyC b:=by cases d <;> rfl
theorem bindL_body:bindL P G H K0 hot ops d rest i st t m nx o u false [] (bodyC b) = bindC P G H K0 hot ops d rest i st t m nx o u (.agg (bodyC b)):=by
 unfold bindL; simp
end
attribute [go_sem] purLd_body drop5_body drop19_body drop21_body cleanL_body ofC_body cells_body drop_body take_body cleanCs_body allCells_body purUL_body pgsL_body purL_body bindL_body len_body clean_body bodyD_C
theorem tmpE_ptr {r f i sz k:Nat}:tmpE (.ptr r f i sz k) = some ⟨[],.ptr r f i sz k,.none⟩:=(rfl)
attribute [go_sem] tmpE_ptr
theorem iHft {b:Bd} {x n:V2}:inR (hftS b x n).1 = True:=iAdd
theorem iSpd1 {b:Bd} {x:V2}:inR (spdS b x).1.1 = True:=iVAdd1
theorem iSpd2 {b:Bd} {x:V2}:inR (spdS b x).2.1 = True:=iVAdd2
attribute [go_sem] iHft iSpd1 iSpd2
def bsC (B:Nat → Bd):Nat → List AV:=fun i => bodyC (B i)
def bsD (g:Nat → List AV):Nat → Bd:=fun i => bodyD (g i)
theorem bsD_C {B:Nat → Bd}:bsD (bsC B) = B:=rfl
theorem bsC_at {B:Nat → Bd} {i:Nat}:bsC B i = bodyC (B i):=(rfl)
def inBs (N:Nat) (B:Nat → Bd):Prop:=∀ i,i < N → inB (B i) ∧ (B i).n ≤ 1000
def cL (F:Nat → (Nat → Bd) → List AV → Option (List Prop × AV)):Con
 | .ro N 27 g :: rest => match F N (bsD g) rest with
  | some (ob,r) => some ((g = bsC (bsD g)) :: ob,r)
  | none => none
 | _ => none
theorem cL_eq {F:Nat → (Nat → Bd) → List AV → Option (List Prop × AV)} {N:Nat} {g:Nat → List AV} {rest:List AV}:cL F (.ro N 27 g :: rest) = (match F N (bsD g) rest with
  | some (ob,r) => some ((g = bsC (bsD g)) :: ob,r)
  | none => none):=(rfl)
theorem ConOK.cL {P:Program} {G:Ctx} {H:Hots} (hG:CtxOK P G) {f:FuncId} {fn:Func} (hf:P.funcs[f]? = some fn) {F:Nat → (Nat → Bd) → List AV → Option (List Prop × AV)}
  (h:∀ N B rest ob r,F N B rest = some (ob,r) → (∀ p ∈ ob,p) → funcOK P H fn (rest.length + 1) = true ∧ fnVC P G H fn (.ro N 27 (bsC B) :: rest) (· = r)):ConOK P f (Ax.cL F):=ConOK.of hG hf fun l ob r hc hob => by
 unfold Ax.cL at hc
 split at hc
 ·rename_i N g rest
  split at hc
  ·rename_i ob' r' hF
   cases hc
   have e:g = bsC (bsD g):=hob _ (by simp)
   obtain ⟨h1,h2⟩:=h _ _ _ _ _ hF fun p hp => hob p (by simp [hp])
   rw [← e] at h2
   exact ⟨h1,h2⟩
  ·cases hc
 ·cases hc
def layF:List AV → Option (List Prop × Nat × (Nat → List AV))
 | [.ro N 27 g] => some ([N ≤ 1000,g = bsC (bsD g),inBs N (bsD g)],N,g)
 | _ => none
def mNlay:MCon:=mcL 27 92 96 layF
theorem mNlay_eq {key:Nat} {m:Mem} {N:Nat} {g:Nat → List AV}:mNlay key m [.ro N 27 g] = some ⟨[N ≤ 1000,g = bsC (bsD g),inBs N (bsD g)],.own key 0 N 1,.many [] (some (famT key N 27 92 96 g))⟩:=(rfl)
def famP (M N i:Nat):Fam:=famN N 1 92 (fun j => if j < i then [.ptr M j 0 27 0] else [.v (.pointer none)]) none
def famL (B:Nat → Bd) (i:Nat):Fam:=fun f => ⟨if f < i then 1 else 0,27,96,fun j => if j = 0 then bodyC (B f) else [],none⟩
theorem fitLA_body {N M:Nat} {θ:Alias} {b:Bd}:fitLA N M θ (bodyC b) (bodyC b):=by
 simp [fitLA,bodyC,fit1A,kb]
def thI (K Q i:Nat):Alias:=fun r f => if r = K then (if f < i then some (K,f) else if f = i then some (Q,0) else none) else some (r,f)
def th0 (K:Nat):Alias:=fun r f => if r = K then none else some (r,f)
theorem goodA_0 {K L:Nat} {x y:Fam} (hL:L < K):goodA K 1 (th0 K) [(K,x),(L,y)] []:=by
 refine ⟨fun r f hr => if_neg (by omega),fun e he => ?_,fun r f r' f' q g hr hr' h h' => ?_⟩
 ·simp only [List.mem_cons,List.not_mem_nil,or_false] at he
  rcases he with e | e <;> rw [e] <;> dsimp only <;> omega
 ·unfold th0 at h h'
  split at h
  ·cases h
  ·split at h'
   ·cases h'
   ·cases h; cases h'; exact ⟨rfl,rfl⟩
theorem goodA_I {K L Q i:Nat} {x y:Fam} (hL:L < K) (hQ:K < Q):goodA K 1 (thI K Q i) [(K,x),(L,y)] []:=by
 refine ⟨fun r f hr => if_neg (by omega),fun e he => ?_,fun r f r' f' q g hr hr' h h' => ?_⟩
 ·simp only [List.mem_cons,List.not_mem_nil,or_false] at he
  rcases he with e | e <;> rw [e] <;> dsimp only <;> omega
 ·simp only [List.map_cons,List.map_nil,List.mem_cons,List.not_mem_nil,or_false] at hr hr'
  unfold thI at h h'
  rcases hr with e | e <;> rcases hr' with e' | e' <;> subst e <;> subst e'
  ·rw [if_pos rfl] at h h'
   refine ⟨rfl,?_⟩
   (repeat' split at h) <;> (repeat' split at h') <;> simp_all
   all_goals omega
  ·rw [if_pos rfl] at h
   rw [if_neg (by omega)] at h'
   cases h'
   (repeat' split at h) <;> simp_all
   all_goals omega
  ·rw [if_pos rfl] at h'
   rw [if_neg (by omega)] at h
   cases h
   (repeat' split at h') <;> simp_all
   all_goals omega
  ·rw [if_neg (by omega)] at h h'
   cases h; cases h'; exact ⟨rfl,rfl⟩
theorem con56m:MConOK Tryz.prog 56 mNlay:=MConOK.mcL2 (G:=[(41,.wr mNon)]) (H:=[]) (.mcons con41m .nil) Tryz.func56 fun es ob N get hF hob => by
 unfold layF at hF
 split at hF
 ·cases hF
  have hN:N ≤ 1000:=hob _ (by simp)
  have e:get = bsC (bsD get):=hob _ (by simp)
  have hB:inBs N (bsD get):=hob _ (by simp)
  generalize bsD get = B at *
  subst e
  refine ⟨by simp [clean],fun i _ => rfl,by kernel_rfl,bodyM_go (rs:=[.tmp 2]) rfl rfl ?_⟩
  simp only [go_sem,bsC_at]
  have hby:bytesT Tryz.prog 92 = 8:=by kernel_rfl
  rw [hby]
  refine ⟨by omega,by omega,by omega,?_⟩
  refine loopA_go (fun (i:Nat) => i ≤ N) (fun i => N - i) (fun i => [(11,i64 (i:Int))]) (fun i => [(8,famL B i),(3,famP 8 N i)]) [] [12,13,14,15,5,4,16,17,18,19,20,21,11] 1 0 (by kernel_rfl) (Nat.zero_le _) ⟨th0 8,?_,?_,trivial,goodA_0 (by omega)⟩ ?_
  ·simp [fitSlotsA,fit1A,kb,slot]
  ·refine ⟨fun f => ⟨rfl,rfl⟩,fun f => ⟨_,rfl,?_⟩,trivial⟩
   unfold famP famN
   split
   ·refine ⟨rfl,rfl,rfl,rfl,rfl,fun j _ => ?_⟩
    simp [fitLA,fit1A,kb]
   ·exact ⟨rfl,rfl,rfl,rfl,rfl,fun j hj => absurd hj (Nat.not_lt_zero j)⟩
  intro i hi
  simp only [go_sem,famP,bsC_at,mNon_eq]
  refine ⟨fun h => ?_,fun h => ?_⟩
  ·have hi':i < N:=by omega
   refine ⟨by omega,h,(hB i hi').1,(hB i hi').2,by omega,h,hi',fun z hz => ⟨i + 1,by omega,by omega,thI 8 19 i,?_,?_,goodA_I (by omega) (by omega)⟩⟩
   ·have e:z = ((i + 1:Nat):Int):=by rw [hz,wrap_in (by unfold inR; omega)]; rfl
    subst e
    simp [fitSlotsA,fit1A,kb,slot]
   ·refine ⟨fun f => ?_,fun f => ?_,trivial⟩
    ·unfold thI
     rw [if_pos rfl]
     by_cases h1:f < i
     ·rw [if_pos h1]
      refine ⟨_,rfl,?_⟩
      unfold famL
      refine ⟨by simp [h1]; omega,rfl,rfl,rfl,rfl,fun j hj => ?_⟩
      have:j = 0:=by simp only at hj; split at hj <;> omega
      subst this
      exact fitLA_body
     ·rw [if_neg h1]
      by_cases h2:f = i
      ·subst h2
       rw [if_pos rfl]
       refine ⟨_,rfl,?_⟩
       unfold famL fam1
       refine ⟨by simp,rfl,rfl,rfl,rfl,fun j hj => ?_⟩
       have:j = 0:=by simp only at hj; split at hj <;> omega
       subst this
       exact fitLA_body
      ·rw [if_neg h2]
       exact ⟨if_neg (by omega),rfl⟩
    ·unfold thI
     rw [if_neg (by omega)]
     refine ⟨_,rfl,?_⟩
     unfold famN
     split
     ·refine ⟨rfl,rfl,rfl,rfl,rfl,fun j _ => ?_⟩
      dsimp only
      by_cases h1:j = i
      ·subst h1
       simp [fitLA,fit1A]
      ·by_cases h2:j < i
       ·rw [if_pos (by omega),if_neg h1,if_pos h2]
        simp [fitLA,fit1A,h2]
       ·rw [if_neg (by omega),if_neg h1,if_neg h2]
        simp [fitLA,fit1A,kb]
     ·exact ⟨rfl,rfl,rfl,rfl,rfl,fun j hj => absurd hj (Nat.not_lt_zero j)⟩
  ·have e:i = N:=by omega
   subst e
   refine ⟨3,8,_,_,by omega,rfl,rfl,rfl,⟨rfl,rfl,rfl,rfl,fun j hj => ?_⟩,fun j hj => ⟨if_pos hj,rfl,rfl,rfl,fun q hq => ?_⟩⟩
   ·show (if j < i then _ else _) = _
    exact if_pos hj
   ·have hq:q < 1:=hq
    show (if q = 0 then _ else _) = _
    exact if_pos (by omega)
 ·cases hF
theorem ofC_len {l:List AV} (h:l.length = 27):ofC (some (true,27)) l = some (.agg l):=by
 rw [ofC_agg,if_pos (by omega),← h,List.take_length]
theorem fitL_clean {N M:Nat} {σ:Names}:∀ {l:List AV},cleanCs l = true → fitL N M σ l l
 | [],_ => trivial
 | a :: l,h => by
  simp only [cleanCs,Bool.and_eq_true] at h
  refine ⟨?_,fitL_clean h.2⟩
  have h1:=h.1
  cases a <;> first | exact ⟨rfl,trivial⟩ | trivial | simp [cleanC] at h1
def mNtel:MCon:=mcTR 27 92 96 40
theorem con75L:MConOK Tryz.prog 61 (mcTL 27 92 96 40):=MConOK.mcTL (G:=[]) (H:=[]) .nil Tryz.func61 fun N get hN hcl hlen => by
 refine ⟨by kernel_rfl,bodyM_go (rs:=[.tmp 2]) rfl rfl ?_⟩
 simp only [go_sem]
 have hby:bytesT Tryz.prog 40 = 224:=by kernel_rfl
 rw [hby]
 refine ⟨by omega,by omega,by omega,?_⟩
 refine loopC_go (fun (i:Nat) => i ≤ N) (fun i => N - i) (fun i => [(11,i64 (i:Int))]) (fun i => [(4,famN N 27 40 (fun j => if j < i then get j else [.v (.int .i64 0),.v (.int .i64 0),.v (.int .i64 0),.v (.int .i64 0),.v (.slice none 0 0),.v (.int .i64 0),.v (.bool false),.v (.int .i64 0),.v (.bool false),.v (.int .i64 0),.v (.bool false),.v (.int .i64 0),.v (.bool false),.v (.int .i64 0),.v (.bool false),.v (.int .i64 0),.v (.bool false),.v (.int .i64 0),.v (.bool false),.v (.int .i64 0),.v (.bool false),.v (.int .i64 0),.v (.bool false),.v (.int .i64 0),.v (.bool false),.v (.bool false),.v (.int .i64 0)]) none)]) [0] [12,13,14,15,4,5,16,17,18,19,20,21,22,23,11] 0 (by kernel_rfl) ?_ (Nat.zero_le _) ?_ ?_
 ·intro x _; simp [goodNames,asg]
 ·simp only [go_sem,Nat.not_lt_zero,if_false,implies_true]
 intro i hi
 by_cases hiN:i < N
 ·obtain ⟨hl,ha⟩:=hlen i hiN
  have hl27:(get i).drop 27 = []:=by rw [List.drop_eq_nil_iff]; omega
  have hof:=ofC_len hl
  simp only [go_sem,Nat.lt_irrefl,if_false,hl,ha,hof,hl27]
  refine ⟨fun h => ⟨by omega,h,hiN,hiN,by omega,h,hiN,fun z hz => ⟨i + 1,by omega,by omega,by rw [hz,wrap_in (by unfold inR; omega)]; rfl,fun j hj => ?_⟩⟩,fun h => absurd hiN (by omega)⟩
  by_cases e:j = i
  ·subst e
   rw [if_pos (by omega),if_pos rfl]
   exact fitL_clean (hcl j hj)
  ·rw [if_neg e]
   by_cases e2:j < i
   ·rw [if_pos (by omega),if_pos e2]
    exact fitL_clean (hcl j hj)
   ·rw [if_neg (by omega),if_neg e2]
    exact fitL_clean rfl
 ·simp only [go_sem]
  refine ⟨fun h => absurd h (by omega),fun h => ⟨4,_,by omega,rfl,rfl,fun j hj => if_pos (by omega)⟩⟩
theorem con61m:MConOK Tryz.prog 61 mNtel:=MConOK.mcTR con75L
def nwE (k r w t:Int) (n:Nat) (X Y:Nat → Int) (at' rot:V2) (d:Int) (mv:Bool):Int:=
 if chkS k r w t n X Y ≠ 0 then chkS k r w t n X Y else
 if (if mv = true then wgE k r w t n X Y d else if d ≠ 0 then 3 else 0) ≠ 0 then (if mv = true then wgE k r w t n X Y d else if d ≠ 0 then 3 else 0) else plErr k r w t n X Y at' rot
def nwW (k r w t:Int) (n:Nat) (X Y:Nat → Int) (d:Int) (mv:Bool):Nb × Nb:=if mv = true then wgS k r w t n X Y d else ((0,false),(0,false))
def zV:V2:=((0,false),(0,false))
def nwB (k r w t:Int) (n:Nat) (X Y:Nat → Int) (at' rot:V2) (d:Int) (mv:Bool):Bd:=
 if nwE k r w t n X Y at' rot d mv = 0 then ⟨k,r,w,t,n,X,Y,at',rot,zV,(0,false),(nwW k r w t n X Y d mv).1,(nwW k r w t n X Y d mv).2,0,false,false,1⟩
 else ⟨0,0,0,0,0,X,Y,zV,zV,zV,(0,false),(0,false),(0,false),0,false,false,0⟩
theorem alk_bodyT {a b c d e p q:AV} {l:List AV} (h:alk p q):alk (.tup [.agg (a :: b :: c :: d :: p :: l),e]) (.tup [.agg (a :: b :: c :: d :: q :: l),e]):=fun w ρ v hR => by
 cases hR with
 | tup hl hh =>
  refine .tup hl fun i x z h1 h2 => ?_
  match i with
  | 0 =>
   simp at h1; subst h1
   have:=hh 0 _ z rfl h2
   cases this with
   | agg hl' hh' =>
    refine .agg hl' fun j x y h3 h4 => ?_
    match j with
    | 0 => exact hh' 0 x y h3 h4
    | 1 => exact hh' 1 x y h3 h4
    | 2 => exact hh' 2 x y h3 h4
    | 3 => exact hh' 3 x y h3 h4
    | 4 =>
     simp at h3; subst h3
     exact h _ _ _ (hh' 4 _ y rfl h4)
    | m + 5 => exact hh' (m + 5) x y h3 h4
  | i + 1 => exact hh (i + 1) x z h1 h2
end Go.Ax
end
section
set_option maxHeartbeats 4000000
set_option maxRecDepth 100000
namespace Go.Ax
open Go.Proofs
end Go.Ax
end
section
set_option maxHeartbeats 4000000
set_option maxRecDepth 100000
namespace Go.Ax
open Go.Proofs
def dtW (a b c d:Int):Int:=IntKind.i64.wrap (IntKind.i64.wrap (a * c) + IntKind.i64.wrap (b * d))
def crW (a b c d:Int):Int:=IntKind.i64.wrap (IntKind.i64.wrap (a * d) - IntKind.i64.wrap (b * c))
def mnW (a b:Int):Int:=IntKind.i64.wrap (b - a)
def farS (ax ay bx byy cx cy r:Int):Bool:=
 if dtW (mnW ax cx) (mnW ay cy) (mnW ax bx) (mnW ay byy) ≤ 0 then decide (IntKind.i64.wrap (r * r) < dtW (mnW ax cx) (mnW ay cy) (mnW ax cx) (mnW ay cy))
 else if dtW (mnW ax bx) (mnW ay byy) (mnW ax bx) (mnW ay byy) ≤ dtW (mnW ax cx) (mnW ay cy) (mnW ax bx) (mnW ay byy) then decide (IntKind.i64.wrap (r * r) < dtW (mnW bx cx) (mnW byy cy) (mnW bx cx) (mnW byy cy))
 else decide (0 < cmpS (crW (mnW ax bx) (mnW ay byy) (mnW ax cx) (mnW ay cy) * crW (mnW ax bx) (mnW ay byy) (mnW ax cx) (mnW ay cy)) (IntKind.i64.wrap (r * r) * dtW (mnW ax bx) (mnW ay byy) (mnW ax bx) (mnW ay byy)))
theorem dtW_eq {a b c d:Int}:IntKind.i64.wrap (IntKind.i64.wrap (a * c) + IntKind.i64.wrap (b * d)) = dtW a b c d:=rfl
theorem mnW_eq {a b:Int}:IntKind.i64.wrap (b - a) = mnW a b:=rfl
theorem dtW_inR {a b c d:Int}:inR (dtW a b c d):=wrap_inR _
def c197:Con
 | [.agg [.v (.int .i64 ax),.v (.int .i64 ay)],.agg [.v (.int .i64 bx),.v (.int .i64 byy)],.agg [.v (.int .i64 cx),.v (.int .i64 cy)],.v (.int .i64 r)] => some ([],bo (farS ax ay bx byy cx cy r))
 | _ => none
theorem con197:ConOK Tryz.prog 197 c197:=ConOK.of (G:=[(193,c193),(194,c194),(258,c258),(259,c259)]) (H:=[(1,⟨[(12,.made 9),(13,.made 10),(14,.made 11)],[]⟩)]) (.cons con193 (.cons con194 (.cons con258 (.cons con259 .nil)))) Tryz.func197 fun l ob r hc hob => by
 unfold c197 at hc
 split at hc
 ·rename_i r
  cases hc
  refine ⟨by kernel_rfl,fnVC_go (rs:=[.tmp 8]) rfl rfl ?_⟩
  simp only [go_sem,c193,c194,c258,c259]
  simp only [forall_eq,mnW_eq,dtW_eq]
  refine ⟨fun h => ?_,fun h => ⟨fun h2 => ?_,fun h2 => ⟨wrap_inR _,wrap_inR _,wrap_inR _,dtW_inR,?_⟩⟩⟩
  ·unfold farS; rw [if_pos h]
  ·unfold farS; rw [if_neg h,if_pos h2]
  ·unfold farS; rw [if_neg h,if_neg h2]; rfl
 ·cases hc
def k180:Con
 | [.agg [.v (.int .i64 x),.v (.bool e),.v (.int .i64 y),.v (.bool f)],.agg [.v (.int .i64 a),.v (.int .i64 b)],.agg [.v (.int .i64 c),.v (.int .i64 d)]] => some ([inR x,inR y],nbA (vDot ((x,e),(y,f)) (vLoc (mnW a c) (mnW b d))))
 | _ => none
theorem kon180:ConOK Tryz.prog 209 k180:=ConOK.of (G:=[(193,c193),(125,k63),(174,k178)]) (H:=[(1,⟨[(6,.slot 6)],[]⟩)]) (.cons con193 (.cons kon63 (.cons kon178 .nil))) Tryz.func209 fun l ob r hc hob => by
 unfold k180 at hc
 split at hc
 ·rename_i x e y f a b c d
  cases hc
  have h_0:inR x:=hob _ (by simp)
  have h_1:inR y:=hob _ (by simp)
  refine ⟨by kernel_rfl,fnVC_go (rs:=[.cell 6 27]) rfl rfl ?_⟩
  simp only [go_sem,c193,k63,k178]
  simp only [forall_eq]
  exact ⟨wrap_inR _,wrap_inR _,h_0,h_1,rfl⟩
 ·cases hc
def clrS (n:Nat) (X Y:Nat → Int) (m:Nat) (Z T:Nat → Int):Bool:=decide (∃ i,i < n ∧ ∀ j,j < m → turnS (X i) (Y i) (X (nxt n i)) (Y (nxt n i)) (Z j) (T j) < 0)
def outS (n:Nat) (X Y:Nat → Int) (cx cy r:Int):Bool:=decide (inS n X Y cx cy = false ∧ ∀ i,i < n → farS (X i) (Y i) (X (nxt n i)) (Y (nxt n i)) cx cy r = true)
theorem vc198 (n m:Nat) (X Y Z T:Nat → Int) (hX:∀ i,i < n → inR (X i) ∧ inR (Y i)) (hZ:∀ i,i < m → inR (Z i) ∧ inR (T i)) (hn:n ≤ 9223372036854775806) (hm:m ≤ 9223372036854775806) (vX:∀ i,i < n → validS (X i) (Y i) = true) (vZ:∀ i,i < m → validS (Z i) (T i) = true) :
  fnVC Tryz.prog [(256,c256),(196,c196),(1000000 + 257,c257)] [] Tryz.f198 [.agg [.ro n 2 fun i => [i64 (X i),i64 (Y i)]],.agg [.ro m 2 fun i => [i64 (Z i),i64 (T i)]]] (· = bo (clrS n X Y m Z T)):=by
 refine fnVC_go (rs:=[.cell 4 4]) rfl rfl ?_
 simp only [go_sem,c196]
 have hg:spots n fun i => [i64 (X i),i64 (Y i)]:=fun i hi => ⟨rfl,hX i hi⟩
 refine rangeC_go (fun (i:Nat) => i ≤ n ∧ ∀ j,j < i → ¬ ∀ l,l < m → turnS (X j) (Y j) (X (nxt n j)) (Y (nxt n j)) (Z l) (T l) < 0) (fun i => i) (fun _ => []) [2,1,0] [11,12,5,6,13,14,15,16,17,18,19,8,20,21,22,23,24,25,16] 0 0 (N:=n) (sq:=edgeE n fun i => [i64 (X i),i64 (Y i)]) (ob:=[spots n fun i => [i64 (X i),i64 (Y i)],n ≤ 9223372036854775806]) rfl (by simp [hg,hn]) (by kernel_rfl) rfl (fun i _ => ⟨rfl,rfl⟩) ⟨Nat.zero_le _,fun j hj => by omega⟩ rfl ⟨[],?_,?_,?_⟩ ?_ ?_
 ·simp only [go_sem]
 ·simp only [go_sem]
 ·simp [goodNames,asg]
 ·intro i hi hlt
  simp only [go_sem,edgeE,c256]
  refine loopC_go (fun (j:Nat) => j ≤ m ∧ ∀ l,l < j → turnS (X i) (Y i) (X (nxt n i)) (Y (nxt n i)) (Z l) (T l) < 0) (fun j => m - j) (fun j => [(16,i64 j)]) (fun _ => []) [7,5,2,1,0] [17,18,19,8,20,21,22,23,24,25,16] 0 (by kernel_rfl) ?_ ⟨Nat.zero_le _,fun l hl => by omega⟩ ?_ ?_
  ·intro x _; simp [goodNames]
  ·simp only [go_sem]
  intro j hj
  simp only [go_sem,c256]
  refine ⟨fun hin => ⟨by omega,hin,fun z hz => ⟨vX i hlt,vX _ (nxt_lt hlt),vZ j (by omega),fun h => ⟨i + 1,⟨by have:i < n:=hlt; omega,fun j' hj' => ?_⟩,rfl,[],?_⟩,fun h z1 hz1 => ⟨j + 1,⟨by omega,fun l hl => ?_⟩,by omega,?_⟩⟩⟩,fun hin => ?_⟩
  ·by_cases e:j' = i
   ·subst e
    intro hc
    have:=hc j (by omega)
    omega
   ·exact hi.2 j' (by omega)
  ·simp [goodNames]
  ·by_cases e:l = j
   ·subst e; omega
   ·exact hj.2 l (by omega)
  ·rw [hz1,wrap_in (by unfold inR; omega)]; rfl
  ·exact (decide_eq_true (show ∃ i,_ from ⟨i,hlt,fun l hl => hj.2 l (by omega)⟩)).symm
 ·intro i hi he
  simp only [go_sem]
  refine (decide_eq_false (fun ⟨j,hj,hc⟩ => hi.2 j (by omega) hc)).symm
def c198:Con
 | [.agg [.ro n 2 g],.agg [.ro m 2 g']] => some ([spots n g,spots m g',n ≤ 9223372036854775806,m ≤ 9223372036854775806,∀ i,i < n → validS (gx g 0 i) (gx g 1 i) = true,∀ i,i < m → validS (gx g' 0 i) (gx g' 1 i) = true],bo (clrS n (gx g 0) (gx g 1) m (gx g' 0) (gx g' 1)))
 | _ => none
theorem con198:ConOK Tryz.prog 198 c198:=ConOK.go (G:=[(256,c256),(196,c196),(1000000 + 257,c257)]) (H:=[]) (.cons con256 (.cons con196 (.seq seq257 .nil))) Tryz.func198 fun l ob rr hc hob => by
 unfold c198 at hc
 split at hc
 ·rename_i n g m g'
  cases hc
  have hs:spots n g:=hob _ (by simp)
  have hs':spots m g':=hob _ (by simp)
  exact ⟨[.agg [.ro n 2 fun i => [i64 (gx g 0 i),i64 (gx g 1 i)]],.agg [.ro m 2 fun i => [i64 (gx g' 0 i),i64 (gx g' 1 i)]]],fun w I vs h => Rs_two (Rs_poly hs) (Rs_poly hs') h,by kernel_rfl,vc198 n m _ _ _ _ (fun i hi => (hs i hi).2) (fun i hi => (hs' i hi).2) (hob _ (by simp)) (hob _ (by simp)) (hob _ (by simp)) (hob _ (by simp))⟩
 ·cases hc
def ddS (x y r a b s:Int):Bool:=decide (IntKind.i64.wrap (IntKind.i64.wrap (r + s) * IntKind.i64.wrap (r + s)) < dtW (mnW x a) (mnW y b) (mnW x a) (mnW y b))
theorem Rs_if {w:World} {ρ:Env} {t:TypeId} {a a':AV} (h:∀ v,R w ρ a v → R w ρ a' v) (v:Value) (hR:R w ρ (.iface t a) v):R w ρ (.iface t a') v:=by
 cases hR with
 | iface hh => exact .iface (h _ hh)
def c90a:Con
 | [.iface 202 (.agg [.ro n 2 g]),.iface 197 (.agg [.v (.int .i64 x),.v (.int .i64 y),.v (.int .i64 r)])] => some ([spots n g,n ≤ 9223372036854775806,∀ i,i < n → validS (gx g 0 i) (gx g 1 i) = true,validS x y = true],bo (outS n (gx g 0) (gx g 1) x y r))
 | _ => none
theorem vc90a (n:Nat) (X Y:Nat → Int) (x y r:Int) (hX:∀ i,i < n → inR (X i) ∧ inR (Y i)) (hn:n ≤ 9223372036854775806) (vX:∀ i,i < n → validS (X i) (Y i) = true) (vC:validS x y = true) :
  fnVC Tryz.prog [(196,c196),(1000000 + 257,c257),(195,c195),(197,c197)] [(8,⟨[(15,.slot 4)],[]⟩)] Tryz.f133 [.iface 202 (.agg [.ro n 2 fun i => [i64 (X i),i64 (Y i)]]),.iface 197 (.agg [i64 x,i64 y,i64 r])] (· = bo (outS n X Y x y r)):=by
 refine fnVC_go (rs:=[.cell 4 4]) rfl rfl ?_
 simp only [go_sem,c196,c195]
 simp only [false_imp_iff,true_imp_iff,reduceCtorEq,true_and,and_true,Bool.false_eq_true]
 have hg:spots n fun i => [i64 (X i),i64 (Y i)]:=fun i hi => ⟨rfl,hX i hi⟩
 intro z hz
 refine ⟨hg,hn,vX,vC,fun h => ?_,fun h => ?_⟩
 ·refine (decide_eq_false fun hq => ?_).symm
  have hz:z = inS n X Y x y:=hz
  rw [← hz,h] at hq
  exact absurd hq.1 (by simp)
 refine rangeC_go (fun (i:Nat) => i ≤ n ∧ ∀ j,j < i → farS (X j) (Y j) (X (nxt n j)) (Y (nxt n j)) x y r = true) (fun i => i) (fun _ => []) [14,8,0] [63,64,11,12,65,66,67,68,69,70,71,72] 0 0 (N:=n) (sq:=edgeE n fun i => [i64 (X i),i64 (Y i)]) (ob:=[spots n fun i => [i64 (X i),i64 (Y i)],n ≤ 9223372036854775806]) rfl (by simp [hg,hn]) (by kernel_rfl) rfl (fun i _ => ⟨rfl,rfl⟩) ⟨Nat.zero_le _,fun j hj => by omega⟩ rfl ⟨[],?_,?_,?_⟩ ?_ ?_
 ·simp only [go_sem]
 ·simp only [go_sem]
 ·simp [goodNames,asg]
 ·intro i hi hlt
  simp only [go_sem,edgeE,c197]
  refine fun z1 hz1 => ⟨fun h2 => ?_,fun h2 => ⟨i + 1,⟨by have:i < n:=hlt; omega,fun j hj => ?_⟩,rfl,[],?_⟩⟩
  ·refine (decide_eq_false fun hq => ?_).symm
   have:=hq.2 i hlt
   rw [← hz1,h2] at this; cases this
  ·by_cases e:j = i
   ·subst e; rw [← hz1]; exact h2
   ·exact hi.2 j (by omega)
  ·simp [goodNames]
 ·intro i hi he
  simp only [go_sem]
  have hz:z = inS n X Y x y:=hz
  exact (decide_eq_true ⟨by rw [← hz,h],fun j hj => hi.2 j (by omega)⟩).symm
theorem con90a:ConOK Tryz.prog 133 c90a:=ConOK.go (G:=[(196,c196),(1000000 + 257,c257),(195,c195),(197,c197)]) (H:=[(8,⟨[(15,.slot 4)],[]⟩)]) (.cons con196 (.seq seq257 (.cons con195 (.cons con197 .nil)))) Tryz.func133 fun l ob rr hc hob => by
 unfold c90a at hc
 split at hc
 ·rename_i n g x y r
  cases hc
  have hs:spots n g:=hob _ (by simp)
  refine ⟨[.iface 202 (.agg [.ro n 2 fun i => [i64 (gx g 0 i),i64 (gx g 1 i)]]),.iface 197 (.agg [i64 x,i64 y,i64 r])],fun w I vs h => Rs_two (Rs_if (Rs_poly hs)) (fun v h => h) h,by kernel_rfl,vc90a n _ _ x y r (fun i hi => (hs i hi).2) (hob _ (by simp)) (hob _ (by simp)) (hob _ (by simp))⟩
 ·cases hc
theorem vc90d (x y r a b s:Int) :
  fnVC Tryz.prog [(193,c193),(194,c194)] [(8,⟨[(15,.slot 4)],[]⟩)] Tryz.f133 [.iface 197 (.agg [i64 x,i64 y,i64 r]),.iface 197 (.agg [i64 a,i64 b,i64 s])] (· = bo (ddS x y r a b s)):=by
 refine fnVC_go (rs:=[.cell 4 4]) rfl rfl ?_
 simp only [go_sem,c193,c194]
 simp only [false_imp_iff,true_imp_iff,reduceCtorEq,true_and,and_true,Bool.false_eq_true]
 simp only [forall_eq]
 rfl
theorem vc90e (n:Nat) (g:Nat → List AV) (x y r:Int) (hg:spots n g) (hn:n ≤ 9223372036854775806) (vX:∀ i,i < n → validS (gx g 0 i) (gx g 1 i) = true) (vC:validS x y = true) :
  fnVC Tryz.prog [(133,c90a)] [(8,⟨[(15,.slot 4)],[]⟩)] Tryz.f133 [.iface 197 (.agg [i64 x,i64 y,i64 r]),.iface 202 (.agg [.ro n 2 g])] (· = bo (outS n (gx g 0) (gx g 1) x y r)):=by
 refine fnVC_go (rs:=[.cell 4 4]) rfl rfl ?_
 simp only [go_sem,c90a]
 simp only [false_imp_iff,true_imp_iff,reduceCtorEq,true_and,and_true,Bool.false_eq_true]
 exact fun z hz => ⟨hg,hn,vX,vC,hz⟩
theorem vc90f (n:Nat) (g:Nat → List AV) (m:Nat) (g':Nat → List AV) (hg:spots n g) (hn:n ≤ 9223372036854775806) (vX:∀ i,i < n → validS (gx g 0 i) (gx g 1 i) = true) (hg':spots m g') (hm:m ≤ 9223372036854775806) (vZ:∀ i,i < m → validS (gx g' 0 i) (gx g' 1 i) = true) :
  fnVC Tryz.prog [(198,c198)] [(8,⟨[(15,.slot 4)],[]⟩)] Tryz.f133 [.iface 202 (.agg [.ro n 2 g]),.iface 202 (.agg [.ro m 2 g'])] (· = bo (clrS n (gx g 0) (gx g 1) m (gx g' 0) (gx g' 1) || clrS m (gx g' 0) (gx g' 1) n (gx g 0) (gx g 1))):=by
 refine fnVC_go (rs:=[.cell 4 4]) rfl rfl ?_
 simp only [go_sem,c198]
 simp only [false_imp_iff,true_imp_iff,reduceCtorEq,true_and,and_true,Bool.false_eq_true]
 exact fun z hz => ⟨hg,hg',hn,hm,vX,vZ,fun z1 hz1 => ⟨fun _ => hg',fun _ => hg,fun _ => hm,fun _ => hn,fun _ => vZ,fun _ => vX,by rw [hz,hz1]⟩⟩
def c90d:Con
 | [.iface 197 (.agg [.v (.int .i64 x),.v (.int .i64 y),.v (.int .i64 r)]),.iface 197 (.agg [.v (.int .i64 a),.v (.int .i64 b),.v (.int .i64 s)])] => some ([],bo (ddS x y r a b s))
 | _ => none
theorem con90d:ConOK Tryz.prog 133 c90d:=ConOK.go (G:=[(193,c193),(194,c194)]) (H:=[(8,⟨[(15,.slot 4)],[]⟩)]) (.cons con193 (.cons con194 .nil)) Tryz.func133 fun l ob rr hc hob => by
 unfold c90d at hc
 split at hc
 ·rename_i x y r a b s
  cases hc
  exact ⟨_,fun w I vs h => h,by kernel_rfl,vc90d x y r a b s⟩
 ·cases hc
def c90e:Con
 | [.iface 197 (.agg [.v (.int .i64 x),.v (.int .i64 y),.v (.int .i64 r)]),.iface 202 (.agg [.ro n 2 g])] => some ([spots n g,n ≤ 9223372036854775806,∀ i,i < n → validS (gx g 0 i) (gx g 1 i) = true,validS x y = true],bo (outS n (gx g 0) (gx g 1) x y r))
 | _ => none
theorem con90e:ConOK Tryz.prog 133 c90e:=ConOK.go (G:=[(133,c90a)]) (H:=[(8,⟨[(15,.slot 4)],[]⟩)]) (.cons con90a .nil) Tryz.func133 fun l ob rr hc hob => by
 unfold c90e at hc
 split at hc
 ·rename_i x y r n g
  cases hc
  exact ⟨_,fun w I vs h => h,by kernel_rfl,vc90e n g x y r (hob _ (by simp)) (hob _ (by simp)) (hob _ (by simp)) (hob _ (by simp))⟩
 ·cases hc
def c90f:Con
 | [.iface 202 (.agg [.ro n 2 g]),.iface 202 (.agg [.ro m 2 g'])] => some ([spots n g,n ≤ 9223372036854775806,∀ i,i < n → validS (gx g 0 i) (gx g 1 i) = true,spots m g',m ≤ 9223372036854775806,∀ i,i < m → validS (gx g' 0 i) (gx g' 1 i) = true],bo (clrS n (gx g 0) (gx g 1) m (gx g' 0) (gx g' 1) || clrS m (gx g' 0) (gx g' 1) n (gx g 0) (gx g 1)))
 | _ => none
theorem con90f:ConOK Tryz.prog 133 c90f:=ConOK.go (G:=[(198,c198)]) (H:=[(8,⟨[(15,.slot 4)],[]⟩)]) (.cons con198 .nil) Tryz.func133 fun l ob rr hc hob => by
 unfold c90f at hc
 split at hc
 ·rename_i n g m g'
  cases hc
  exact ⟨_,fun w I vs h => h,by kernel_rfl,vc90f n g m g' (hob _ (by simp)) (hob _ (by simp)) (hob _ (by simp)) (hob _ (by simp)) (hob _ (by simp)) (hob _ (by simp))⟩
 ·cases hc
def c133 (l:List AV):Option (List Prop × AV):=match l with
 | [.iface 202 _,.iface 197 _] => c90a l
 | [.iface 197 _,.iface 202 _] => c90e l
 | [.iface 197 _,.iface 197 _] => c90d l
 | [.iface 202 _,.iface 202 _] => c90f l
 | [.iface 197 _,.v .nilIface] => some ([False],bo false)
 | [.iface 202 _,.v .nilIface] => some ([False],bo false)
 | [.v .nilIface,.iface 197 _] => some ([False],bo false)
 | [.v .nilIface,.iface 202 _] => some ([False],bo false)
 | [.v .nilIface,.v .nilIface] => some ([False],bo false)
 | _ => none
theorem con133:ConOK Tryz.prog 133 c133:=fun l ob rr hc hob => by
 unfold c133 at hc
 split at hc
 ·exact con90a _ _ _ hc hob
 ·exact con90e _ _ _ hc hob
 ·exact con90d _ _ _ hc hob
 ·exact con90f _ _ _ hc hob
 ·cases hc; exact (hob False (by simp)).elim
 ·cases hc; exact (hob False (by simp)).elim
 ·cases hc; exact (hob False (by simp)).elim
 ·cases hc; exact (hob False (by simp)).elim
 ·cases hc; exact (hob False (by simp)).elim
 ·cases hc
def apS (k x y r:Int) (n:Nat) (X Y:Nat → Int) (k' x' y' r':Int) (m:Nat) (Z T:Nat → Int):Bool:=
 if checkS k x y r n X Y = 0 ∧ checkS k' x' y' r' m Z T = 0 then
  (if k = 1 then (if k' = 1 then ddS x y r x' y' r' else outS m Z T x y r) else if k' = 1 then outS n X Y x' y' r' else (clrS n X Y m Z T || clrS m Z T n X Y))
 else false
def bothS (k x y r:Int) (n:Nat) (g:Nat → List AV) (k' x' y' r':Int) (m:Nat) (g':Nat → List AV):AV:=if checkS k x y r n (gx g 0) (gx g 1) = 0 then (if k = 1 then (if checkS k' x' y' r' m (gx g' 0) (gx g' 1) = 0 then (if k' = 1 then .tup [.iface 197 (.agg [i64 x,i64 y,i64 r]),.iface 197 (.agg [i64 x',i64 y',i64 r']),bo true] else .tup [.iface 197 (.agg [i64 x,i64 y,i64 r]),.iface 202 (.agg [.ro m 2 g']),bo true]) else .tup [.iface 197 (.agg [i64 x,i64 y,i64 r]),.v .nilIface,bo false]) else (if checkS k' x' y' r' m (gx g' 0) (gx g' 1) = 0 then (if k' = 1 then .tup [.iface 202 (.agg [.ro n 2 g]),.iface 197 (.agg [i64 x',i64 y',i64 r']),bo true] else .tup [.iface 202 (.agg [.ro n 2 g]),.iface 202 (.agg [.ro m 2 g']),bo true]) else .tup [.iface 202 (.agg [.ro n 2 g]),.v .nilIface,bo false])) else (if checkS k' x' y' r' m (gx g' 0) (gx g' 1) = 0 then (if k' = 1 then .tup [.v .nilIface,.iface 197 (.agg [i64 x',i64 y',i64 r']),bo false] else .tup [.v .nilIface,.iface 202 (.agg [.ro m 2 g']),bo false]) else .tup [.v .nilIface,.v .nilIface,bo false])
def c132:Con
 | [.agg [.v (.int .i64 k),.v (.int .i64 x),.v (.int .i64 y),.v (.int .i64 r),.ro n 2 g],.agg [.v (.int .i64 k'),.v (.int .i64 x'),.v (.int .i64 y'),.v (.int .i64 r'),.ro m 2 g']] => some ([spots n g,spots m g',n ≤ 9223372036854775806,m ≤ 9223372036854775806,inR x,inR y,inR r,inR x',inR y',inR r'],
   bothS k x y r n g k' x' y' r' m g')
 | _ => none
theorem vc132 (k x y r:Int) (n:Nat) (g:Nat → List AV) (k' x' y' r':Int) (m:Nat) (g':Nat → List AV) (hg:spots n g) (hg':spots m g') (hn:n ≤ 9223372036854775806) (hm:m ≤ 9223372036854775806) (h1:inR x) (h2:inR y) (h3:inR r) (h4:inR x') (h5:inR y') (h6:inR r') :
  fnVC Tryz.prog [(192,c192)] [] Tryz.f132 [formA k x y r n g,formA k' x' y' r' m g'] (· = bothS k x y r n g k' x' y' r' m g'):=by
 refine fnVC_go (rs:=[.tmp 4,.tmp 5,.tmp 6]) rfl rfl ?_
 simp only [go_sem,c192]
 exact ⟨fun hA => ⟨fun hk => ⟨hg,hn,h1,h2,h3,fun hB => ⟨fun hk' => ⟨hg',hm,h4,h5,h6,by unfold bothS; rw [if_pos hA,if_pos hk,if_pos hB,if_pos hk']⟩,fun hk' => ⟨hg',hm,h4,h5,h6,by unfold bothS; rw [if_pos hA,if_pos hk,if_pos hB,if_neg hk']⟩⟩,fun hB => ⟨hg',hm,h4,h5,h6,by unfold bothS; rw [if_pos hA,if_pos hk,if_neg hB]⟩⟩,fun hk => ⟨hg,hn,h1,h2,h3,fun hB => ⟨fun hk' => ⟨hg',hm,h4,h5,h6,by unfold bothS; rw [if_pos hA,if_neg hk,if_pos hB,if_pos hk']⟩,fun hk' => ⟨hg',hm,h4,h5,h6,by unfold bothS; rw [if_pos hA,if_neg hk,if_pos hB,if_neg hk']⟩⟩,fun hB => ⟨hg',hm,h4,h5,h6,by unfold bothS; rw [if_pos hA,if_neg hk,if_neg hB]⟩⟩⟩,fun hA => ⟨hg,hn,h1,h2,h3,fun hB => ⟨fun hk' => ⟨hg',hm,h4,h5,h6,by unfold bothS; rw [if_neg hA,if_pos hB,if_pos hk']⟩,fun hk' => ⟨hg',hm,h4,h5,h6,by unfold bothS; rw [if_neg hA,if_pos hB,if_neg hk']⟩⟩,fun hB => ⟨hg',hm,h4,h5,h6,by unfold bothS; rw [if_neg hA,if_neg hB]⟩⟩⟩
theorem con132:ConOK Tryz.prog 132 c132:=ConOK.go (G:=[(192,c192)]) (H:=[]) (.cons con192 .nil) Tryz.func132 fun l ob rr hc hob => by
 unfold c132 at hc
 split at hc
 ·rename_i k x y r n g k' x' y' r' m g'
  cases hc
  exact ⟨_,fun w I vs h => h,by kernel_rfl,vc132 k x y r n g k' x' y' r' m g' (hob _ (by simp)) (hob _ (by simp)) (hob _ (by simp)) (hob _ (by simp)) (hob _ (by simp)) (hob _ (by simp)) (hob _ (by simp)) (hob _ (by simp)) (hob _ (by simp)) (hob _ (by simp))⟩
 ·cases hc
def hgt (a b c d x y:Int):Nb:=vDot (vNorm a b c d) (vLoc (mnW a x) (mnW b y))
def mnN (h:Nat → Nb):Nat → Nb
 | 0 => h 0
 | n + 1 => nMn (mnN h n) (h (n + 1))
theorem hgt_rg {a b c d x y:Int}:rg (hgt a b c d x y).1:=nDot_rg
theorem mnN_step {h:Nat → Nb} {n:Nat} (h1:rg (mnN h n).1) (h2:rg (h (n + 1)).1):mnN h (n + 1) = (if (h (n + 1)).1 < (mnN h n).1 then (h (n + 1)).1 else (mnN h n).1,(mnN h n).2 || (h (n + 1)).2):=by
 show nMn (mnN h n) (h (n + 1)) = _
 unfold nMn
 rw [whV_of h1,whV_of h2,whF_of h1,whF_of h2]
theorem mnN_rg {h:Nat → Nb} (hr:∀ i,rg (h i).1):∀ n,rg (mnN h n).1
 | 0 => hr 0
 | n + 1 => by
  have h1:=mnN_rg hr n
  have h2:=hr (n + 1)
  rw [mnN_step h1 h2]
  dsimp only
  split
  ·exact h2
  ·exact h1
theorem mn_ex {h:Nat → Nb} (hr:∀ i,rg (h i).1):∀ k,exS 1 (h 0).1 (fun i => (h (i + 1)).1) k = (mnN h k).1
 | 0 => rfl
 | k + 1 => by
  rw [mnN_step (mnN_rg hr k) (hr (k + 1))]
  have ih:=mn_ex hr k
  unfold exS
  rw [ih]
  by_cases q:(h (k + 1)).1 < (mnN h k).1
  ·rw [if_pos (.inl ⟨rfl,q⟩)]; dsimp only; rw [if_pos q]
  ·rw [if_neg (by rintro (q1 | q1); exact q q1.2; exact absurd q1.1 (by omega))]; dsimp only; rw [if_neg q]
theorem mn_fl {h:Nat → Nb} (hr:∀ i,rg (h i).1):∀ k,anyB (fun i => (h i).2) (k + 1) = (mnN h k).2
 | 0 => by unfold anyB anyB; rw [Bool.false_or]; rfl
 | k + 1 => by
  rw [mnN_step (mnN_rg hr k) (hr (k + 1)),← mn_fl hr k]
  rfl
theorem vc159d (a b c d x y r:Int) (h1:inR r) (v1:validS a b = true) (v2:validS c d = true) :
  fnVC Tryz.prog [(111,k160),(201,k162),(203,k173),(209,k180)] [(5,⟨[(9,.slot 6)],[]⟩)] Tryz.f204 [.agg [i64 a,i64 b],.agg [i64 c,i64 d],.iface 197 (.agg [i64 x,i64 y,i64 r])] (· = nbA (nSub (hgt a b c d x y) (nRat r 256))):=by
 refine fnVC_go (rs:=[.cell 6 27]) rfl rfl ?_
 simp only [go_sem,k160,k162,k173,k180]
 simp only [false_imp_iff,true_imp_iff,reduceCtorEq,true_and,and_true,Bool.false_eq_true]
 exact ⟨v1,v2,h1,rfl⟩
theorem vc159p (a b c d:Int) (n:Nat) (X Y:Nat → Int) (hX:∀ i,i < n → inR (X i) ∧ inR (Y i)) (hn:n ≤ 1000) (v1:validS a b = true) (v2:validS c d = true) (h0:0 < n) :
  fnVC Tryz.prog [(203,k173),(209,k180),(168,c168)] [(5,⟨[(9,.slot 6)],[]⟩)] Tryz.f204 [.agg [i64 a,i64 b],.agg [i64 c,i64 d],.iface 202 (.agg [.ro n 2 fun i => [i64 (X i),i64 (Y i)]])] (· = nbA (mnN (fun j => hgt a b c d (X j) (Y j)) (n - 1))):=by
 refine fnVC_go (rs:=[.cell 6 27]) rfl rfl ?_
 simp only [go_sem,k160,k162,k173,k180]
 simp only [false_imp_iff,true_imp_iff,reduceCtorEq,true_and,and_true,Bool.false_eq_true]
 have hb:bytesT Tryz.prog 27 = 16:=by kernel_rfl
 rw [hb]
 refine ⟨v1,v2,by omega,by omega,by omega,?_⟩
 refine loopC_go (fun (i:Nat) => i ≤ n) (fun i => n - i) (fun i => [(39,i64 i)]) (fun i => [(20,famN n 2 27 (fun j => [i64 (uptN i (fun l => (hgt a b c d (X l) (Y l)).1) j),bo (decide (j < i) && (hgt a b c d (X j) (Y j)).2)]) none)]) [15,6,2,1,0] [40,41,42,43,12,11,44,45,46,47,48,49,50,51,39] 0 (by kernel_rfl) ?_ (Nat.zero_le _) ?_ ?_
 ·intro x _; simp [goodNames,asg]
 ·simp only [go_sem,uptN_zero,implies_true,true_and]
  intro i hi
  rw [decide_eq_false (by omega),Bool.false_and]
 intro i hi
 simp only [go_sem,k180,c168]
 refine ⟨fun hin => ⟨by omega,hin,by omega,hin,by omega,fun z hz => ⟨i + 1,by omega,by omega,by rw [hz,wrap_in (by unfold inR; omega)]; rfl,fun j hj => ?_⟩⟩,fun hin z hz z1 hz1 => ?_⟩
 ·by_cases e:j = i
  ·subst e
   rw [if_pos rfl]
   simp only [go_sem,uptN_self]
   exact ⟨rfl,by rw [decide_eq_true (by omega),Bool.true_and]; rfl⟩
  ·rw [if_neg e]
   have h1:∀ Z,uptN (i + 1) Z j = uptN i Z j:=fun Z => uptN_ne e
   have h2:decide (j < i + 1) = decide (j < i):=by rw [decide_eq_decide]; omega
   simp only [go_sem,h1,h2]
 ·have e:i = n:=by omega
  subst e
  have hr:∀ j,rg ((fun j => hgt a b c d (X j) (Y j)) j).1:=fun _ => hgt_rg
  have u:∀ j,j < i → uptN i (fun l => (hgt a b c d (X l) (Y l)).1) j = (hgt a b c d (X j) (Y j)).1:=fun j hj => uptN_lt hj
  refine ⟨fun j hj => ⟨rfl,?_⟩,hn,?_⟩
  ·show inR (uptN i (fun l => (hgt a b c d (X l) (Y l)).1) j)
   rw [u j hj]; exact rg_inR hgt_rg
  ·have e1:z = (mnN (fun j => hgt a b c d (X j) (Y j)) (i - 1)).1:=by
    rw [hz,← mn_ex hr (i - 1)]
    unfold moV msS
    rw [if_neg (by omega)]
    have w:∀ j,j < i → wvS (fun l => [AV.v (Value.int IntKind.i64 (uptN i (fun l => (hgt a b c d (X l) (Y l)).1) l)),AV.v (Value.bool (decide (l < i) && (hgt a b c d (X l) (Y l)).2))]) j = (hgt a b c d (X j) (Y j)).1:=fun j hj => by
     show whV (uptN i (fun l => (hgt a b c d (X l) (Y l)).1) j) = _
     rw [u j hj,whV_of hgt_rg]
    rw [w 0 (by omega)]
    exact exS_congr fun j hj => w (j + 1) (by omega)
   have e2:z1 = (mnN (fun j => hgt a b c d (X j) (Y j)) (i - 1)).2:=by
    rw [hz1,← mn_fl hr (i - 1)]
    unfold wfS
    rw [show i - 1 + 1 = i by omega]
    refine anyB_congr fun j hj => ?_
    show whF (uptN i (fun l => (hgt a b c d (X l) (Y l)).1) j) (decide (j < i) && (hgt a b c d (X j) (Y j)).2) = _
    rw [u j hj,whF_of hgt_rg,decide_eq_true hj,Bool.true_and]
   rw [e1,e2]; rfl
def k159d:Con
 | [.agg [.v (.int .i64 a),.v (.int .i64 b)],.agg [.v (.int .i64 c),.v (.int .i64 d)],.iface 197 (.agg [.v (.int .i64 x),.v (.int .i64 y),.v (.int .i64 r)])] => some ([inR r,validS a b = true,validS c d = true],nbA (nSub (hgt a b c d x y) (nRat r 256)))
 | _ => none
theorem kon159d:ConOK Tryz.prog 204 k159d:=ConOK.go (G:=[(111,k160),(201,k162),(203,k173),(209,k180)]) (H:=[(5,⟨[(9,.slot 6)],[]⟩)]) (.cons kon160 (.cons kon162 (.cons kon173 (.cons kon180 .nil)))) Tryz.func204 fun l ob rr hc hob => by
 unfold k159d at hc
 split at hc
 ·rename_i a b c d x y r
  cases hc
  exact ⟨_,fun w I vs h => h,by kernel_rfl,vc159d a b c d x y r (hob _ (by simp)) (hob _ (by simp)) (hob _ (by simp))⟩
 ·cases hc
def k159p:Con
 | [.agg [.v (.int .i64 a),.v (.int .i64 b)],.agg [.v (.int .i64 c),.v (.int .i64 d)],.iface 202 (.agg [.ro n 2 g])] => some ([spots n g,n ≤ 1000,validS a b = true,validS c d = true,0 < n],nbA (mnN (fun j => hgt a b c d (gx g 0 j) (gx g 1 j)) (n - 1)))
 | _ => none
theorem kon159p:ConOK Tryz.prog 204 k159p:=ConOK.go (G:=[(203,k173),(209,k180),(168,c168)]) (H:=[(5,⟨[(9,.slot 6)],[]⟩)]) (.cons kon173 (.cons kon180 (.cons con168 .nil))) Tryz.func204 fun l ob rr hc hob => by
 unfold k159p at hc
 split at hc
 ·rename_i a b c d n g
  cases hc
  have hs:spots n g:=hob _ (by simp)
  refine ⟨[.agg [i64 a,i64 b],.agg [i64 c,i64 d],.iface 202 (.agg [.ro n 2 fun i => [i64 (gx g 0 i),i64 (gx g 1 i)]])],fun w I vs h => ?_,by kernel_rfl,vc159p a b c d n _ _ (fun i hi => (hs i hi).2) (hob _ (by simp)) (hob _ (by simp)) (hob _ (by simp)) (hob _ (by simp))⟩
  obtain ⟨x1,xs,rfl,p1,p2⟩:=h.inv
  obtain ⟨x2,ys,rfl,p3,p4⟩:=p2.inv
  exact .cons p1 (.cons p3 (Rs_one (Rs_if (Rs_poly hs)) p4))
 ·cases hc
def k159 (l:List AV):Option (List Prop × AV):=match l with
 | [_,_,.iface 197 _] => k159d l
 | [_,_,.iface 202 _] => k159p l
 | _ => none
theorem kon159:ConOK Tryz.prog 204 k159:=fun l ob rr hc hob => by
 unfold k159 at hc
 split at hc
 ·exact kon159d _ _ _ hc hob
 ·exact kon159p _ _ _ hc hob
 ·cases hc
theorem aEq205 {a0 b0:Bool} {a1 b1:Int} {a2 b2:Int} {a3 b3:Int} {a4 b4:Bool}:aEq Tryz.prog 205 (.agg [bo a0,i64 a1,i64 a2,i64 a3,bo a4]) (.agg [bo b0,i64 b1,i64 b2,i64 b3,bo b4]) = some ((a0 == b0) && ((a1 == b1) && ((a2 == b2) && (((a3 == b3) && ((a4 == b4) && true)) && true)))):=by kernel_rfl
theorem eq205 {xo yo:Operand} {neg:Bool} {a0 b0:Bool} {a1 b1:Int} {a2 b2:Int} {a3 b3:Int} {a4 b4:Bool}:eqE Tryz.prog neg 205 xo yo (.agg [bo a0,i64 a1,i64 a2,i64 a3,bo a4]) (.agg [bo b0,i64 b1,i64 b2,i64 b3,bo b4]) = some ⟨[],.v (.bool (negV neg ((a0 == b0) && ((a1 == b1) && ((a2 == b2) && (((a3 == b3) && ((a4 == b4) && true)) && true)))))),.none⟩:=eqE_agg aEq205
attribute [go_sem] eq205
abbrev AxT:=Int × Int × Nb
def axF (o:Int) (G:Nat → Nb) (s:AxT):Nat → AxT
 | 0 => s
 | i + 1 => if (axF o G s i).2.1 < 0 ∨ 0 < cmpS (whV (G i).1) (whV (axF o G s i).2.2.1) then (o,(i:Int),G i) else axF o G s i
def ax0:AxT:=(0,-1,(0,false))
def axOK (s:AxT):Prop:=s = ax0 ∨ 0 ≤ s.2.1
def axC (q:Bool) (s:AxT):List AV:=[bo q,i64 s.1,i64 s.2.1,i64 s.2.2.1,bo s.2.2.2]
theorem axF_ok {o:Int} {G:Nat → Nb} {s:AxT} (h:axOK s):∀ n,axOK (axF o G s n)
 | 0 => h
 | n + 1 => by
  have ih:=axF_ok (o:=o) (G:=G) h n
  unfold axF
  split
  ·exact .inr (Int.natCast_nonneg n)
  ·exact ih
def axSt (n:Nat) (G:Nat → Nb) (m:Nat) (G':Nat → Nb):Nat → AxT
 | 0 => ax0
 | 1 => axF 0 G ax0 n
 | _ => axF 1 G' (axF 0 G ax0 n) m
def gP (n:Nat) (X Y:Nat → Int) (m:Nat) (Z T:Nat → Int) (j:Nat):Nb:=mnN (fun l => hgt (X j) (Y j) (X (nxt n j)) (Y (nxt n j)) (Z l) (T l)) (m - 1)
def gD (n:Nat) (X Y:Nat → Int) (x y r:Int) (j:Nat):Nb:=nSub (hgt (X j) (Y j) (X (nxt n j)) (Y (nxt n j)) x y) (nRat r 256)
theorem gD_rg {n:Nat} {X Y:Nat → Int} {x y r:Int} {j:Nat}:rg (gD n X Y x y r j).1:=nSub_rg
theorem axOK_not {s:AxT} (h:axOK s) (k:(false == false && (s.1 == 0 && (s.2.1 == -1 && (s.2.2.1 == 0 && s.2.2.2 == false)))) = false):¬ s.2.1 < 0:=by
 rcases h with h | h
 ·rw [h] at k; exact absurd k (by decide)
 ·omega
theorem axF_hit {o:Int} {G:Nat → Nb} {s:AxT} {j:Nat} (h:(axF o G s j).2.1 < 0 ∨ 0 < cmpS (whV (G j).1) (whV (axF o G s j).2.2.1)):axF o G s (j + 1) = (o,(j:Int),G j):=by
 conv => lhs; unfold axF
 rw [if_pos h]
theorem axF_not {o:Int} {G:Nat → Nb} {s:AxT} {j:Nat} (h:¬ ((axF o G s j).2.1 < 0 ∨ 0 < cmpS (whV (G j).1) (whV (axF o G s j).2.2.1))):axF o G s (j + 1) = axF o G s j:=by
 conv => lhs; unfold axF
 rw [if_neg h]
theorem vc94pp (n:Nat) (X Y:Nat → Int) (hX:∀ i,i < n → inR (X i) ∧ inR (Y i)) (hn:n ≤ 1000) (n0:0 < n) (vX:∀ i,i < n → validS (X i) (Y i) = true) (m:Nat) (Z T:Nat → Int) (hZ:∀ i,i < m → inR (Z i) ∧ inR (T i)) (hm:m ≤ 1000) (m0:0 < m) (vZ:∀ i,i < m → validS (Z i) (T i) = true) :
  fnVC Tryz.prog [(125,k63),(51,c51),(133,c133),(196,c196),(1000000 + 257,c257),(193,c193),(204,k159),(111,k160),(175,k161),(201,k162)] [(22,⟨[(15,.slot 6)],[]⟩)] Tryz.f137 [.iface 202 (.agg [.ro n 2 fun i => [i64 (X i),i64 (Y i)]]),.iface 202 (.agg [.ro m 2 fun i => [i64 (Z i),i64 (T i)]])] (· = .agg (axC (clrS n X Y m Z T || clrS m Z T n X Y) (axSt n (gP n X Y m Z T) m (gP m Z T n X Y) 2))):=by
 refine fnVC_go (rs:=[.cell 4 205]) rfl rfl ?_
 simp only [go_sem,c196]
 have hg:spots n fun i => [i64 (X i),i64 (Y i)]:=fun i hi => ⟨rfl,hX i hi⟩
 have hg':spots m fun i => [i64 (Z i),i64 (T i)]:=fun i hi => ⟨rfl,hZ i hi⟩
 generalize hS:axSt n (gP n X Y m Z T) m (gP m Z T n X Y) = S
 have s0:S 0 = (0,-1,(0,false)):=by rw [← hS]; rfl
 have s1:S 1 = axF 0 (gP n X Y m Z T) (S 0) n:=by rw [← hS]; rfl
 have s2:S 2 = axF 1 (gP m Z T n X Y) (S 1) m:=by rw [← hS]; rfl
 have k0:axOK (S 0):=.inl s0
 have k1:axOK (S 1):=by rw [s1]; exact axF_ok k0 _
 refine loopC_go (fun (i:Nat) => i ≤ 2) (fun i => 2 - i) (fun i => [(26,i64 i)]) (fun i => [(5,fam1 205 5 (axC false (S i)) none)]) [9,2,0] [27,28,29,30,7,8,32,33,31,34,35,9,10,36,37,38,39,40,41,42,43,11,12,44,45,46,47,13,14,48,49,50,51,15,52,53,54,55,56,57,58,59,60,61,62,63,64,65,66,67,68,26] 0 (by kernel_rfl) ?_ (Nat.zero_le _) ?_ ?_
 ·intro x _; simp [goodNames,asg]
 ·simp only [go_sem,s0,axC]
 intro i hi
 match i with
 | 0 =>
  simp only [go_sem,axC,c196]
  simp only [false_imp_iff,true_imp_iff,reduceCtorEq,true_and,and_true,Bool.false_eq_true]
  refine rangeC_go (fun (j:Nat) => j ≤ n) (fun j => j) (fun j => [(5,fam1 205 5 (axC false (axF 0 (gP n X Y m Z T) (S 0) j)) none),(37,fam1 3 1 [i64 j] none)]) [35,24,16,9,2,0] [46,47,13,14,48,49,50,51,15,52,53,54,55,56,57,58,59,60,61,62,63,64,65,66,67] 0 0 (N:=n) (sq:=edgeE n fun i => [i64 (X i),i64 (Y i)]) (ob:=[spots n fun i => [i64 (X i),i64 (Y i)],n ≤ 9223372036854775806]) rfl (owe2 hg (by omega)) (by kernel_rfl) rfl (fun i _ => ⟨rfl,rfl⟩) (Nat.zero_le _) rfl ⟨[],?_,?_,?_⟩ ?_ ?_
  ·simp only [go_sem,axF,axC]
  ·simp only [go_sem]
  ·simp [goodNames,asg]
  ·intro j hj hlt
   simp only [go_sem,edgeE,k159,k159d,k159p,c51,axC]
   refine ⟨hg',hm,vX j hlt,vX _ (nxt_lt hlt),m0,fun z hz => ⟨fun h z1 hz1 => ⟨j + 1,by have:j < n:=hlt; omega,rfl,[],?_⟩,fun h z1 hz1 => ⟨j + 1,by have:j < n:=hlt; omega,rfl,[],?_⟩⟩⟩
   ·have es:axF 0 (gP n X Y m Z T) (S 0) (j + 1) = (0,(j:Int),mnN (fun l => hgt (X j) (Y j) (X (nxt n j)) (Y (nxt n j)) (Z l) (T l)) (m - 1)):=axF_hit (h.imp (fun q => by have:=q.2.2.1; simp at this; omega) (fun q => by rw [hz] at q; exact q))
    rw [wrap_in (by have:j < n:=hlt; unfold inR; omega)] at hz1
    simp only [go_sem,es,hz1]
    simp [goodNames,asg]
   ·have es:axF 0 (gP n X Y m Z T) (S 0) (j + 1) = axF 0 (gP n X Y m Z T) (S 0) j:=axF_not (by
     rintro (q | q)
     ·exact axOK_not (axF_ok k0 _) h.1 q
     ·exact h.2 (by rw [hz]; exact q))
    rw [wrap_in (by have:j < n:=hlt; unfold inR; omega)] at hz1
    simp only [go_sem,es,hz1]
    simp [goodNames,asg]
  ·intro j hj he
   simp only [go_sem,axC]
   refine fun z hz => ⟨1,by omega,by omega,by rw [hz]; decide,?_⟩
   rw [s1,he]
   exact ⟨rfl,rfl,rfl,rfl⟩
 | 1 =>
  simp only [go_sem,axC,c196]
  simp only [false_imp_iff,true_imp_iff,reduceCtorEq,true_and,and_true,Bool.false_eq_true]
  refine rangeC_go (fun (j:Nat) => j ≤ m) (fun j => j) (fun j => [(5,fam1 205 5 (axC false (axF 1 (gP m Z T n X Y) (S 1) j)) none),(37,fam1 3 1 [i64 j] none)]) [35,24,16,9,2,0] [46,47,13,14,48,49,50,51,15,52,53,54,55,56,57,58,59,60,61,62,63,64,65,66,67] 0 0 (N:=m) (sq:=edgeE m fun i => [i64 (Z i),i64 (T i)]) (ob:=[spots m fun i => [i64 (Z i),i64 (T i)],m ≤ 9223372036854775806]) rfl (owe2 hg' (by omega)) (by kernel_rfl) rfl (fun i _ => ⟨rfl,rfl⟩) (Nat.zero_le _) rfl ⟨[],?_,?_,?_⟩ ?_ ?_
  ·simp only [go_sem,axF,axC]
  ·simp only [go_sem]
  ·simp [goodNames,asg]
  ·intro j hj hlt
   simp only [go_sem,edgeE,k159,k159d,k159p,c51,axC]
   refine ⟨hg,hn,vZ j hlt,vZ _ (nxt_lt hlt),n0,fun z hz => ⟨fun h z1 hz1 => ⟨j + 1,by have:j < m:=hlt; omega,rfl,[],?_⟩,fun h z1 hz1 => ⟨j + 1,by have:j < m:=hlt; omega,rfl,[],?_⟩⟩⟩
   ·have es:axF 1 (gP m Z T n X Y) (S 1) (j + 1) = (1,(j:Int),mnN (fun l => hgt (Z j) (T j) (Z (nxt m j)) (T (nxt m j)) (X l) (Y l)) (n - 1)):=axF_hit (h.imp (fun q => by have:=q.2.2.1; simp at this; omega) (fun q => by rw [hz] at q; exact q))
    rw [wrap_in (by have:j < m:=hlt; unfold inR; omega)] at hz1
    simp only [go_sem,es,hz1]
    simp [goodNames,asg]
   ·have es:axF 1 (gP m Z T n X Y) (S 1) (j + 1) = axF 1 (gP m Z T n X Y) (S 1) j:=axF_not (by
     rintro (q | q)
     ·exact axOK_not (axF_ok k1 _) h.1 q
     ·exact h.2 (by rw [hz]; exact q))
    rw [wrap_in (by have:j < m:=hlt; unfold inR; omega)] at hz1
    simp only [go_sem,es,hz1]
    simp [goodNames,asg]
  ·intro j hj he
   simp only [go_sem,axC]
   refine fun z hz => ⟨2,by omega,by omega,by rw [hz]; decide,?_⟩
   rw [s2,he]
   exact ⟨rfl,rfl,rfl,rfl⟩
 | 2 =>
  simp only [go_sem,axC,c133,c90f]
  simp only [false_imp_iff,true_imp_iff,reduceCtorEq,true_and,and_true,Bool.false_eq_true]
  exact fun z hz => ⟨hg,by omega,vX,hg',by omega,vZ,by rw [hz]; rfl⟩
 | q + 3 => omega
theorem vc94pd (n:Nat) (X Y:Nat → Int) (hX:∀ i,i < n → inR (X i) ∧ inR (Y i)) (hn:n ≤ 1000) (n0:0 < n) (vX:∀ i,i < n → validS (X i) (Y i) = true) (x' y' r':Int) (v2:validS x' y' = true) (h6:inR r') :
  fnVC Tryz.prog [(125,k63),(51,c51),(133,c133),(196,c196),(1000000 + 257,c257),(193,c193),(204,k159),(111,k160),(175,k161),(201,k162)] [(22,⟨[(15,.slot 6)],[]⟩)] Tryz.f137 [.iface 202 (.agg [.ro n 2 fun i => [i64 (X i),i64 (Y i)]]),.iface 197 (.agg [i64 x',i64 y',i64 r'])] (· = .agg (axC (outS n X Y x' y' r') (axSt n (gD n X Y x' y' r') 0 (gD n X Y x' y' r') 2))):=by
 refine fnVC_go (rs:=[.cell 4 205]) rfl rfl ?_
 simp only [go_sem,c196]
 have hg:spots n fun i => [i64 (X i),i64 (Y i)]:=fun i hi => ⟨rfl,hX i hi⟩
 generalize hS:axSt n (gD n X Y x' y' r') 0 (gD n X Y x' y' r') = S
 have s0:S 0 = (0,-1,(0,false)):=by rw [← hS]; rfl
 have s1:S 1 = axF 0 (gD n X Y x' y' r') (S 0) n:=by rw [← hS]; rfl
 have s2:S 2 = S 1:=by rw [← hS]; rfl
 have k0:axOK (S 0):=.inl s0
 have k1:axOK (S 1):=by rw [s1]; exact axF_ok k0 _
 refine loopC_go (fun (i:Nat) => i ≤ 2) (fun i => 2 - i) (fun i => [(26,i64 i)]) (fun i => [(5,fam1 205 5 (axC false (S i)) none)]) [9,2,0] [27,28,29,30,7,8,32,33,31,34,35,9,10,36,37,38,39,40,41,42,43,11,12,44,45,46,47,13,14,48,49,50,51,15,52,53,54,55,56,57,58,59,60,61,62,63,64,65,66,67,68,26] 0 (by kernel_rfl) ?_ (Nat.zero_le _) ?_ ?_
 ·intro x _; simp [goodNames,asg]
 ·simp only [go_sem,s0,axC]
 intro i hi
 match i with
 | 0 =>
  simp only [go_sem,axC,c196]
  simp only [false_imp_iff,true_imp_iff,reduceCtorEq,true_and,and_true,Bool.false_eq_true]
  refine rangeC_go (fun (j:Nat) => j ≤ n) (fun j => j) (fun j => [(5,fam1 205 5 (axC false (axF 0 (gD n X Y x' y' r') (S 0) j)) none),(37,fam1 3 1 [i64 j] none)]) [35,24,16,9,2,0] [46,47,13,14,48,49,50,51,15,52,53,54,55,56,57,58,59,60,61,62,63,64,65,66,67] 0 0 (N:=n) (sq:=edgeE n fun i => [i64 (X i),i64 (Y i)]) (ob:=[spots n fun i => [i64 (X i),i64 (Y i)],n ≤ 9223372036854775806]) rfl (owe2 hg (by omega)) (by kernel_rfl) rfl (fun i _ => ⟨rfl,rfl⟩) (Nat.zero_le _) rfl ⟨[],?_,?_,?_⟩ ?_ ?_
  ·simp only [go_sem,axF,axC]
  ·simp only [go_sem]
  ·simp [goodNames,asg]
  ·intro j hj hlt
   simp only [go_sem,edgeE,k159,k159d,k159p,c51,axC]
   refine ⟨h6,vX j hlt,vX _ (nxt_lt hlt),fun z hz => ⟨fun h z1 hz1 => ⟨j + 1,by have:j < n:=hlt; omega,rfl,[],?_⟩,fun h z1 hz1 => ⟨j + 1,by have:j < n:=hlt; omega,rfl,[],?_⟩⟩⟩
   ·have es:axF 0 (gD n X Y x' y' r') (S 0) (j + 1) = (0,(j:Int),nSub (hgt (X j) (Y j) (X (nxt n j)) (Y (nxt n j)) x' y') (nRat r' 256)):=axF_hit (h.imp (fun q => by have:=q.2.2.1; simp at this; omega) (fun q => by rw [hz] at q; exact q))
    rw [wrap_in (by have:j < n:=hlt; unfold inR; omega)] at hz1
    simp only [go_sem,es,hz1]
    simp [goodNames,asg]
   ·have es:axF 0 (gD n X Y x' y' r') (S 0) (j + 1) = axF 0 (gD n X Y x' y' r') (S 0) j:=axF_not (by
     rintro (q | q)
     ·exact axOK_not (axF_ok k0 _) h.1 q
     ·exact h.2 (by rw [hz]; exact q))
    rw [wrap_in (by have:j < n:=hlt; unfold inR; omega)] at hz1
    simp only [go_sem,es,hz1]
    simp [goodNames,asg]
  ·intro j hj he
   simp only [go_sem,axC]
   refine fun z hz => ⟨1,by omega,by omega,by rw [hz]; decide,?_⟩
   rw [s1,he]
   exact ⟨rfl,rfl,rfl,rfl⟩
 | 1 =>
  simp only [go_sem,axC,c196]
  simp only [false_imp_iff,true_imp_iff,reduceCtorEq,true_and,and_true,Bool.false_eq_true]
  refine fun z hz => ⟨2,by omega,by omega,by rw [hz]; decide,?_⟩
  rw [s2]
  exact ⟨rfl,rfl,rfl,rfl⟩
 | 2 =>
  simp only [go_sem,axC,c133,c90a]
  simp only [false_imp_iff,true_imp_iff,reduceCtorEq,true_and,and_true,Bool.false_eq_true]
  exact fun z hz => ⟨hg,by omega,vX,v2,by rw [hz]; rfl⟩
 | q + 3 => omega
theorem vc94dp (x y r:Int) (v1:validS x y = true) (h3:inR r) (m:Nat) (Z T:Nat → Int) (hZ:∀ i,i < m → inR (Z i) ∧ inR (T i)) (hm:m ≤ 1000) (m0:0 < m) (vZ:∀ i,i < m → validS (Z i) (T i) = true) :
  fnVC Tryz.prog [(125,k63),(51,c51),(133,c133),(196,c196),(1000000 + 257,c257),(193,c193),(204,k159),(111,k160),(175,k161),(201,k162)] [(22,⟨[(15,.slot 6)],[]⟩)] Tryz.f137 [.iface 197 (.agg [i64 x,i64 y,i64 r]),.iface 202 (.agg [.ro m 2 fun i => [i64 (Z i),i64 (T i)]])] (· = .agg (axC (outS m Z T x y r) (axSt 0 (gD m Z T x y r) m (gD m Z T x y r) 2))):=by
 refine fnVC_go (rs:=[.cell 4 205]) rfl rfl ?_
 simp only [go_sem,c196]
 have hg':spots m fun i => [i64 (Z i),i64 (T i)]:=fun i hi => ⟨rfl,hZ i hi⟩
 generalize hS:axSt 0 (gD m Z T x y r) m (gD m Z T x y r) = S
 have s0:S 0 = (0,-1,(0,false)):=by rw [← hS]; rfl
 have s1:S 1 = S 0:=by rw [← hS]; rfl
 have s2:S 2 = axF 1 (gD m Z T x y r) (S 1) m:=by rw [← hS]; rfl
 have k0:axOK (S 0):=.inl s0
 have k1:axOK (S 1):=by rw [s1]; exact k0
 refine loopC_go (fun (i:Nat) => i ≤ 2) (fun i => 2 - i) (fun i => [(26,i64 i)]) (fun i => [(5,fam1 205 5 (axC false (S i)) none)]) [9,2,0] [27,28,29,30,7,8,32,33,31,34,35,9,10,36,37,38,39,40,41,42,43,11,12,44,45,46,47,13,14,48,49,50,51,15,52,53,54,55,56,57,58,59,60,61,62,63,64,65,66,67,68,26] 0 (by kernel_rfl) ?_ (Nat.zero_le _) ?_ ?_
 ·intro x _; simp [goodNames,asg]
 ·simp only [go_sem,s0,axC]
 intro i hi
 match i with
 | 0 =>
  simp only [go_sem,axC,c196]
  simp only [false_imp_iff,true_imp_iff,reduceCtorEq,true_and,and_true,Bool.false_eq_true]
  refine fun z hz => ⟨1,by omega,by omega,by rw [hz]; decide,?_⟩
  rw [s1]
  exact ⟨rfl,rfl,rfl,rfl⟩
 | 1 =>
  simp only [go_sem,axC,c196]
  simp only [false_imp_iff,true_imp_iff,reduceCtorEq,true_and,and_true,Bool.false_eq_true]
  refine rangeC_go (fun (j:Nat) => j ≤ m) (fun j => j) (fun j => [(5,fam1 205 5 (axC false (axF 1 (gD m Z T x y r) (S 1) j)) none),(37,fam1 3 1 [i64 j] none)]) [35,24,16,9,2,0] [46,47,13,14,48,49,50,51,15,52,53,54,55,56,57,58,59,60,61,62,63,64,65,66,67] 0 0 (N:=m) (sq:=edgeE m fun i => [i64 (Z i),i64 (T i)]) (ob:=[spots m fun i => [i64 (Z i),i64 (T i)],m ≤ 9223372036854775806]) rfl (owe2 hg' (by omega)) (by kernel_rfl) rfl (fun i _ => ⟨rfl,rfl⟩) (Nat.zero_le _) rfl ⟨[],?_,?_,?_⟩ ?_ ?_
  ·simp only [go_sem,axF,axC]
  ·simp only [go_sem]
  ·simp [goodNames,asg]
  ·intro j hj hlt
   simp only [go_sem,edgeE,k159,k159d,k159p,c51,axC]
   refine ⟨h3,vZ j hlt,vZ _ (nxt_lt hlt),fun z hz => ⟨fun h z1 hz1 => ⟨j + 1,by have:j < m:=hlt; omega,rfl,[],?_⟩,fun h z1 hz1 => ⟨j + 1,by have:j < m:=hlt; omega,rfl,[],?_⟩⟩⟩
   ·have es:axF 1 (gD m Z T x y r) (S 1) (j + 1) = (1,(j:Int),nSub (hgt (Z j) (T j) (Z (nxt m j)) (T (nxt m j)) x y) (nRat r 256)):=axF_hit (h.imp (fun q => by have:=q.2.2.1; simp at this; omega) (fun q => by rw [hz] at q; exact q))
    rw [wrap_in (by have:j < m:=hlt; unfold inR; omega)] at hz1
    simp only [go_sem,es,hz1]
    simp [goodNames,asg]
   ·have es:axF 1 (gD m Z T x y r) (S 1) (j + 1) = axF 1 (gD m Z T x y r) (S 1) j:=axF_not (by
     rintro (q | q)
     ·exact axOK_not (axF_ok k1 _) h.1 q
     ·exact h.2 (by rw [hz]; exact q))
    rw [wrap_in (by have:j < m:=hlt; unfold inR; omega)] at hz1
    simp only [go_sem,es,hz1]
    simp [goodNames,asg]
  ·intro j hj he
   simp only [go_sem,axC]
   refine fun z hz => ⟨2,by omega,by omega,by rw [hz]; decide,?_⟩
   rw [s2,he]
   exact ⟨rfl,rfl,rfl,rfl⟩
 | 2 =>
  simp only [go_sem,axC,c133,c90e]
  simp only [false_imp_iff,true_imp_iff,reduceCtorEq,true_and,and_true,Bool.false_eq_true]
  exact fun z hz => ⟨hg',by omega,vZ,v1,by rw [hz]; rfl⟩
 | q + 3 => omega
theorem vc94dd (x y r x' y' r':Int) :
  fnVC Tryz.prog [(125,k63),(51,c51),(133,c133),(196,c196),(1000000 + 257,c257),(193,c193),(204,k159),(111,k160),(175,k161),(201,k162)] [(22,⟨[(15,.slot 6)],[]⟩)] Tryz.f137 [.iface 197 (.agg [i64 x,i64 y,i64 r]),.iface 197 (.agg [i64 x',i64 y',i64 r'])] (· = .agg (axC (ddS x y r x' y' r') (0,-1,nSub (vLen (vLoc (mnW x x') (mnW y y'))) (nRat (IntKind.i64.wrap (r + r')) 256)))):=by
 refine fnVC_go (rs:=[.cell 4 205]) rfl rfl ?_
 simp only [go_sem,c196]
 refine loopC_go (fun (i:Nat) => i ≤ 2) (fun i => 2 - i) (fun i => [(26,i64 i)]) (fun i => [(5,fam1 205 5 (axC false ax0) none)]) [9,2,0] [27,28,29,30,7,8,32,33,31,34,35,9,10,36,37,38,39,40,41,42,43,11,12,44,45,46,47,13,14,48,49,50,51,15,52,53,54,55,56,57,58,59,60,61,62,63,64,65,66,67,68,26] 0 (by kernel_rfl) ?_ (Nat.zero_le _) ?_ ?_
 ·intro x _; simp [goodNames,asg]
 ·simp only [go_sem,ax0,axC]
 intro i hi
 match i with
 | 0 =>
  simp only [go_sem,axC,c196]
  simp only [false_imp_iff,true_imp_iff,reduceCtorEq,true_and,and_true,Bool.false_eq_true]
  exact fun z hz => ⟨1,by omega,by omega,by rw [hz]; decide⟩
 | 1 =>
  simp only [go_sem,axC,c196]
  simp only [false_imp_iff,true_imp_iff,reduceCtorEq,true_and,and_true,Bool.false_eq_true]
  exact fun z hz => ⟨2,by omega,by omega,by rw [hz]; decide⟩
 | 2 =>
  simp only [go_sem,axC,c133,c90d,c193,k63,k161,k162,k160,ax0]
  simp only [false_imp_iff,true_imp_iff,reduceCtorEq,true_and,and_true,Bool.false_eq_true]
  exact fun z hz z1 hz1 => ⟨by rw [hz]; exact wrap_inR _,by rw [hz1]; exact wrap_inR _,fun z2 hz2 => ⟨by rw [hz2]; exact wrap_inR _,fun z3 hz3 => by rw [hz,hz1,hz2,hz3]; rfl⟩⟩
 | q + 3 => omega
def axA (q:Bool) (s:AxT):AV:=.agg (axC q s)
theorem bnd_ax {q:Bool} {s:AxT}:bnd (axA q s) = .agg [bo q,i64 s.1,i64 s.2.1,i64 s.2.2.1,bo s.2.2.2]:=(rfl)
theorem plain_ax {q:Bool} {s:AxT}:plain 3 (axA q s) = true:=(rfl)
attribute [go_sem] bnd_ax plain_ax
def k94p:Con
 | [.iface 202 (.agg [.ro n 2 g]),.iface 202 (.agg [.ro m 2 g'])] => some ([spots n g,n ≤ 1000,0 < n,∀ i,i < n → validS (gx g 0 i) (gx g 1 i) = true,spots m g',m ≤ 1000,0 < m,∀ i,i < m → validS (gx g' 0 i) (gx g' 1 i) = true],axA (clrS n (gx g 0) (gx g 1) m (gx g' 0) (gx g' 1) || clrS m (gx g' 0) (gx g' 1) n (gx g 0) (gx g 1)) (axSt n (gP n (gx g 0) (gx g 1) m (gx g' 0) (gx g' 1)) m (gP m (gx g' 0) (gx g' 1) n (gx g 0) (gx g 1)) 2))
 | _ => none
theorem ctx94:CtxOK Tryz.prog [(125,k63),(51,c51),(133,c133),(196,c196),(1000000 + 257,c257),(193,c193),(204,k159),(111,k160),(175,k161),(201,k162)]:=.cons kon63 (.cons con51 (.cons con133 (.cons con196 (.seq seq257 (.cons con193 (.cons kon159 (.cons kon160 (.cons kon161 (.cons kon162 .nil)))))))))
theorem kon94p:ConOK Tryz.prog 137 k94p:=ConOK.go (H:=[(22,⟨[(15,.slot 6)],[]⟩)]) ctx94 Tryz.func137 fun l ob rr hc hob => by
 unfold k94p at hc
 split at hc
 ·rename_i n g m g'
  cases hc
  have hs:spots n g:=hob _ (by simp)
  have hs':spots m g':=hob _ (by simp)
  exact ⟨[.iface 202 (.agg [.ro n 2 fun i => [i64 (gx g 0 i),i64 (gx g 1 i)]]),.iface 202 (.agg [.ro m 2 fun i => [i64 (gx g' 0 i),i64 (gx g' 1 i)]])],fun w I vs h => Rs_two (Rs_if (Rs_poly hs)) (Rs_if (Rs_poly hs')) h,by kernel_rfl,vc94pp n _ _ (fun i hi => (hs i hi).2) (hob _ (by simp)) (hob _ (by simp)) (hob _ (by simp)) m _ _ (fun i hi => (hs' i hi).2) (hob _ (by simp)) (hob _ (by simp)) (hob _ (by simp))⟩
 ·cases hc
def k94q:Con
 | [.iface 202 (.agg [.ro n 2 g]),.iface 197 (.agg [.v (.int .i64 x),.v (.int .i64 y),.v (.int .i64 r)])] => some ([spots n g,n ≤ 1000,0 < n,∀ i,i < n → validS (gx g 0 i) (gx g 1 i) = true,validS x y = true,inR r],axA (outS n (gx g 0) (gx g 1) x y r) (axSt n (gD n (gx g 0) (gx g 1) x y r) 0 (gD n (gx g 0) (gx g 1) x y r) 2))
 | _ => none
theorem kon94q:ConOK Tryz.prog 137 k94q:=ConOK.go (H:=[(22,⟨[(15,.slot 6)],[]⟩)]) ctx94 Tryz.func137 fun l ob rr hc hob => by
 unfold k94q at hc
 split at hc
 ·rename_i n g x y r
  cases hc
  have hs:spots n g:=hob _ (by simp)
  exact ⟨[.iface 202 (.agg [.ro n 2 fun i => [i64 (gx g 0 i),i64 (gx g 1 i)]]),.iface 197 (.agg [i64 x,i64 y,i64 r])],fun w I vs h => Rs_two (Rs_if (Rs_poly hs)) (fun v h => h) h,by kernel_rfl,vc94pd n _ _ (fun i hi => (hs i hi).2) (hob _ (by simp)) (hob _ (by simp)) (hob _ (by simp)) x y r (hob _ (by simp)) (hob _ (by simp))⟩
 ·cases hc
def k94r:Con
 | [.iface 197 (.agg [.v (.int .i64 x),.v (.int .i64 y),.v (.int .i64 r)]),.iface 202 (.agg [.ro n 2 g])] => some ([spots n g,n ≤ 1000,0 < n,∀ i,i < n → validS (gx g 0 i) (gx g 1 i) = true,validS x y = true,inR r],axA (outS n (gx g 0) (gx g 1) x y r) (axSt 0 (gD n (gx g 0) (gx g 1) x y r) n (gD n (gx g 0) (gx g 1) x y r) 2))
 | _ => none
theorem kon94r:ConOK Tryz.prog 137 k94r:=ConOK.go (H:=[(22,⟨[(15,.slot 6)],[]⟩)]) ctx94 Tryz.func137 fun l ob rr hc hob => by
 unfold k94r at hc
 split at hc
 ·rename_i x y r n g
  cases hc
  have hs:spots n g:=hob _ (by simp)
  exact ⟨[.iface 197 (.agg [i64 x,i64 y,i64 r]),.iface 202 (.agg [.ro n 2 fun i => [i64 (gx g 0 i),i64 (gx g 1 i)]])],fun w I vs h => Rs_two (fun v h => h) (Rs_if (Rs_poly hs)) h,by kernel_rfl,vc94dp x y r (hob _ (by simp)) (hob _ (by simp)) n _ _ (fun i hi => (hs i hi).2) (hob _ (by simp)) (hob _ (by simp)) (hob _ (by simp))⟩
 ·cases hc
def k94d:Con
 | [.iface 197 (.agg [.v (.int .i64 x),.v (.int .i64 y),.v (.int .i64 r)]),.iface 197 (.agg [.v (.int .i64 a),.v (.int .i64 b),.v (.int .i64 s)])] => some ([],axA (ddS x y r a b s) (0,-1,nSub (vLen (vLoc (mnW x a) (mnW y b))) (nRat (IntKind.i64.wrap (r + s)) 256)))
 | _ => none
theorem kon94d:ConOK Tryz.prog 137 k94d:=ConOK.go (H:=[(22,⟨[(15,.slot 6)],[]⟩)]) ctx94 Tryz.func137 fun l ob rr hc hob => by
 unfold k94d at hc
 split at hc
 ·rename_i x y r a b s
  cases hc
  exact ⟨_,fun w I vs h => h,by kernel_rfl,vc94dd x y r a b s⟩
 ·cases hc
def k94 (l:List AV):Option (List Prop × AV):=match l with
 | [.iface 202 _,.iface 197 _] => k94q l
 | [.iface 197 _,.iface 202 _] => k94r l
 | [.iface 197 _,.iface 197 _] => k94d l
 | [.iface 202 _,.iface 202 _] => k94p l
 | [.iface 197 _,.v .nilIface] => some ([False],axA false ax0)
 | [.iface 202 _,.v .nilIface] => some ([False],axA false ax0)
 | [.v .nilIface,.iface 197 _] => some ([False],axA false ax0)
 | [.v .nilIface,.iface 202 _] => some ([False],axA false ax0)
 | [.v .nilIface,.v .nilIface] => some ([False],axA false ax0)
 | _ => none
theorem kon94:ConOK Tryz.prog 137 k94:=fun l ob rr hc hob => by
 unfold k94 at hc
 split at hc
 ·exact kon94q _ _ _ hc hob
 ·exact kon94r _ _ _ hc hob
 ·exact kon94d _ _ _ hc hob
 ·exact kon94p _ _ _ hc hob
 ·cases hc; exact (hob False (by simp)).elim
 ·cases hc; exact (hob False (by simp)).elim
 ·cases hc; exact (hob False (by simp)).elim
 ·cases hc; exact (hob False (by simp)).elim
 ·cases hc; exact (hob False (by simp)).elim
 ·cases hc
def axS (k x y r:Int) (n:Nat) (X Y:Nat → Int) (k' x' y' r':Int) (m:Nat) (Z T:Nat → Int):AxT:=
 if checkS k x y r n X Y = 0 ∧ checkS k' x' y' r' m Z T = 0 then
  (if k = 1 then (if k' = 1 then (0,-1,nSub (vLen (vLoc (mnW x x') (mnW y y'))) (nRat (IntKind.i64.wrap (r + r')) 256)) else axSt 0 (gD m Z T x y r) m (gD m Z T x y r) 2)
   else if k' = 1 then axSt n (gD n X Y x' y' r') 0 (gD n X Y x' y' r') 2 else axSt n (gP n X Y m Z T) m (gP m Z T n X Y) 2)
 else (0,0,(0,false))
theorem fig_n {k x y r:Int} {n:Nat} {X Y:Nat → Int} (h:checkS k x y r n X Y = 0) (hk:¬ k = 1):3 ≤ n ∧ n ≤ 8:=by
 have:=(check_1 h).2.2.2.2 hk
 exact ⟨(convexS_iff.1 this.2.2).1,this.2.1⟩
end Go.Ax
end
section
set_option maxHeartbeats 4000000
set_option maxRecDepth 100000
namespace Go.Ax
open Go.Proofs
end Go.Ax
end
section
set_option maxHeartbeats 4000000
set_option maxRecDepth 100000
namespace Go.Ax
open Go.Proofs
def mTwo:MCon:=mc2P 27 92 96
theorem con107m:MConOK Tryz.prog 107 mTwo:=MConOK.mc2P (G:=[]) (H:=[]) .nil Tryz.func107 fun N get hN a b => by
 refine ⟨by kernel_rfl,bodyM_go (rs:=[.tmp 6,.tmp 7,.tmp 8]) rfl rfl ?_⟩
 simp only [go_sem]
 intro z hz z1 hz1
 refine ⟨fun h => (if_neg fun hc => ?_).symm,fun h => ?_⟩
 ·rcases h with h | h
  ·omega
  ·have:a = b:=by simpa using h
   exact hc.2.2.2.2 this
 ·have hne:a ≠ b:=by simpa using h.2
  have hc:0 ≤ a ∧ a < N ∧ 0 ≤ b ∧ b < N ∧ a ≠ b:=⟨by omega,by omega,by omega,by omega,hne⟩
  refine ⟨hc.1,hc.2.1,by omega,hc.2.2.1,hc.2.2.2.1,by omega,(if_pos hc).symm⟩
def sliK (a b:Bd) (x n:V2):Nb:=nAdd (hftS a x n) (hftS b x n)
def sliS (a b:Bd) (x n:V2):Nb:=nDiv (nNeg (vDot (vSub (spdS b x) (spdS a x)) n)) (sliK a b x n)
def kSli:Con
 | [.rop l,.rop l',.agg [.v (.int .i64 x),.v (.bool e),.v (.int .i64 y),.v (.bool f)],.agg [.v (.int .i64 z),.v (.bool g),.v (.int .i64 u),.v (.bool h)]] => some ([l = bodyC (bodyD l),l' = bodyC (bodyD l'),inB (bodyD l),inB (bodyD l'),inR x,inR y,inR z,inR u],
  .tup [.agg [i64 (sliS (bodyD l) (bodyD l') ((x,e),(y,f)) ((z,g),(u,h))).1,bo (sliS (bodyD l) (bodyD l') ((x,e),(y,f)) ((z,g),(u,h))).2],bo (!((sliK (bodyD l) (bodyD l') ((x,e),(y,f)) ((z,g),(u,h))).1 == 0))])
 | _ => none
theorem con109:ConOK Tryz.prog 109 kSli:=ConOK.of (G:=[(173,kb173),(88,kw153),(169,kb169),(114,k172),(174,k178),(112,k179),(78,k168)]) (H:=[(1,⟨[(10,.made 9)],[]⟩),(2,⟨[(8,.made 7)],[]⟩),(3,⟨[(9,.slot 8)],[(7,[.slot 8])]⟩)]) (.cons konb173 (.cons konw153 (.cons konb169 (.cons kon172 (.cons kon178 (.cons kon179 (.cons kon168 .nil))))))) Tryz.func109 fun l ob r hc hob => by
 unfold kSli at hc
 split at hc
 ·rename_i l l' x e y f z g u h
  cases hc
  have h1:l = bodyC (bodyD l):=hob _ (by simp)
  have h2:l' = bodyC (bodyD l'):=hob _ (by simp)
  have ha:inB (bodyD l):=hob _ (by simp)
  have hb:inB (bodyD l'):=hob _ (by simp)
  have k1:inR x:=hob _ (by simp)
  have k2:inR y:=hob _ (by simp)
  have k3:inR z:=hob _ (by simp)
  have k4:inR u:=hob _ (by simp)
  clear hob
  generalize bodyD l = a at *
  generalize bodyD l' = b at *
  subst h1 h2
  refine ⟨by kernel_rfl,fnVC_go (rs:=[.cell 8 27,.tmp 9]) rfl rfl ?_⟩
  simp only [go_sem,kb173,kw153,kb169,k172,k178,k179,k168,cBR_eq,ha,hb,k1,k2,k3,k4]
  rfl
 ·cases hc
def apaF:List AV → List AV → List AV → Option (List Prop × AV × List AV × List AV)
 | l,l',[.agg [.v (.int .i64 x),.v (.bool e),.v (.int .i64 y),.v (.bool f)],.agg [.v (.int .i64 x'),.v (.bool e'),.v (.int .i64 y'),.v (.bool f')],.agg [.v (.int .i64 z),.v (.bool g),.v (.int .i64 u),.v (.bool h)],.agg [.v (.int .i64 d),.v (.bool k)]] =>
  some ([l = bodyC (bodyD l),l' = bodyC (bodyD l'),inB (bodyD l),inB (bodyD l'),inR x,inR y,inR x',inR y',inR z,inR u,inR d],.tup [],bodyC (pshS (bodyD l) ((x,e),(y,f)) (vScale ((z,g),(u,h)) (nNeg (d,k)))),bodyC (pshS (bodyD l') ((x',e'),(y',f')) (vScale ((z,g),(u,h)) (d,k))))
 | _,_,_ => none
def mApa:MCon:=mcPP 27 apaF
theorem famE_comm {fam:Fam} {f f' i i':Nat} {c c':List AV} (h:f ≠ f'):famE (famE fam f' i' c') f i c = famE (famE fam f i c) f' i' c':=by
 funext q
 unfold famE
 by_cases h1:q = f
 ·subst h1; simp [h]
 ·by_cases h2:q = f'
  ·subst h2; simp [h1,Ne.symm h]
  ·simp [h1,h2]
theorem con110m:MConOK Tryz.prog 110 mApa:=MConOK.mcPP (G:=[(112,k179),(44,k169),(42,.wr kw115)]) (H:=[(1,⟨[(6,.call)],[]⟩),(2,⟨[(5,.call)],[]⟩)]) (.cons kon179 (.cons kon169 (.mcons konw115 .nil))) Tryz.func110 fun l l' rest ob val cs cs' hF hob => by
 unfold apaF at hF
 split at hF
 ·rename_i x e y f x' e' y' f' z g u h d k
  cases hF
  have h1:l = bodyC (bodyD l):=hob _ (by simp)
  have h2:l' = bodyC (bodyD l'):=hob _ (by simp)
  have ha:inB (bodyD l):=hob _ (by simp)
  have hb:inB (bodyD l'):=hob _ (by simp)
  have k1:inR x:=hob _ (by simp)
  have k2:inR y:=hob _ (by simp)
  have k3:inR x':=hob _ (by simp)
  have k4:inR y':=hob _ (by simp)
  have k5:inR z:=hob _ (by simp)
  have k6:inR u:=hob _ (by simp)
  have k7:inR d:=hob _ (by simp)
  clear hob
  generalize bodyD l = a at *
  generalize bodyD l' = b at *
  subst h1 h2
  refine ⟨by simp [clean],rfl,cleanC_body,cleanC_body,by kernel_rfl,fun fam f i f' i' hne hi hi' hs hs' hg hk => bodyM_go (rs:=[]) rfl rfl ?_⟩
  have e1:∀ (fam:Fam) (j:Nat) (c:List AV),famE fam f' j c f = fam f:=fun _ _ _ => famE_off hne
  have e2:∀ (fam:Fam) (j:Nat) (c:List AV),famE fam f j c f' = fam f':=fun _ _ _ => famE_off (Ne.symm hne)
  have e3:∀ (fam:Fam) (j j':Nat) (c c':List AV),famE (famE fam f' j' c') f j c = famE (famE fam f j c) f' j' c':=fun _ _ _ _ _ => famE_comm hne
  simp only [go_sem,k179,k169,kw115,cBR_eq,mB_ptr,mbP_some,stepC_mbQ,ha,hb,k1,k2,k3,k4,k5,k6,k7,e1,e2,e3,hi,hi',hg,hk,← hs,← hs']
  intro c hc b' hb'
  rw [hc,hb']
 ·cases hF
def updB (B:Nat → Bd) (i:Nat) (b:Bd):Nat → Bd:=fun j => if j = i then b else B j
theorem updB_at {B:Nat → Bd} {i:Nat} {b:Bd}:updB B i b i = b:=if_pos rfl
theorem updB_off {B:Nat → Bd} {i j:Nat} {b:Bd} (h:j ≠ i):updB B i b j = B j:=if_neg h
theorem bsC_upd {B:Nat → Bd} {i:Nat} {b:Bd}:(fun j => if j = i then bodyC b else bsC B j) = bsC (updB B i b):=funext fun j => by
 unfold bsC updB
 split <;> rfl
theorem famT_upd {K N sz:Nat} {tp ty:TypeId} {B:Nat → Bd} {i:Nat} {b:Bd}:famT K N sz tp ty (fun j => if j = i then bodyC b else bsC B j) = famT K N sz tp ty (bsC (updB B i b)):=by rw [bsC_upd]
theorem famT_upd2 {K N sz:Nat} {tp ty:TypeId} {B:Nat → Bd} {i:Nat} {b:Bd}:famT K N sz tp ty (fun j => if j = i then bodyC b else bodyC (B j)) = famT K N sz tp ty (bsC (updB B i b)):=famT_upd
theorem tabOK_bs {K N:Nat} {B:Nat → Bd}:tabOK K N 27 92 96 (famT K N 27 92 96 (bsC B)) = True:=tabOK_T fun _ _ => rfl
theorem famOK_bs {K N:Nat} {B:Nat → Bd}:famOK K (famT K N 27 92 96 (bsC B)) = True:=famOK_T fun _ _ => rfl
attribute [go_sem] famT_upd famT_upd2 tabOK_bs famOK_bs bsC_at bsD_C
structure Ct where
 a:Int
 b:Int
 nv:V2
 n:Nat
 P:Nat → V2
 D:Nat → Nb
 p0:Nb
 p1:Nb
 r0:Nb
 r1:Nb
def tchC (p:V2) (d:Nb):List AV:=[i64 p.1.1,bo p.1.2,i64 p.2.1,bo p.2.2,i64 d.1,bo d.2]
def tchs (P:Nat → V2) (D:Nat → Nb):Nat → List AV:=fun j => tchC (P j) (D j)
theorem tchs_at {P:Nat → V2} {D:Nat → Nb} {j:Nat}:tchs P D j = tchC (P j) (D j):=(rfl)
def contC (c:Ct):List AV:=[i64 c.a,i64 c.b,i64 c.nv.1.1,bo c.nv.1.2,i64 c.nv.2.1,bo c.nv.2.2,.ro c.n 6 (tchs c.P c.D),
 i64 c.p0.1,bo c.p0.2,i64 c.p1.1,bo c.p1.2,i64 c.r0.1,bo c.r0.2,i64 c.r1.1,bo c.r1.2]
def tchP (g:Nat → List AV):Nat → V2:=fun j => ((gi (g j) 0,gib (g j) 1),(gi (g j) 2,gib (g j) 3))
def tchD (g:Nat → List AV):Nat → Nb:=fun j => (gi (g j) 4,gib (g j) 5)
def contD (l:List AV):Ct:=
 ⟨gi l 0,gi l 1,((gi l 2,gib l 3),(gi l 4,gib l 5)),roN l 6,tchP (roG l 6),tchD (roG l 6),(gi l 7,gib l 8),(gi l 9,gib l 10),(gi l 11,gib l 12),(gi l 13,gib l 14)⟩
theorem contD_C (c:Ct):contD (contC c) = c:=rfl
section
variable {a b x y p q r s:Int} {n:Nat} {P:Nat → V2} {D:Nat → Nb} {e f k l m o:Bool}
end
def inC (c:Ct):Prop:=inR c.a ∧ inR c.b ∧ inR c.nv.1.1 ∧ inR c.nv.2.1 ∧ (∀ j,j < c.n → inR (c.P j).1.1 ∧ inR (c.P j).2.1 ∧ inR (c.D j).1) ∧ inR c.p0.1 ∧ inR c.p1.1 ∧ inR c.r0.1 ∧ inR c.r1.1
theorem byt87:bytesT Tryz.prog 87 = 48:=by kernel_rfl
section
variable {P:Program} {G:Ctx} {H:Hots} {K0:AEx → St → Prop} {hot:Option Hot} {ops:Array Oper} {d:Option Tmp} {rest:List Oper} {i k:Nat} {st:List Fr} {t:Slots} {m:Mem} {nx:Nat} {o:List Prop} {u:Upd} {b:Ct} {c:Bool}
theorem ofC_cont:ofC (some (true,15)) (contC b) = some (.agg (contC b)):=(rfl)
theorem cells_cont:cellsOf (.agg (contC b)) = some (contC b):=(rfl)
theorem drop_cont:(contC b).drop 15 = []:=(rfl)
theorem take_cont:(contC b).take 15 = contC b:=(rfl)
theorem cleanCs_cont:cleanCs (contC b) = true:=(rfl)
theorem clean_cont:clean 3 (.agg (contC b)) = true:=(rfl)
theorem cleanL_cont:cleanL 2 (contC b) = true:=(rfl)
theorem allCells_cont:allCells (contC b) = true:=(rfl)
theorem len_cont:(contC b).length = 15:=(rfl)
theorem purUL_cont:purUL 2 m (contC b) = contC b:=(rfl)
theorem pgsL_cont:pgsL 2 m (contC b) = []:=(rfl)
theorem purL_cont {d:Nat}:purL d m (contC b) = contC b:=by cases d <;> rfl
theorem bindL_cont:bindL P G H K0 hot ops d rest i st t m nx o u false [] (contC b) = bindC P G H K0 hot ops d rest i st t m nx o u (.agg (contC b)):=by
 unfold bindL; simp
end
attribute [go_sem] ofC_cont cells_cont drop_cont take_cont cleanCs_cont clean_cont cleanL_cont allCells_cont len_cont purUL_cont pgsL_cont purL_cont bindL_cont contD_C
def kCon:Con
 | [.agg l] => some ([l = contC (contD l),(contD l).n ≤ 1000],.agg (contC (contD l)))
 | _ => none
theorem con57:ConOK Tryz.prog 57 kCon:=ConOK.of (G:=[]) (H:=[]) .nil Tryz.func57 fun l ob r hc hob => by
 unfold kCon at hc
 split at hc
 ·rename_i l
  cases hc
  have e:l = contC (contD l):=hob _ (by simp)
  have hn:(contD l).n ≤ 1000:=hob _ (by simp)
  generalize contD l = c at *
  subst e
  refine ⟨by kernel_rfl,fnVC_go (rs:=[.cell 2 55]) rfl rfl ?_⟩
  simp only [contC,go_sem]
  exact ⟨fun _ _ => rfl,by rw [byt87]; omega,by omega,rfl⟩
 ·cases hc
def apB (N:Nat) (a b:Int):Prop:=0 ≤ a ∧ a < N ∧ 0 ≤ b ∧ b < N ∧ a ≠ b
instance {N:Nat} {a b:Int}:Decidable (apB N a b):=by unfold apB; infer_instance
def tellE (key K N:Nat):Option Fam → Option Eff
 | some fam => some ⟨[tabOK K N 27 92 96 fam,N ≤ 1000,∀ i,i < N → ((fam (i + 1)).get 0).length = 27 ∧ allCells ((fam (i + 1)).get 0) = true],.own key 0 N 27,.many [] (some (famN N 27 40 (fun i => (fam (i + 1)).get 0) none))⟩
 | none => none
theorem mNtel_at {key:Nat} {m:Mem} {K N:Nat}:mNtel key m [.own K 0 N 1] = tellE key K N (look m K):=by
 show (match look m K with
  | some fam => some (⟨[tabOK K N 27 92 96 fam,N ≤ 1000,∀ i,i < N → ((fam (i + 1)).get 0).length = 27 ∧ allCells ((fam (i + 1)).get 0) = true],.own key 0 N 27,.many [] (some (famN N 27 40 (fun i => (fam (i + 1)).get 0) none))⟩:Eff)
  | none => none) = _
 cases look m K <;> rfl
theorem tellE_bs {key K N:Nat} {B:Nat → Bd}:tellE key K N (some (famT K N 27 92 96 (bsC B))) = some ⟨[True,N ≤ 1000,True],.own key 0 N 27,.many [] (some (famN N 27 40 (bsC B) none))⟩:=by
 show some (⟨[tabOK K N 27 92 96 (famT K N 27 92 96 (bsC B)),N ≤ 1000,∀ i,i < N → (bsC B i).length = 27 ∧ allCells (bsC B i) = true],.own key 0 N 27,.many [] (some (famN N 27 40 (bsC B) none))⟩:Eff) = _
 rw [tabOK_bs,eq_true (show ∀ i,i < N → (bsC B i).length = 27 ∧ allCells (bsC B i) = true from fun i _ => ⟨rfl,rfl⟩)]
attribute [go_sem] mNtel_at tellE_bs mNlay_eq
def bsF:List AV → Option (List Prop × Nat × (Nat → List AV))
 | [.ro N 27 g] => some ([g = bsC (bsD g),N ≤ 1000,inBs N (bsD g)],N,g)
 | _ => none
def mNbs:MCon:=mcV 27 40 bsF
theorem mNbs_eq {key:Nat} {m:Mem} {N:Nat} {g:Nat → List AV}:mNbs key m [.ro N 27 g] = some ⟨[g = bsC (bsD g),N ≤ 1000,inBs N (bsD g)],.own key 0 N 27,.many [] (some (famN N 27 40 g none))⟩:=(rfl)
attribute [go_sem] mNbs_eq
theorem famN_upd {N:Nat} {B:Nat → Bd} {i:Nat} {b:Bd}:famN N 27 40 (fun j => if j = i then bodyC b else bodyC (B j)) none = famN N 27 40 (bsC (updB B i b)) none:=by rw [← bsC_upd]; rfl
theorem famN_upd2 {N:Nat} {B:Nat → Bd} {i:Nat} {b:Bd}:famN N 27 40 (fun j => if j = i then bodyC b else bsC B j) none = famN N 27 40 (bsC (updB B i b)) none:=famN_upd
attribute [go_sem] famN_upd famN_upd2
def manC (v:V2) (n:Nat) (P:Nat → V2) (D:Nat → Nb):AV:=.agg [i64 v.1.1,bo v.1.2,i64 v.2.1,bo v.2.2,.ro n 6 (tchs P D)]
theorem eqE_ownnil {P:Program} {q:TypeId} {xo yo:Operand} {neg:Bool} {r f n sz:Nat} {e:TypeId} (h:P.underlying q = some (.slice e)):eqE P neg q xo yo (.own r f (n + 1) sz) (.v (.slice none 0 0)) = some ⟨[],.v (.bool (negV neg false)),.none⟩:=by
 have e1:aNil P q (.own r f (n + 1) sz) (.v (.slice none 0 0)) = some false:=by
  show (match P.underlying q with | some (.slice _) => some false | _ => none) = _
  rw [h]
 have e2:aEq P q (.own r f (n + 1) sz) (.v (.slice none 0 0)) = some false:=by
  unfold aEq
  rw [e1]
 unfold eqE
 rw [e2]
theorem eqE_nilS {P:Program} {q:TypeId} {xo yo:Operand} {neg:Bool} {e:TypeId} (h:P.underlying q = some (.slice e)):eqE P neg q xo yo (.v (.slice none 0 0)) (.v (.slice none 0 0)) = some ⟨[],.v (.bool (negV neg true)),.none⟩:=by
 have he:pureRun P (Op.equal q (.slice none 0 0) (.slice none 0 0)) = some true:=by
  show pureRun P (Op.equalIn (9999 + 1) q (.slice none 0 0) (.slice none 0 0)) = _
  unfold Op.equalIn
  show pureRun P (Sem.bind _ _) = _
  rw [pureRun_bind,pureRun_under h]
  rfl
 unfold eqE
 have h0:aEq P q (.v (.slice none 0 0)) (.v (.slice none 0 0)) = none:=by
  unfold aEq
  show (match eqOkT P q with | true => _ | false => _) = _
  cases eqOkT P q <;> rfl
 rw [h0]
 dsimp only [flat]
 have hg:∀ op,eqGuard op q xo yo (.slice none 0 0) (.slice none 0 0) = Sem.pure ():=fun op => by
  cases op <;> rfl
 rw [hg]
 cases neg
 ·show (match pureRun P (Sem.bind (Op.equal q (.slice none 0 0) (.slice none 0 0)) fun b => Sem.pure (Value.bool b)) with | some v => _ | none => _) = _
  rw [pureRun_bind,he]; rfl
 ·show (match pureRun P (Sem.bind (Op.equal q (.slice none 0 0) (.slice none 0 0)) fun b => Sem.pure (Value.bool (!b))) with | some v => _ | none => _) = _
  rw [pureRun_bind,he]; rfl
theorem eq50wn {xo yo:Operand} {neg:Bool}:eqE Tryz.prog neg 50 xo yo (.v (.slice none 0 0)) (.v (.slice none 0 0)) = some ⟨[],.v (.bool (negV neg true)),.none⟩:=eqE_nilS Tryz.underlying50
theorem eq56o1 {xo yo:Operand} {neg:Bool} {r f sz:Nat}:eqE Tryz.prog neg 50 xo yo (.own r f 1 sz) (.v (.slice none 0 0)) = some ⟨[],.v (.bool (negV neg false)),.none⟩:=eqE_ownnil (n:=0) Tryz.underlying50
theorem eq56o2 {xo yo:Operand} {neg:Bool} {r f sz:Nat}:eqE Tryz.prog neg 50 xo yo (.own r f 2 sz) (.v (.slice none 0 0)) = some ⟨[],.v (.bool (negV neg false)),.none⟩:=eqE_ownnil (n:=1) Tryz.underlying50
attribute [go_sem] eq50wn eq56o1 eq56o2
end Go.Ax
end