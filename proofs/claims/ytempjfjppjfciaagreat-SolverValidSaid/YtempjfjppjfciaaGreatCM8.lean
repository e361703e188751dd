/-
  Contracts of functions that write rows: a table and an element of another row; a slice of one's own; two pointers out of a table.
-/
import Derived.Test.YtempjfjppjfciaaGreatCM7
set_option linter.unusedVariables false
set_option linter.unusedSimpArgs false
section
namespace Go.Ax
section
variable {P:Program} {G:Ctx} {H:Hots} {f:FuncId} {fn:Func} {r s key:Nat}
theorem thL2_0 {th:Nat → Nat → Nat}:∀ f,thL [r,s] key th 0 f = (r,f):=fun f => by simp [thL]
def famCl (fam:Fam):Prop:=∀ f,(fam f).g = none ∧ ∀ j,j < (fam f).n → ∀ c ∈ (fam f).get j,cleanC c = true
theorem famCl_E {fam:Fam} {f i:Nat} {cs:List AV} (h:famCl fam) (hc:∀ c ∈ cs,cleanC c = true):famCl (famE fam f i cs):=fun f' => by
 refine ⟨by rw [famE_g]; exact (h f').1,fun j hj c hcm => ?_⟩
 rw [famE_n] at hj
 by_cases e:f' = f
 ·subst e
  simp only [famE,if_true] at hcm
  split at hcm
  ·exact hc c hcm
  ·exact (h f').2 j hj c hcm
 ·rw [famE_off e] at hcm
  exact (h f').2 j hj c hcm
theorem rowRen_cl {θ:Nat → Nat → Nat × Nat} {g:Nat → Nat → Prop} {B:Nat → Prop} {fam:Fam} (h:famCl fam) (f:Nat):rowRen θ g B (fam f) (fam f):=rowRen_clean' (.refl _) (h f).2
theorem look_two0 {x y:Fam}:look [(1,y),(0,x)] 0 = some x:=by simp [look]
theorem look_two1 {x y:Fam}:look [(1,y),(0,x)] 1 = some y:=by simp [look]
theorem two_okG {fam fam' x0 y0 famB famB':Fam} {m:Mem} {es es0:List AV} {val val0:AV} {ob:List Prop} (hne:r ≠ s) (hl:look m r = some fam) (hl2:look m s = some famB)
  (h1:∀ f,(fam f).g = none ∧ rowRen (thE [r,s]) (lowG 2) (lowB 2) (x0 f) (fam f)) (hB:famCl famB) (hB':famCl famB')
  (h2:∀ th σ f,rowRen (thL [r,s] key th) (newG 2 σ th) (newB 2 σ) (y0 f) (fam' f) ∧ (y0 f).g ≠ some false) (ha:es = es0.map (renA (thE [r,s]) 3)) (hak:∀ a ∈ es0,kg (lowG 2) (lowB 2) 3 a)
  (hfn:funcOK P H fn es0.length = true) (hv:∀ th:Nat → Nat → Nat,∀ σ:Nat → Option (Nat × Nat),val = renA (thL [r,s] key th) 3 val0 ∧ kg (newG 2 σ th) (newB 2 σ) 3 val0)
  (hb:bodyM P G H fn es0 [(1,famB),(0,x0)] 2 fun a m1 => a = val0 ∧ look m1 0 = some y0 ∧ look m1 1 = some famB') :
  ∃ ks m0 as0,Entry ks m m0 es as0 ∧ funcOK P H fn as0.length = true ∧ bodyM P G H fn as0 m0 ks.length fun a m1 => ∃ σ th ys nw,(⟨ob,val,.many [(r,fam'),(s,famB')] none⟩:Eff).u = .many (ks.zip ys) nw ∧ Leave key ks σ th m1 a ys nw val:=by
 refine ⟨[r,s],[(1,famB),(0,x0)],es0,⟨by simp [hne],ha,hak,fun j hj => ?_,fun q x hq => ?_⟩,hfn,hb.mono fun a m1 ⟨q1,q2,q3⟩ => ?_⟩
 ·match j,hj with
  | 0,_ => exact ⟨_,fam,look_two0,hl,h1⟩
  | 1,_ => exact ⟨_,famB,look_two1,hl2,fun f => ⟨(hB f).1,rowRen_cl hB f⟩⟩
  | j + 2,hj => simp at hj; omega
 ·by_cases e:q = 0
  ·subst e; simp
  ·by_cases e1:q = 1
   ·subst e1; simp
   ·simp [look,Ne.symm e,Ne.symm e1] at hq
 ·obtain ⟨v1,v2⟩:=hv (fun _ _ => 0) (fun _ => none)
  refine ⟨fun _ => none,fun _ _ => 0,[fam',famB'],none,rfl,⟨fun f r g h => by simp at h,by rw [q1]; exact v1,by rw [q1]; exact v2,rfl,fun j hj => ?_,fun _ => rfl⟩⟩
  match j,hj with
  | 0,_ => exact ⟨_,_,q2,rfl,h2 _ _⟩
  | 1,_ => exact ⟨_,_,q3,rfl,fun f => ⟨rowRen_cl hB' f,by rw [(hB' f).1]; simp⟩⟩
  | j + 2,hj => simp at hj; omega
theorem tabOK_in2 {K C N sz:Nat} {tp ty:TypeId} {fam:Fam} (h:tabOK K N sz tp ty fam) (f:Nat):(fam f).g = none ∧ rowRen (thE [K,C]) (lowG 2) (lowB 2) (famT 0 N sz tp ty (fun i => (fam (i + 1)).get 0) f) (fam f):=
 ⟨(h.1 f).2.2.2.1.trans famT_g,rowRen_alike (rowRen_T (θ:=thE [K,C]) (g:=lowG 2) (B:=lowB 2) (fun _ => rfl) (fun _ => Nat.zero_lt_two) h.2 f) (h.1 f)⟩
def mcTPp (sz sz2:Nat) (tp ty:TypeId) (F:Nat → (Nat → List AV) → List AV → List AV → Option (List Prop × AV × (Nat → List AV) × List AV)):MCon:=fun key m es => match es with
 | .own K 0 N 1 :: .ptr C f i s2 0 :: rest => match look m K with
  | some fam => match look m C with
   | some famC => match F N (fun i => (fam (i + 1)).get 0) ((famC f).get i) rest with
    | some (ob,val,get',cs') => some ⟨(K ≠ C) :: (s2 = sz2) :: (i < (famC f).n) :: (sz2 = (famC f).sz) :: (cleanCs ((famC f).get i) = true) :: famCl famC :: tabOK K N sz tp ty fam :: ob,val,.many [(K,famT K N sz tp ty get'),(C,famE famC f i cs')] none⟩
    | none => none
   | none => none
  | none => none
 | _ => none
def mcTQ (sz sz2:Nat) (tp ty:TypeId) (F:Nat → (Nat → List AV) → List AV → List AV → Option (List Prop × AV × (Nat → List AV) × List AV)):MCon:=fun key m es => match es with
 | .own K 0 N 1 :: .bx C 0 :: rest => match look m K with
  | some fam => match look m C with
   | some famC => match F N (fun i => (fam (i + 1)).get 0) ((famC 0).get 0) rest with
    | some (ob,val,get',cs') => some ⟨(K ≠ C) :: ((famC 0).n = 1) :: (sz2 = (famC 0).sz) :: (cleanCs ((famC 0).get 0) = true) :: famCl famC :: tabOK K N sz tp ty fam :: ob,val,.many [(K,famT K N sz tp ty get'),(C,wb1 famC cs')] none⟩
    | none => none
   | none => none
  | none => none
 | es => mcTPp sz sz2 tp ty F key m es
def TPOK (P:Program) (G:Ctx) (H:Hots) (fn:Func) (sz sz2:Nat) (tp ty:TypeId) (F:Nat → (Nat → List AV) → List AV → List AV → Option (List Prop × AV × (Nat → List AV) × List AV)):Prop:=
 ∀ N get cells rest ob val get' cs',F N get cells rest = some (ob,val,get',cs') → (∀ p ∈ ob,p) → (∀ i,i < N → cleanCs (get i) = true) → cleanCs cells = true →
  (∀ a ∈ rest,clean 3 a = true) ∧ clean 3 val = true ∧ (∀ i,i < N → cleanCs (get' i) = true) ∧ cleanCs cs' = true ∧ funcOK P H fn (rest.length + 2) = true ∧
  ∀ (fam:Fam) (f i:Nat),i < (fam f).n → sz2 = (fam f).sz → famCl fam → bodyM P G H fn (.own 0 0 N 1 :: .ptr 1 f i sz2 0 :: rest) [(1,famE fam f i cells),(0,famT 0 N sz tp ty get)] 2 fun a m1 =>
   a = val ∧ look m1 0 = some (famT 0 N sz tp ty get') ∧ look m1 1 = some (famE fam f i cs')
theorem MConOK.mcTPp (hG:CtxOK P G) (hf:P.funcs[f]? = some fn) {sz sz2:Nat} {tp ty:TypeId} {F:Nat → (Nat → List AV) → List AV → List AV → Option (List Prop × AV × (Nat → List AV) × List AV)} (h:TPOK P G H fn sz sz2 tp ty F):MConOK P f (mcTPp sz sz2 tp ty F):=by
 refine MConOK.of (H:=H) hG hf fun key m es e hc hob => ?_
 unfold Ax.mcTPp at hc
 split at hc
 ·rename_i K N C f' i s2 rest
  split at hc
  ·rename_i fam hl
   split at hc
   ·rename_i famC hl2
    split at hc
    ·rename_i ob val get' cs' hF
     cases hc
     have hne:K ≠ C:=hob _ (by simp)
     have hs2:s2 = sz2:=hob _ (by simp)
     have hi:i < (famC f').n:=hob _ (by simp)
     have hsz:sz2 = (famC f').sz:=hob _ (by simp)
     have hcl:cleanCs ((famC f').get i) = true:=hob _ (by simp)
     have hC:famCl famC:=hob _ (by simp)
     have hok:tabOK K N sz tp ty fam:=hob _ (by simp)
     subst hs2
     obtain ⟨h1,h2,h3,h3',h4,h5⟩:=h _ _ _ _ _ _ _ _ hF (fun p hp => hob p (by simp [hp])) hok.2 hcl
     obtain ⟨a1,a2⟩:=cleans_ren (θ:=thE [K,C]) (g:=lowG 2) (B:=lowB 2) h1
     refine two_okG hne hl hl2 (tabOK_in2 hok) hC (famCl_E hC (cleanCs_mem h3'))
      (fun th σ f => ⟨rowRen_T thL2_0 (fun _ => .inl Nat.zero_lt_two) h3 f,by rw [famT_g]; simp⟩) (es0:=.own 0 0 N 1 :: .ptr 1 f' i s2 0 :: rest) (val0:=val) ?_ ?_ h4 (fun th σ => ?_) ?_
     ·rw [List.map_cons,List.map_cons,a1]; rfl
     ·intro a ha
      rcases List.mem_cons.1 ha with e | ha
      ·rw [e]; exact Nat.zero_lt_two
      ·rcases List.mem_cons.1 ha with e | ha
       ·rw [e]; exact Nat.one_lt_two
       ·exact a2 a ha
     ·obtain ⟨b1,b2⟩:=clean_ren (θ:=thL [K,C] key th) (g:=newG 2 σ th) (B:=newB 2 σ) 3 val h2
      exact ⟨b1.symm,b2⟩
     ·have:=h5 famC f' i hi hsz hC
      rw [famE_self] at this
      exact this
    ·cases hc
   ·cases hc
  ·cases hc
 ·cases hc
theorem MConOK.mcTQ (hG:CtxOK P G) (hf:P.funcs[f]? = some fn) {sz sz2:Nat} {tp ty:TypeId} {F:Nat → (Nat → List AV) → List AV → List AV → Option (List Prop × AV × (Nat → List AV) × List AV)} (h:TPOK P G H fn sz sz2 tp ty F):MConOK P f (mcTQ sz sz2 tp ty F):=by
 intro w0 ρ m m' D w key es vs e hR hk hm hRs hc hob hmany
 unfold Ax.mcTQ at hc
 split at hc
 ·rename_i K N C rest
  split at hc
  ·rename_i fam hl
   split at hc
   ·rename_i famC hl2
    split at hc
    ·rename_i ob val get' cs' hF
     cases hc
     have hne:K ≠ C:=hob _ (by simp)
     have hn:(famC 0).n = 1:=hob _ (by simp)
     have hsz:sz2 = (famC 0).sz:=hob _ (by simp)
     have hcl:cleanCs ((famC 0).get 0) = true:=hob _ (by simp)
     have hC:famCl famC:=hob _ (by simp)
     have hok:tabOK K N sz tp ty fam:=hob _ (by simp)
     have hRs':Rs w ρ (.own K 0 N 1 :: .ptr C 0 0 sz2 0 :: rest) vs:=by
      obtain ⟨x,xs,rfl,h1,h2⟩:=hRs.inv
      obtain ⟨y,ys,rfl,h3,h4⟩:=h2.inv
      refine .cons h1 (.cons ?_ h4)
      cases h3 with
      | bx hd =>
       have:R w ρ (.ptr C 0 0 sz2 0) (.pointer (some ⟨ρ.blk C 0,0 * sz2 + 0,none⟩)):=.ptr hd
       rw [Nat.zero_mul] at this
       exact this
     have:=MConOK.mcTPp hG hf h w0 ρ m m' D w key _ vs ⟨(K ≠ C) :: (sz2 = sz2) :: (0 < (famC 0).n) :: (sz2 = (famC 0).sz) :: (cleanCs ((famC 0).get 0) = true) :: famCl famC :: tabOK K N sz tp ty fam :: ob,val,.many [(K,famT K N sz tp ty get'),(C,famE famC 0 0 cs')] none⟩ hR hk hm hRs'
      (by simp only [Ax.mcTPp,hl,hl2,hF]) (fun p hp => by
       simp only [List.mem_cons] at hp
       rcases hp with rfl | rfl | rfl | rfl | rfl | rfl | rfl | hp
       ·exact hne
       ·trivial
       ·omega
       ·exact hsz
       ·exact hcl
       ·exact hC
       ·exact hok
       ·exact hob p (by simp [hp])) ⟨_,_,rfl⟩
     refine this.mono fun v w' ⟨ρ',p1,p2,p3,p4⟩ => ⟨ρ',p1,?_,p3,p4⟩
     have p2:Rel w0 ρ' (setRow C (famE famC 0 0 cs') (setRow K (famT K N sz tp ty get') m)) (fun r => D r ∨ r = key) w':=p2
     refine Rel.alike p2 fun f => ?_
     by_cases e:f = 0
     ·subst e
      refine ⟨rfl,rfl,rfl,rfl,fun i hi => ?_⟩
      rw [famE_n,hn] at hi
      have:i = 0:=by omega
      subst this
      rw [famE_get]; rfl
     ·unfold wb1
      rw [if_neg e,famE_off e]
      exact ⟨rfl,rfl,rfl,rfl,fun _ _ => rfl⟩
    ·cases hc
   ·cases hc
  ·cases hc
 ·exact MConOK.mcTPp hG hf h w0 ρ m m' D w key es vs e hR hk hm hRs hc hob hmany
def mc2P (sz:Nat) (tp ty:TypeId):MCon:=fun key m es => match es with
 | [.own K 0 N 1,.v (.int .i64 a),.v (.int .i64 b)] => match look m K with
  | some fam => some ⟨[tabOK K N sz tp ty fam,N ≤ 1000],if 0 ≤ a ∧ a < N ∧ 0 ≤ b ∧ b < N ∧ a ≠ b then .tup [.ptr K (a.toNat + 1) 0 sz 0,.ptr K (b.toNat + 1) 0 sz 0,.v (.bool true)] else .tup [.v (.pointer none),.v (.pointer none),.v (.bool false)],.many [(K,fam)] none⟩
  | none => none
 | _ => none
def TwoPOK (P:Program) (G:Ctx) (H:Hots) (fn:Func) (sz:Nat) (tp ty:TypeId):Prop:=
 ∀ N get,N ≤ 1000 → ∀ a b:Int,funcOK P H fn 3 = true ∧
  bodyM P G H fn [.own 0 0 N 1,.v (.int .i64 a),.v (.int .i64 b)] [(0,famT 0 N sz tp ty get)] 1 fun x m1 => x = (if 0 ≤ a ∧ a < N ∧ 0 ≤ b ∧ b < N ∧ a ≠ b then AV.tup [.ptr 0 (a.toNat + 1) 0 sz 0,.ptr 0 (b.toNat + 1) 0 sz 0,.v (.bool true)] else .tup [.v (.pointer none),.v (.pointer none),.v (.bool false)]) ∧ look m1 0 = some (famT 0 N sz tp ty get)
theorem MConOK.mc2P (hG:CtxOK P G) (hf:P.funcs[f]? = some fn) {sz:Nat} {tp ty:TypeId} (h:TwoPOK P G H fn sz tp ty):MConOK P f (mc2P sz tp ty):=by
 refine MConOK.of (H:=H) hG hf fun key m es e hc hob => ?_
 unfold Ax.mc2P at hc
 split at hc
 ·rename_i K N a b
  split at hc
  ·rename_i fam hl
   cases hc
   have hok:tabOK K N sz tp ty fam:=hob _ (by simp)
   have hN:N ≤ 1000:=hob _ (by simp)
   obtain ⟨h1,h2⟩:=h N (fun i => (fam (i + 1)).get 0) hN a b
   refine one_okG hl (tabOK_in hok) (fun th σ f => ⟨rowRen_alike (rowRen_T thL_0 (newG_0 (by simp)) hok.2 f) (hok.1 f),by rw [famT_g]; simp⟩) (es0:=[.own 0 0 N 1,.v (.int .i64 a),.v (.int .i64 b)]) ?_ ?_ h1 (fun th σ => ?_) h2
   ·rfl
   ·intro x hx
    simp only [List.mem_cons,List.not_mem_nil,or_false] at hx
    rcases hx with e | e | e <;> rw [e]
    ·exact Nat.zero_lt_one
    ·trivial
    ·trivial
   ·split
    ·refine ⟨?_,?_⟩
     ·show AV.tup [.ptr K _ _ _ _,.ptr K _ _ _ _,_] = .tup [.ptr (thL [K] key th 0 _).1 (thL [K] key th 0 _).2 _ _ _,.ptr (thL [K] key th 0 _).1 (thL [K] key th 0 _).2 _ _ _,_]
      rw [thL_0,thL_0]; rfl
     ·intro c hc
      simp only [List.mem_cons,List.not_mem_nil,or_false] at hc
      rcases hc with e | e | e <;> rw [e]
      ·exact newG_0 (by simp) _
      ·exact newG_0 (by simp) _
      ·trivial
    ·refine ⟨rfl,fun c hc => ?_⟩
     simp only [List.mem_cons,List.not_mem_nil,or_false] at hc
     rcases hc with e | e | e <;> rw [e] <;> trivial
  ·cases hc
 ·cases hc
def mcS (sz:Nat) (ty:TypeId) (F:Nat → (Nat → List AV) → List AV → Option (List Prop × AV × (Nat → List AV))):MCon:=fun key m es => match es with
 | .own r 0 N sz' :: rest => match look m r with
  | some fam => match F N (fam 0).get rest with
   | some (ob,val,get') => some ⟨(sz' = sz) :: (fam = famN N sz ty (fam 0).get none) :: (∀ i,i < N → cleanCs ((fam 0).get i) = true) :: ob,val,.many [(r,famN N sz ty get' none)] none⟩
   | none => none
  | none => none
 | _ => none
def SlOK (P:Program) (G:Ctx) (H:Hots) (fn:Func) (sz:Nat) (ty:TypeId) (F:Nat → (Nat → List AV) → List AV → Option (List Prop × AV × (Nat → List AV))):Prop:=
 ∀ N get rest ob val get',F N get rest = some (ob,val,get') → (∀ p ∈ ob,p) → (∀ i,i < N → cleanCs (get i) = true) → (∀ a ∈ rest,clean 3 a = true) ∧ clean 3 val = true ∧ (∀ i,i < N → cleanCs (get' i) = true) ∧ funcOK P H fn (rest.length + 1) = true ∧
  bodyM P G H fn (.own 0 0 N sz :: rest) [(0,famN N sz ty get none)] 1 fun a m1 => a = val ∧ look m1 0 = some (famN N sz ty get' none)
theorem famCl_N {n sz:Nat} {ty:TypeId} {get:Nat → List AV} (h:∀ i,i < n → cleanCs (get i) = true):famCl (famN n sz ty get none):=fun f => by
 unfold famN
 by_cases e:f = 0
 ·subst e
  exact ⟨rfl,fun j hj c hc => cleanCs_mem (h j (by simpa using hj)) c (by simpa using hc)⟩
 ·simp only [e,if_false]
  exact ⟨trivial,fun j hj => by omega⟩
theorem famCl_1 {sz:Nat} {ty:TypeId} {cs:List AV} (h:cleanCs cs = true):famCl (fam1 ty sz cs none):=fun f => by
 unfold fam1
 by_cases e:f = 0
 ·subst e
  exact ⟨rfl,fun j _ c hc => cleanCs_mem h c (by simpa using hc)⟩
 ·simp only [e,if_false]
  exact ⟨trivial,fun j hj => by omega⟩
theorem MConOK.mcS (hG:CtxOK P G) (hf:P.funcs[f]? = some fn) {sz:Nat} {ty:TypeId} {F:Nat → (Nat → List AV) → List AV → Option (List Prop × AV × (Nat → List AV))} (h:SlOK P G H fn sz ty F):MConOK P f (mcS sz ty F):=by
 refine MConOK.of (H:=H) hG hf fun key m es e hc hob => ?_
 unfold Ax.mcS at hc
 split at hc
 ·rename_i K N sz' rest
  split at hc
  ·rename_i fam hl
   split at hc
   ·rename_i ob val get' hF
    cases hc
    have hs:sz' = sz:=hob _ (by simp)
    have he:fam = famN N sz ty (fam 0).get none:=hob _ (by simp)
    have hcl:∀ i,i < N → cleanCs ((fam 0).get i) = true:=hob _ (by simp)
    subst hs
    obtain ⟨h1,h2,h3,h4,h5⟩:=h _ _ _ _ _ _ hF (fun p hp => hob p (by simp [hp])) hcl
    obtain ⟨a1,a2⟩:=cleans_ren (θ:=thE [K]) (g:=lowG 1) (B:=lowB 1) h1
    have hC:famCl fam:=by rw [he]; exact famCl_N hcl
    rw [← he] at h5
    refine one_okG hl (fun f => ⟨(hC f).1,rowRen_cl hC f⟩) (fun th σ f => ⟨rowRen_cl (famCl_N h3) f,by rw [(famCl_N h3 f).1]; simp⟩) (es0:=.own 0 0 N sz' :: rest) (val0:=val) ?_ ?_ h4 (fun th σ => ?_) h5
    ·rw [List.map_cons,a1]; rfl
    ·intro a ha
     rcases List.mem_cons.1 ha with e | ha
     ·rw [e]; exact Nat.zero_lt_one
     ·exact a2 a ha
    ·obtain ⟨b1,b2⟩:=clean_ren (θ:=thL [K] key th) (g:=newG 1 σ th) (B:=newB 1 σ) 3 val h2
     exact ⟨b1.symm,b2⟩
   ·cases hc
  ·cases hc
 ·cases hc
def LayOK2 (P:Program) (G:Ctx) (H:Hots) (fn:Func) (sz:Nat) (tp ty:TypeId) (F:List AV → Option (List Prop × Nat × (Nat → List AV))):Prop:=
 ∀ es ob N get,F es = some (ob,N,get) → (∀ p ∈ ob,p) → (∀ a ∈ es,clean 3 a = true) ∧ (∀ i,i < N → cleanCs (get i) = true) ∧ funcOK P H fn es.length = true ∧
  bodyM P G H fn es [] 0 fun a m1 => ∃ L M x y,L ≠ M ∧ a = .own L 0 N 1 ∧ look m1 L = some x ∧ look m1 M = some y ∧ alike ⟨N,1,tp,fun j => [.ptr M j 0 sz 0],none⟩ (x 0) ∧ ∀ i,i < N → alike ⟨1,sz,ty,fun _ => get i,none⟩ (y i)
def sigT (L M N:Nat) (f:Nat):Option (Nat × Nat):=match f with
 | 0 => some (L,0)
 | f + 1 => if f < N then some (M,f) else none
def thT (L:Nat) (r f:Nat):Nat:=if r = L then 0 else f + 1
theorem MConOK.mcL2 (hG:CtxOK P G) (hf:P.funcs[f]? = some fn) {sz:Nat} {tp ty:TypeId} {F:List AV → Option (List Prop × Nat × (Nat → List AV))} (h:LayOK2 P G H fn sz tp ty F):MConOK P f (Ax.mcL sz tp ty F):=by
 refine MConOK.of (H:=H) hG hf fun key m es e hc hob => ?_
 unfold Ax.mcL at hc
 split at hc
 ·rename_i ob N get hF
  cases hc
  obtain ⟨h1,h2,h3,h4⟩:=h _ _ _ _ hF fun p hp => hob p hp
  obtain ⟨a1,a2⟩:=cleans_ren (θ:=thE []) (g:=lowG 0) (B:=lowB 0) h1
  refine ⟨[],[],es,⟨by simp,a1.symm,a2,fun j hj => by simp at hj,fun q x hq => by simp [look] at hq⟩,h3,h4.mono fun a m1 ⟨L,M,x,y,q0,q1,q2,q3,q4,q5⟩ => ?_⟩
  have g0:∀ B:Nat,newG B (sigT L M N) (thT L) L 0:=fun B => .inr (by unfold thT sigT; rw [if_pos rfl])
  have gM:∀ B j:Nat,j < N → newG B (sigT L M N) (thT L) M j:=fun B j hj => .inr (by unfold thT; rw [if_neg (Ne.symm q0)]; unfold sigT; exact if_pos hj)
  refine ⟨sigT L M N,thT L,[],some _,rfl,⟨fun f r g h => ?_,?_,?_,rfl,fun j hj => by simp at hj,fun f => ?_⟩⟩
  ·cases f with
   | zero => cases h; exact ⟨Nat.zero_le _,if_pos rfl⟩
   | succ f =>
    unfold sigT at h
    dsimp only at h
    split at h
    ·cases h; exact ⟨Nat.zero_le _,if_neg (Ne.symm q0)⟩
    ·cases h
  ·rw [q1]
   show AV.own key 0 N 1 = .own (thL [] key (thT L) L 0).1 (thL [] key (thT L) L 0).2 N 1
   unfold thL thT
   simp
  ·rw [q1]; exact g0 _
  ·cases f with
   | zero =>
    refine ⟨_,q2,?_,by rw [q4.2.2.2.1]; simp⟩
    obtain ⟨k1,k2,k3,k4,k5⟩:=q4
    refine ⟨k1.symm,k2.symm,k3.symm,k4.symm,fun j hj => ?_⟩
    rw [k1] at hj
    rw [k5 j hj]
    refine ⟨?_,fun c hc => ?_⟩
    ·show [AV.ptr key (j + 1) 0 sz 0] = [AV.ptr (thL [] key (thT L) M j).1 (thL [] key (thT L) M j).2 0 sz 0]
     unfold thL thT
     simp [Ne.symm q0]
    ·rw [List.mem_singleton] at hc
     rw [hc]; exact gM _ j hj
   | succ f =>
    by_cases hf:f < N
    ·have e:sigT L M N (f + 1) = some (M,f):=if_pos hf
     rw [e]
     obtain ⟨k1,k2,k3,k4,k5⟩:=q5 f hf
     refine ⟨_,q3,?_,by rw [k4]; simp⟩
     refine rowRen_clean' ⟨?_,k2.symm,k3.symm,k4.symm,fun j hj => ?_⟩ fun j hj c hcm => ?_
     ·simp only [famT,if_pos hf]; exact k1.symm
     ·rw [k1] at hj
      have hj:j < 1:=hj
      have:j = 0:=by omega
      subst this
      rw [k5 0 Nat.zero_lt_one]; rfl
     ·rw [k1] at hj
      have hj:j < 1:=hj
      have:j = 0:=by omega
      subst this
      rw [k5 0 Nat.zero_lt_one] at hcm
      exact cleanCs_mem (h2 f hf) c hcm
    ·have e:sigT L M N (f + 1) = none:=if_neg hf
     rw [e]
     show (if f < N then 1 else 0) = 0
     exact if_neg hf
 ·cases hc
def mcV (sz:Nat) (ty:TypeId) (F:List AV → Option (List Prop × Nat × (Nat → List AV))):MCon:=fun key m es => match F es with
 | some (ob,N,get) => some ⟨ob,.own key 0 N sz,.many [] (some (famN N sz ty get none))⟩
 | none => none
def VecOK (P:Program) (G:Ctx) (H:Hots) (fn:Func) (sz:Nat) (ty:TypeId) (F:List AV → Option (List Prop × Nat × (Nat → List AV))):Prop:=
 ∀ es ob N get,F es = some (ob,N,get) → (∀ p ∈ ob,p) → (∀ a ∈ es,clean 3 a = true) ∧ (∀ i,i < N → cleanCs (get i) = true) ∧ funcOK P H fn es.length = true ∧
  bodyM P G H fn es [] 0 fun a m1 => ∃ L,a = .own L 0 N sz ∧ look m1 L = some (famN N sz ty get none)
theorem MConOK.mcV (hG:CtxOK P G) (hf:P.funcs[f]? = some fn) {sz:Nat} {ty:TypeId} {F:List AV → Option (List Prop × Nat × (Nat → List AV))} (h:VecOK P G H fn sz ty F):MConOK P f (Ax.mcV sz ty F):=by
 refine MConOK.of (H:=H) hG hf fun key m es e hc hob => ?_
 unfold Ax.mcV at hc
 split at hc
 ·rename_i ob N get hF
  cases hc
  obtain ⟨h1,h2,h3,h4⟩:=h _ _ _ _ hF fun p hp => hob p hp
  obtain ⟨a1,a2⟩:=cleans_ren (θ:=thE []) (g:=lowG 0) (B:=lowB 0) h1
  refine ⟨[],[],es,⟨by simp,a1.symm,a2,fun j hj => by simp at hj,fun q x hq => by simp [look] at hq⟩,h3,h4.mono fun a m1 ⟨L,q1,q2⟩ => ?_⟩
  refine ⟨whole L,idTh,[],some _,rfl,⟨fun f r g h => ?_,?_,?_,rfl,fun j hj => by simp at hj,fun f => ?_⟩⟩
  ·cases h; exact ⟨Nat.zero_le _,rfl⟩
  ·rw [q1]; rfl
  ·rw [q1]; exact .inr rfl
  ·exact ⟨_,q2,rowRen_cl (famCl_N h2) f,by rw [(famCl_N h2 f).1]; simp⟩
 ·cases hc
section
variable {sz sz2 K N C:Nat} {tp ty:TypeId} {m:Mem} {rest:List AV} {get get':Nat → List AV} {ob:List Prop} {val:AV} {fam famC:Fam} {cs cs':List AV}
def mcTf (K N sz:Nat) (tp ty:TypeId) (fam:Fam):Option (List Prop × AV × (Nat → List AV)) → Option Eff
 | some (ob,val,get') => some ⟨tabOK K N sz tp ty fam :: ob,val,.many [(K,famT K N sz tp ty get')] none⟩
 | none => none
def mcTe (sz:Nat) (tp ty:TypeId) (F:Nat → (Nat → List AV) → List AV → Option (List Prop × AV × (Nat → List AV))) (K N:Nat) (rest:List AV):Option Fam → Option Eff
 | some fam => mcTf K N sz tp ty fam (F N (fun i => (fam (i + 1)).get 0) rest)
 | none => none
theorem mcT_eq {F:Nat → (Nat → List AV) → List AV → Option (List Prop × AV × (Nat → List AV))}:Ax.mcT sz tp ty F key m (.own K 0 N 1 :: rest) = mcTe sz tp ty F K N rest (look m K):=by
 show (match look m K with
  | some fam => (match F N (fun i => (fam (i + 1)).get 0) rest with
   | some (ob,val,get') => some (⟨tabOK K N sz tp ty fam :: ob,val,.many [(K,famT K N sz tp ty get')] none⟩:Eff)
   | none => none)
  | none => none) = _
 unfold mcTe
 cases look m K with
 | none => rfl
 | some fam =>
  dsimp only
  unfold mcTf
  cases F N (fun i => (fam (i + 1)).get 0) rest <;> rfl
theorem mcTe_T {F:Nat → (Nat → List AV) → List AV → Option (List Prop × AV × (Nat → List AV))}:mcTe sz tp ty F K N rest (some (famT K N sz tp ty get)) = mcTf K N sz tp ty (famT K N sz tp ty get) (F N get rest):=(rfl)
theorem mcTf_some:mcTf K N sz tp ty fam (some (ob,val,get')) = some ⟨tabOK K N sz tp ty fam :: ob,val,.many [(K,famT K N sz tp ty get')] none⟩:=(rfl)
def mcQf (K N C sz sz2:Nat) (tp ty:TypeId) (fam famC:Fam):Option (List Prop × AV × (Nat → List AV) × List AV) → Option Eff
 | some (ob,val,get',cs') => some ⟨(K ≠ C) :: ((famC 0).n = 1) :: (sz2 = (famC 0).sz) :: (cleanCs ((famC 0).get 0) = true) :: famCl famC :: tabOK K N sz tp ty fam :: ob,val,.many [(K,famT K N sz tp ty get'),(C,wb1 famC cs')] none⟩
 | none => none
def mcQe (sz sz2:Nat) (tp ty:TypeId) (F:Nat → (Nat → List AV) → List AV → List AV → Option (List Prop × AV × (Nat → List AV) × List AV)) (K N C:Nat) (rest:List AV):Option Fam → Option Fam → Option Eff
 | some fam,some famC => mcQf K N C sz sz2 tp ty fam famC (F N (fun i => (fam (i + 1)).get 0) ((famC 0).get 0) rest)
 | _,_ => none
theorem mcTQ_bx {F:Nat → (Nat → List AV) → List AV → List AV → Option (List Prop × AV × (Nat → List AV) × List AV)}:Ax.mcTQ sz sz2 tp ty F key m (.own K 0 N 1 :: .bx C 0 :: rest) = mcQe sz sz2 tp ty F K N C rest (look m K) (look m C):=by
 show (match look m K with
  | some fam => (match look m C with
   | some famC => (match F N (fun i => (fam (i + 1)).get 0) ((famC 0).get 0) rest with
    | some (ob,val,get',cs') => some (⟨(K ≠ C) :: ((famC 0).n = 1) :: (sz2 = (famC 0).sz) :: (cleanCs ((famC 0).get 0) = true) :: famCl famC :: tabOK K N sz tp ty fam :: ob,val,.many [(K,famT K N sz tp ty get'),(C,wb1 famC cs')] none⟩:Eff)
    | none => none)
   | none => none)
  | none => none) = _
 unfold mcQe
 cases look m K with
 | none => rfl
 | some fam =>
  dsimp only
  cases look m C with
  | none => rfl
  | some famC =>
   dsimp only
   unfold mcQf
   cases F N (fun i => (fam (i + 1)).get 0) ((famC 0).get 0) rest <;> rfl
theorem mcQe_T {F:Nat → (Nat → List AV) → List AV → List AV → Option (List Prop × AV × (Nat → List AV) × List AV)}:mcQe sz sz2 tp ty F K N C rest (some (famT K N sz tp ty get)) (some famC) = mcQf K N C sz sz2 tp ty (famT K N sz tp ty get) famC (F N get ((famC 0).get 0) rest):=(rfl)
theorem mcQf_some:mcQf K N C sz sz2 tp ty fam famC (some (ob,val,get',cs')) = some ⟨(K ≠ C) :: ((famC 0).n = 1) :: (sz2 = (famC 0).sz) :: (cleanCs ((famC 0).get 0) = true) :: famCl famC :: tabOK K N sz tp ty fam :: ob,val,.many [(K,famT K N sz tp ty get'),(C,wb1 famC cs')] none⟩:=(rfl)
def mcRf (K N C f i s2 sz sz2:Nat) (tp ty:TypeId) (fam famC:Fam):Option (List Prop × AV × (Nat → List AV) × List AV) → Option Eff
 | some (ob,val,get',cs') => some ⟨(K ≠ C) :: (s2 = sz2) :: (i < (famC f).n) :: (sz2 = (famC f).sz) :: (cleanCs ((famC f).get i) = true) :: famCl famC :: tabOK K N sz tp ty fam :: ob,val,.many [(K,famT K N sz tp ty get'),(C,famE famC f i cs')] none⟩
 | none => none
def mcRe (sz sz2:Nat) (tp ty:TypeId) (F:Nat → (Nat → List AV) → List AV → List AV → Option (List Prop × AV × (Nat → List AV) × List AV)) (K N C f i s2:Nat) (rest:List AV):Option Fam → Option Fam → Option Eff
 | some fam,some famC => mcRf K N C f i s2 sz sz2 tp ty fam famC (F N (fun i => (fam (i + 1)).get 0) ((famC f).get i) rest)
 | _,_ => none
theorem mcTQ_ptr {F:Nat → (Nat → List AV) → List AV → List AV → Option (List Prop × AV × (Nat → List AV) × List AV)} {f i s2:Nat}:Ax.mcTQ sz sz2 tp ty F key m (.own K 0 N 1 :: .ptr C f i s2 0 :: rest) = mcRe sz sz2 tp ty F K N C f i s2 rest (look m K) (look m C):=by
 show (match look m K with
  | some fam => (match look m C with
   | some famC => (match F N (fun i => (fam (i + 1)).get 0) ((famC f).get i) rest with
    | some (ob,val,get',cs') => some (⟨(K ≠ C) :: (s2 = sz2) :: (i < (famC f).n) :: (sz2 = (famC f).sz) :: (cleanCs ((famC f).get i) = true) :: famCl famC :: tabOK K N sz tp ty fam :: ob,val,.many [(K,famT K N sz tp ty get'),(C,famE famC f i cs')] none⟩:Eff)
    | none => none)
   | none => none)
  | none => none) = _
 unfold mcRe
 cases look m K with
 | none => rfl
 | some fam =>
  dsimp only
  cases look m C with
  | none => rfl
  | some famC =>
   dsimp only
   unfold mcRf
   cases F N (fun i => (fam (i + 1)).get 0) ((famC f).get i) rest <;> rfl
theorem mcRe_T {F:Nat → (Nat → List AV) → List AV → List AV → Option (List Prop × AV × (Nat → List AV) × List AV)} {f i s2:Nat}:mcRe sz sz2 tp ty F K N C f i s2 rest (some (famT K N sz tp ty get)) (some famC) = mcRf K N C f i s2 sz sz2 tp ty (famT K N sz tp ty get) famC (F N get ((famC f).get i) rest):=(rfl)
theorem mcRf_some {f i s2:Nat}:mcRf K N C f i s2 sz sz2 tp ty fam famC (some (ob,val,get',cs')) = some ⟨(K ≠ C) :: (s2 = sz2) :: (i < (famC f).n) :: (sz2 = (famC f).sz) :: (cleanCs ((famC f).get i) = true) :: famCl famC :: tabOK K N sz tp ty fam :: ob,val,.many [(K,famT K N sz tp ty get'),(C,famE famC f i cs')] none⟩:=(rfl)
def mcPf (r r' f i s1 f' i' s2 sz:Nat) (fam:Fam):Option (List Prop × AV × List AV × List AV) → Option Eff
 | some (ob,val,cs,cs') => some ⟨(r' = r) :: (f ≠ f') :: (i < (fam f).n) :: (i' < (fam f').n) :: (s1 = sz) :: (s2 = sz) :: (sz = (fam f).sz) :: (sz = (fam f').sz) :: (cleanCs ((fam f).get i) = true) :: (cleanCs ((fam f').get i') = true) :: famOK r fam :: ob,val,.many [(r,famE (famE fam f i cs) f' i' cs')] none⟩
 | none => none
def mcPe (sz:Nat) (F:List AV → List AV → List AV → Option (List Prop × AV × List AV × List AV)) (r r' f i s1 f' i' s2:Nat) (rest:List AV):Option Fam → Option Eff
 | some fam => mcPf r r' f i s1 f' i' s2 sz fam (F ((fam f).get i) ((fam f').get i') rest)
 | none => none
theorem mcPP_eq {F:List AV → List AV → List AV → Option (List Prop × AV × List AV × List AV)} {r r' f i s1 f' i' s2:Nat}:Ax.mcPP sz F key m (.ptr r f i s1 0 :: .ptr r' f' i' s2 0 :: rest) = mcPe sz F r r' f i s1 f' i' s2 rest (look m r):=by
 show (match look m r with
  | some fam => (match F ((fam f).get i) ((fam f').get i') rest with
   | some (ob,val,cs,cs') => some (⟨(r' = r) :: (f ≠ f') :: (i < (fam f).n) :: (i' < (fam f').n) :: (s1 = sz) :: (s2 = sz) :: (sz = (fam f).sz) :: (sz = (fam f').sz) :: (cleanCs ((fam f).get i) = true) :: (cleanCs ((fam f').get i') = true) :: famOK r fam :: ob,val,.many [(r,famE (famE fam f i cs) f' i' cs')] none⟩:Eff)
   | none => none)
  | none => none) = _
 unfold mcPe
 cases look m r with
 | none => rfl
 | some fam =>
  dsimp only
  unfold mcPf
  cases F ((fam f).get i) ((fam f').get i') rest <;> rfl
theorem mcPe_some {F:List AV → List AV → List AV → Option (List Prop × AV × List AV × List AV)} {r r' f i s1 f' i' s2:Nat}:mcPe sz F r r' f i s1 f' i' s2 rest (some fam) = mcPf r r' f i s1 f' i' s2 sz fam (F ((fam f).get i) ((fam f').get i') rest):=(rfl)
theorem mcPf_some {r r' f i s1 f' i' s2:Nat}:mcPf r r' f i s1 f' i' s2 sz fam (some (ob,val,cs,cs')) = some ⟨(r' = r) :: (f ≠ f') :: (i < (fam f).n) :: (i' < (fam f').n) :: (s1 = sz) :: (s2 = sz) :: (sz = (fam f).sz) :: (sz = (fam f').sz) :: (cleanCs ((fam f).get i) = true) :: (cleanCs ((fam f').get i') = true) :: famOK r fam :: ob,val,.many [(r,famE (famE fam f i cs) f' i' cs')] none⟩:=(rfl)
def mcSf (r N s sz:Nat) (ty:TypeId) (fam:Fam):Option (List Prop × AV × (Nat → List AV)) → Option Eff
 | some (ob,val,get') => some ⟨(s = sz) :: (fam = famN N sz ty (fam 0).get none) :: (∀ i,i < N → cleanCs ((fam 0).get i) = true) :: ob,val,.many [(r,famN N sz ty get' none)] none⟩
 | none => none
def mcSe (sz:Nat) (ty:TypeId) (F:Nat → (Nat → List AV) → List AV → Option (List Prop × AV × (Nat → List AV))) (r N s:Nat) (rest:List AV):Option Fam → Option Eff
 | some fam => mcSf r N s sz ty fam (F N (fam 0).get rest)
 | none => none
theorem mcS_eq {F:Nat → (Nat → List AV) → List AV → Option (List Prop × AV × (Nat → List AV))} {r s:Nat}:Ax.mcS sz ty F key m (.own r 0 N s :: rest) = mcSe sz ty F r N s rest (look m r):=by
 show (match look m r with
  | some fam => (match F N (fam 0).get rest with
   | some (ob,val,get') => some (⟨(s = sz) :: (fam = famN N sz ty (fam 0).get none) :: (∀ i,i < N → cleanCs ((fam 0).get i) = true) :: ob,val,.many [(r,famN N sz ty get' none)] none⟩:Eff)
   | none => none)
  | none => none) = _
 unfold mcSe
 cases look m r with
 | none => rfl
 | some fam =>
  dsimp only
  unfold mcSf
  cases F N (fam 0).get rest <;> rfl
theorem mcSe_some {F:Nat → (Nat → List AV) → List AV → Option (List Prop × AV × (Nat → List AV))} {r s:Nat}:mcSe sz ty F r N s rest (some (famN N sz ty get none)) = mcSf r N s sz ty (famN N sz ty get none) (F N get rest):=(rfl)
theorem mcSf_some {r s:Nat}:mcSf r N s sz ty (famN N sz ty get none) (some (ob,val,get')) = some ⟨(s = sz) :: (famN N sz ty get none = famN N sz ty get none) :: (∀ i,i < N → cleanCs (get i) = true) :: ob,val,.many [(r,famN N sz ty get' none)] none⟩:=(rfl)
def mc2e (K N sz:Nat) (tp ty:TypeId) (a b:Int):Option Fam → Option Eff
 | some fam => some ⟨[tabOK K N sz tp ty fam,N ≤ 1000],if 0 ≤ a ∧ a < N ∧ 0 ≤ b ∧ b < N ∧ a ≠ b then .tup [.ptr K (a.toNat + 1) 0 sz 0,.ptr K (b.toNat + 1) 0 sz 0,.v (.bool true)] else .tup [.v (.pointer none),.v (.pointer none),.v (.bool false)],.many [(K,fam)] none⟩
 | none => none
theorem mc2P_eq {a b:Int}:Ax.mc2P sz tp ty key m [.own K 0 N 1,.v (.int .i64 a),.v (.int .i64 b)] = mc2e K N sz tp ty a b (look m K):=by
 show (match look m K with
  | some fam => some (⟨[tabOK K N sz tp ty fam,N ≤ 1000],if 0 ≤ a ∧ a < N ∧ 0 ≤ b ∧ b < N ∧ a ≠ b then .tup [.ptr K (a.toNat + 1) 0 sz 0,.ptr K (b.toNat + 1) 0 sz 0,.v (.bool true)] else .tup [.v (.pointer none),.v (.pointer none),.v (.bool false)],.many [(K,fam)] none⟩:Eff)
  | none => none) = _
 unfold mc2e
 cases look m K <;> rfl
theorem mc2e_some {a b:Int}:mc2e K N sz tp ty a b (some fam) = some ⟨[tabOK K N sz tp ty fam,N ≤ 1000],if 0 ≤ a ∧ a < N ∧ 0 ≤ b ∧ b < N ∧ a ≠ b then .tup [.ptr K (a.toNat + 1) 0 sz 0,.ptr K (b.toNat + 1) 0 sz 0,.v (.bool true)] else .tup [.v (.pointer none),.v (.pointer none),.v (.bool false)],.many [(K,fam)] none⟩:=(rfl)
theorem famCl_1t (h:cleanCs cs = true):famCl (fam1 ty sz cs none) = True:=eq_true (famCl_1 h)
theorem famCl_Nt {n:Nat} (h:∀ i,i < n → cleanCs (get i) = true):famCl (famN n sz ty get none) = True:=eq_true (famCl_N h)
end
attribute [go_sem] mcT_eq mcTe_T mcTf_some mcTQ_bx mcTQ_ptr mcQe_T mcQf_some mcRe_T mcRf_some mcPP_eq mcPe_some mcPf_some mcS_eq mcSe_some mcSf_some mc2P_eq mc2e_some famCl_1t famCl_Nt
end
end Go.Ax
end
section
set_option maxHeartbeats 4000000
set_option maxRecDepth 100000
namespace Go.Ax
open Go.Proofs Go.Proofs.Tryz
section
variable {P:Program} {G:Ctx} {H:Hots} {K0:AEx → St → Prop} {hot:Option Hot} {ops:Array Oper} {d:Option Tmp} {rest:List Oper} {i k:Nat} {st:List Fr} {t:Slots} {m:Mem} {nx:Nat} {o:List Prop} {u:Upd} {b:Bd} {c:Bool}
theorem ofC_body:ofC (some (true,27)) (bodyC b) = some (.agg (bodyC b)):=(rfl)
theorem cells_body:cellsOf (.agg (bodyC b)) = some (bodyC b):=(rfl)
theorem drop_body:(bodyC b).drop 27 = []:=(rfl)
theorem drop5_body:(bodyC b).drop 5 = [i64 b.pl.1.1,bo b.pl.1.2,i64 b.pl.2.1,bo b.pl.2.2,i64 b.rot.1.1,bo b.rot.1.2,i64 b.rot.2.1,bo b.rot.2.2,i64 b.v.1.1,bo b.v.1.2,i64 b.v.2.1,bo b.v.2.2,i64 b.w.1,bo b.w.2,i64 b.m.1,bo b.m.2,i64 b.i.1,bo b.i.2,i64 b.st,bo b.sl,bo b.fa,i64 b.ve]:=(rfl)
theorem drop19_body:(bodyC b).drop 19 = [i64 b.m.1,bo b.m.2,i64 b.i.1,bo b.i.2,i64 b.st,bo b.sl,bo b.fa,i64 b.ve]:=(rfl)
theorem drop21_body:(bodyC b).drop 21 = [i64 b.i.1,bo b.i.2,i64 b.st,bo b.sl,bo b.fa,i64 b.ve]:=(rfl)
theorem take_body:(bodyC b).take 27 = bodyC b:=(rfl)
theorem cleanCs_body:cleanCs (bodyC b) = true:=(rfl)
theorem allCells_body:allCells (bodyC b) = true:=(rfl)
theorem purUL_body:purUL 2 m (bodyC b) = bodyC b:=(rfl)
theorem pgsL_body:pgsL 2 m (bodyC b) = []:=(rfl)
theorem purL_body:(bodyC b).map (pur 2 m) = bodyC b:=(rfl)
theorem cleanL_body:cleanL 2 (bodyC b) = true:=(rfl)
theorem purLd_body {d:Nat}:purL d m (bodyC b) = bodyC b:=by cases d <;> rfl
theorem bindL_body:bindL P G H K0 hot ops d rest i st t m nx o u false [] (bodyC b) = bindC P G H K0 hot ops d rest i st t m nx o u (.agg (bodyC b)):=by
 unfold bindL; simp
end
attribute [go_sem] purLd_body drop5_body drop19_body drop21_body cleanL_body ofC_body cells_body drop_body take_body cleanCs_body allCells_body purUL_body pgsL_body purL_body bindL_body len_body clean_body bodyD_C
theorem tmpE_ptr {r f i sz k:Nat}:tmpE (.ptr r f i sz k) = some ⟨[],.ptr r f i sz k,.none⟩:=(rfl)
attribute [go_sem] tmpE_ptr
theorem iHft {b:Bd} {x n:V2}:inR (hftS b x n).1 = True:=iAdd
theorem iSpd1 {b:Bd} {x:V2}:inR (spdS b x).1.1 = True:=iVAdd1
theorem iSpd2 {b:Bd} {x:V2}:inR (spdS b x).2.1 = True:=iVAdd2
attribute [go_sem] iHft iSpd1 iSpd2
def bsC (B:Nat → Bd):Nat → List AV:=fun i => bodyC (B i)
def bsD (g:Nat → List AV):Nat → Bd:=fun i => bodyD (g i)
theorem bsD_C {B:Nat → Bd}:bsD (bsC B) = B:=rfl
theorem bsC_at {B:Nat → Bd} {i:Nat}:bsC B i = bodyC (B i):=(rfl)
def inBs (N:Nat) (B:Nat → Bd):Prop:=∀ i,i < N → inB (B i) ∧ (B i).n ≤ 1000
def cL (F:Nat → (Nat → Bd) → List AV → Option (List Prop × AV)):Con
 | .ro N 27 g :: rest => match F N (bsD g) rest with
  | some (ob,r) => some ((g = bsC (bsD g)) :: ob,r)
  | none => none
 | _ => none
theorem cL_eq {F:Nat → (Nat → Bd) → List AV → Option (List Prop × AV)} {N:Nat} {g:Nat → List AV} {rest:List AV}:cL F (.ro N 27 g :: rest) = (match F N (bsD g) rest with
  | some (ob,r) => some ((g = bsC (bsD g)) :: ob,r)
  | none => none):=(rfl)
theorem ConOK.cL {P:Program} {G:Ctx} {H:Hots} (hG:CtxOK P G) {f:FuncId} {fn:Func} (hf:P.funcs[f]? = some fn) {F:Nat → (Nat → Bd) → List AV → Option (List Prop × AV)}
  (h:∀ N B rest ob r,F N B rest = some (ob,r) → (∀ p ∈ ob,p) → funcOK P H fn (rest.length + 1) = true ∧ fnVC P G H fn (.ro N 27 (bsC B) :: rest) (· = r)):ConOK P f (Ax.cL F):=ConOK.of hG hf fun l ob r hc hob => by
 unfold Ax.cL at hc
 split at hc
 ·rename_i N g rest
  split at hc
  ·rename_i ob' r' hF
   cases hc
   have e:g = bsC (bsD g):=hob _ (by simp)
   obtain ⟨h1,h2⟩:=h _ _ _ _ _ hF fun p hp => hob p (by simp [hp])
   rw [← e] at h2
   exact ⟨h1,h2⟩
  ·cases hc
 ·cases hc
def layF:List AV → Option (List Prop × Nat × (Nat → List AV))
 | [.ro N 27 g] => some ([N ≤ 1000,g = bsC (bsD g),inBs N (bsD g)],N,g)
 | _ => none
def mNlay:MCon:=mcL 27 92 96 layF
theorem mNlay_eq {key:Nat} {m:Mem} {N:Nat} {g:Nat → List AV}:mNlay key m [.ro N 27 g] = some ⟨[N ≤ 1000,g = bsC (bsD g),inBs N (bsD g)],.own key 0 N 1,.many [] (some (famT key N 27 92 96 g))⟩:=(rfl)
def famP (M N i:Nat):Fam:=famN N 1 92 (fun j => if j < i then [.ptr M j 0 27 0] else [.v (.pointer none)]) none
def famL (B:Nat → Bd) (i:Nat):Fam:=fun f => ⟨if f < i then 1 else 0,27,96,fun j => if j = 0 then bodyC (B f) else [],none⟩
theorem fitLA_body {N M:Nat} {θ:Alias} {b:Bd}:fitLA N M θ (bodyC b) (bodyC b):=by
 simp [fitLA,bodyC,fit1A,kb]
def thI (K Q i:Nat):Alias:=fun r f => if r = K then (if f < i then some (K,f) else if f = i then some (Q,0) else none) else some (r,f)
def th0 (K:Nat):Alias:=fun r f => if r = K then none else some (r,f)
theorem goodA_0 {K L:Nat} {x y:Fam} (hL:L < K):goodA K 1 (th0 K) [(K,x),(L,y)] []:=by
 refine ⟨fun r f hr => if_neg (by omega),fun e he => ?_,fun r f r' f' q g hr hr' h h' => ?_⟩
 ·simp only [List.mem_cons,List.not_mem_nil,or_false] at he
  rcases he with e | e <;> rw [e] <;> dsimp only <;> omega
 ·unfold th0 at h h'
  split at h
  ·cases h
  ·split at h'
   ·cases h'
   ·cases h; cases h'; exact ⟨rfl,rfl⟩
theorem goodA_I {K L Q i:Nat} {x y:Fam} (hL:L < K) (hQ:K < Q):goodA K 1 (thI K Q i) [(K,x),(L,y)] []:=by
 refine ⟨fun r f hr => if_neg (by omega),fun e he => ?_,fun r f r' f' q g hr hr' h h' => ?_⟩
 ·simp only [List.mem_cons,List.not_mem_nil,or_false] at he
  rcases he with e | e <;> rw [e] <;> dsimp only <;> omega
 ·simp only [List.map_cons,List.map_nil,List.mem_cons,List.not_mem_nil,or_false] at hr hr'
  unfold thI at h h'
  rcases hr with e | e <;> rcases hr' with e' | e' <;> subst e <;> subst e'
  ·rw [if_pos rfl] at h h'
   refine ⟨rfl,?_⟩
   (repeat' split at h) <;> (repeat' split at h') <;> simp_all
   all_goals omega
  ·rw [if_pos rfl] at h
   rw [if_neg (by omega)] at h'
   cases h'
   (repeat' split at h) <;> simp_all
   all_goals omega
  ·rw [if_pos rfl] at h'
   rw [if_neg (by omega)] at h
   cases h
   (repeat' split at h') <;> simp_all
   all_goals omega
  ·rw [if_neg (by omega)] at h h'
   cases h; cases h'; exact ⟨rfl,rfl⟩
theorem con56m:MConOK prog 56 mNlay:=MConOK.mcL2 (G:=[(41,.wr mNon)]) (H:=[]) (.mcons con41m .nil) func56 fun es ob N get hF hob => by
 unfold layF at hF
 split at hF
 ·cases hF
  have hN:N ≤ 1000:=hob _ (by simp)
  have e:get = bsC (bsD get):=hob _ (by simp)
  have hB:inBs N (bsD get):=hob _ (by simp)
  generalize bsD get = B at *
  subst e
  refine ⟨by simp [clean],fun i _ => rfl,by kernel_rfl,bodyM_go (rs:=[.tmp 2]) rfl rfl ?_⟩
  simp only [go_sem,bsC_at]
  have hby:bytesT prog 92 = 8:=by kernel_rfl
  rw [hby]
  refine ⟨by omega,by omega,by omega,?_⟩
  refine loopA_go (fun (i:Nat) => i ≤ N) (fun i => N - i) (fun i => [(11,i64 (i:Int))]) (fun i => [(8,famL B i),(3,famP 8 N i)]) [] [12,13,14,15,5,4,16,17,18,19,20,21,11] 1 0 (by kernel_rfl) (Nat.zero_le _) ⟨th0 8,?_,?_,trivial,goodA_0 (by omega)⟩ ?_
  ·simp [fitSlotsA,fit1A,kb,slot]
  ·refine ⟨fun f => ⟨rfl,rfl⟩,fun f => ⟨_,rfl,?_⟩,trivial⟩
   unfold famP famN
   split
   ·refine ⟨rfl,rfl,rfl,rfl,rfl,fun j _ => ?_⟩
    simp [fitLA,fit1A,kb]
   ·exact ⟨rfl,rfl,rfl,rfl,rfl,fun j hj => absurd hj (Nat.not_lt_zero j)⟩
  intro i hi
  simp only [go_sem,famP,bsC_at,mNon_eq]
  refine ⟨fun h => ?_,fun h => ?_⟩
  ·have hi':i < N:=by omega
   refine ⟨by omega,h,(hB i hi').1,(hB i hi').2,by omega,h,hi',fun z hz => ⟨i + 1,by omega,by omega,thI 8 19 i,?_,?_,goodA_I (by omega) (by omega)⟩⟩
   ·have e:z = ((i + 1:Nat):Int):=by rw [hz,wrap_in (inRo (by omega))]; rfl
    subst e
    simp [fitSlotsA,fit1A,kb,slot]
   ·refine ⟨fun f => ?_,fun f => ?_,trivial⟩
    ·unfold thI
     rw [if_pos rfl]
     by_cases h1:f < i
     ·rw [if_pos h1]
      refine ⟨_,rfl,?_⟩
      unfold famL
      refine ⟨by simp [h1]; omega,rfl,rfl,rfl,rfl,fun j hj => ?_⟩
      have:j = 0:=by simp only at hj; split at hj <;> omega
      subst this
      exact fitLA_body
     ·rw [if_neg h1]
      by_cases h2:f = i
      ·subst h2
       rw [if_pos rfl]
       refine ⟨_,rfl,?_⟩
       unfold famL fam1
       refine ⟨by simp,rfl,rfl,rfl,rfl,fun j hj => ?_⟩
       have:j = 0:=by simp only at hj; split at hj <;> omega
       subst this
       exact fitLA_body
      ·rw [if_neg h2]
       exact ⟨if_neg (by omega),rfl⟩
    ·unfold thI
     rw [if_neg (by omega)]
     refine ⟨_,rfl,?_⟩
     unfold famN
     split
     ·refine ⟨rfl,rfl,rfl,rfl,rfl,fun j _ => ?_⟩
      dsimp only
      by_cases h1:j = i
      ·subst h1
       simp [fitLA,fit1A]
      ·by_cases h2:j < i
       ·rw [if_pos (by omega),if_neg h1,if_pos h2]
        simp [fitLA,fit1A,h2]
       ·rw [if_neg (by omega),if_neg h1,if_neg h2]
        simp [fitLA,fit1A,kb]
     ·exact ⟨rfl,rfl,rfl,rfl,rfl,fun j hj => absurd hj (Nat.not_lt_zero j)⟩
  ·have e:i = N:=by omega
   subst e
   refine ⟨3,8,_,_,by omega,rfl,rfl,rfl,⟨rfl,rfl,rfl,rfl,fun j hj => ?_⟩,fun j hj => ⟨if_pos hj,rfl,rfl,rfl,fun q hq => ?_⟩⟩
   ·show (if j < i then _ else _) = _
    exact if_pos hj
   ·have hq:q < 1:=hq
    show (if q = 0 then _ else _) = _
    exact if_pos (by omega)
 ·cases hF
theorem ofC_len {l:List AV} (h:l.length = 27):ofC (some (true,27)) l = some (.agg l):=by
 rw [ofC_agg,if_pos (by omega),← h,List.take_length]
theorem fitL_clean {N M:Nat} {σ:Names}:∀ {l:List AV},cleanCs l = true → fitL N M σ l l
 | [],_ => trivial
 | a :: l,h => by
  simp only [cleanCs,Bool.and_eq_true] at h
  refine ⟨?_,fitL_clean h.2⟩
  have h1:=h.1
  cases a <;> first | exact ⟨rfl,trivial⟩ | trivial | simp [cleanC] at h1
def mNtel:MCon:=mcTR 27 92 96 40
theorem con75L:MConOK prog 61 (mcTL 27 92 96 40):=MConOK.mcTL (G:=[]) (H:=[]) .nil func61 fun N get hN hcl hlen => by
 refine ⟨by kernel_rfl,bodyM_go (rs:=[.tmp 2]) rfl rfl ?_⟩
 simp only [go_sem]
 have hby:bytesT prog 40 = 224:=by kernel_rfl
 rw [hby]
 refine ⟨by omega,by omega,by omega,?_⟩
 refine loopC_go (fun (i:Nat) => i ≤ N) (fun i => N - i) (fun i => [(11,i64 (i:Int))]) (fun i => [(4,famN N 27 40 (fun j => if j < i then get j else [.v (.int .i64 0),.v (.int .i64 0),.v (.int .i64 0),.v (.int .i64 0),.v (.slice none 0 0),.v (.int .i64 0),.v (.bool false),.v (.int .i64 0),.v (.bool false),.v (.int .i64 0),.v (.bool false),.v (.int .i64 0),.v (.bool false),.v (.int .i64 0),.v (.bool false),.v (.int .i64 0),.v (.bool false),.v (.int .i64 0),.v (.bool false),.v (.int .i64 0),.v (.bool false),.v (.int .i64 0),.v (.bool false),.v (.int .i64 0),.v (.bool false),.v (.bool false),.v (.int .i64 0)]) none)]) [0] [12,13,14,15,4,5,16,17,18,19,20,21,22,23,11] 0 (by kernel_rfl) ?_ (Nat.zero_le _) ?_ ?_
 ·intro x _; simp [goodNames,asg]
 ·simp only [go_sem,Nat.not_lt_zero,if_false,implies_true]
 intro i hi
 by_cases hiN:i < N
 ·obtain ⟨hl,ha⟩:=hlen i hiN
  have hl27:(get i).drop 27 = []:=by rw [List.drop_eq_nil_iff]; omega
  have hof:=ofC_len hl
  simp only [go_sem,Nat.lt_irrefl,if_false,hl,ha,hof,hl27]
  refine ⟨fun h => ⟨by omega,h,hiN,hiN,by omega,h,hiN,fun z hz => ⟨i + 1,by omega,by omega,by rw [hz,wrap_in (inRo (by omega))]; rfl,fun j hj => ?_⟩⟩,fun h => absurd hiN (by omega)⟩
  by_cases e:j = i
  ·subst e
   rw [if_pos (by omega),if_pos rfl]
   exact fitL_clean (hcl j hj)
  ·rw [if_neg e]
   by_cases e2:j < i
   ·rw [if_pos (by omega),if_pos e2]
    exact fitL_clean (hcl j hj)
   ·rw [if_neg (by omega),if_neg e2]
    exact fitL_clean rfl
 ·simp only [go_sem]
  refine ⟨fun h => absurd h (by omega),fun h => ⟨4,_,by omega,rfl,rfl,fun j hj => if_pos (by omega)⟩⟩
theorem con61m:MConOK prog 61 mNtel:=MConOK.mcTR con75L
def nwE (k r w t:Int) (n:Nat) (X Y:Nat → Int) (at' rot:V2) (d:Int) (mv:Bool):Int:=
 if chkS k r w t n X Y ≠ 0 then chkS k r w t n X Y else
 if (if mv = true then wgE k r w t n X Y d else if d ≠ 0 then 3 else 0) ≠ 0 then (if mv = true then wgE k r w t n X Y d else if d ≠ 0 then 3 else 0) else plErr k r w t n X Y at' rot
def nwW (k r w t:Int) (n:Nat) (X Y:Nat → Int) (d:Int) (mv:Bool):Nb × Nb:=if mv = true then wgS k r w t n X Y d else ((0,false),(0,false))
def zV:V2:=((0,false),(0,false))
def nwB (k r w t:Int) (n:Nat) (X Y:Nat → Int) (at' rot:V2) (d:Int) (mv:Bool):Bd:=
 if nwE k r w t n X Y at' rot d mv = 0 then ⟨k,r,w,t,n,X,Y,at',rot,zV,(0,false),(nwW k r w t n X Y d mv).1,(nwW k r w t n X Y d mv).2,0,false,false,1⟩
 else ⟨0,0,0,0,0,X,Y,zV,zV,zV,(0,false),(0,false),(0,false),0,false,false,0⟩
theorem alk_bodyT {a b c d e p q:AV} {l:List AV} (h:alk p q):alk (.tup [.agg (a :: b :: c :: d :: p :: l),e]) (.tup [.agg (a :: b :: c :: d :: q :: l),e]):=fun w ρ v hR => by
 cases hR with
 | tup hl hh =>
  refine .tup hl fun i x z h1 h2 => ?_
  match i with
  | 0 =>
   simp at h1; subst h1
   have:=hh 0 _ z rfl h2
   cases this with
   | agg hl' hh' =>
    refine .agg hl' fun j x y h3 h4 => ?_
    match j with
    | 0 => exact hh' 0 x y h3 h4
    | 1 => exact hh' 1 x y h3 h4
    | 2 => exact hh' 2 x y h3 h4
    | 3 => exact hh' 3 x y h3 h4
    | 4 =>
     simp at h3; subst h3
     exact h _ _ _ (hh' 4 _ y rfl h4)
    | m + 5 => exact hh' (m + 5) x y h3 h4
  | i + 1 => exact hh (i + 1) x z h1 h2
theorem vc38 (k r w t:Int) (n:Nat) (X Y:Nat → Int) (at' rot:V2) (d:Int) (mv:Bool) (hX:∀ i,i < n → inR (X i) ∧ inR (Y i)) (hn:n ≤ 9223372036854775806) (h0:inR at'.1.1) (h1:inR at'.2.1) (h2:inR rot.1.1) (h3:inR rot.2.1) (hd:inR d) :
  fnVC prog [(79,c62),(80,c80),(81,c65),(82,c82)] [(13,⟨[(5,.slot 8)],[]⟩)] Tryz.f38 [shapeA k r w t n fun i => [i64 (X i),i64 (Y i)],poseA at' rot,i64 d,bo mv] (alk (.tup [boA (nwB k r w t n X Y at' rot d mv),i64 (nwE k r w t n X Y at' rot d mv)])):=by
 refine fnVC_go (rs:=[.cell 8 40,.tmp 9]) rfl rfl ?_
 have hg:spots n fun i => [i64 (X i),i64 (Y i)]:=fun i hi => ⟨rfl,hX i hi⟩
 simp only [go_sem,c62,c80,c65,c82,wgV,hg,hn,hd,gx_pts0,gx_pts1,h0,h1,h2,h3]
 simp only [forall_eq,Int.reduceBEq,Int.reduceBNe,reduceCtorEq,false_imp_iff,true_imp_iff,true_and,and_true]
 have n8:chkS k r w t n X Y = 0 → n ≤ 1000:=fun h => by
  have:=chk_cases h
  omega
 have bad:∀ e:Int,nwE k r w t n X Y at' rot d mv = e → e ≠ 0 → alk (AV.tup [boA (nwB k r w t n X Y at' rot d mv),i64 (nwE k r w t n X Y at' rot d mv)]) (.tup [.agg [i64 0,i64 0,i64 0,i64 0,.v (.slice none 0 0),i64 0,bo false,i64 0,bo false,i64 0,bo false,i64 0,bo false,i64 0,bo false,i64 0,bo false,i64 0,bo false,i64 0,bo false,i64 0,bo false,i64 0,bo false,bo false,i64 0],i64 e]):=fun e he hne => by
  subst he
  rw [show nwB k r w t n X Y at' rot d mv = _ from if_neg hne]
  exact alk_bodyT alk_nil
 have good:∀ m:Nb × Nb,nwE k r w t n X Y at' rot d mv = 0 → nwW k r w t n X Y d mv = m → alk (AV.tup [boA (nwB k r w t n X Y at' rot d mv),i64 (nwE k r w t n X Y at' rot d mv)]) (.tup [.agg [i64 k,i64 r,i64 w,i64 t,.ro n 2 fun i => [i64 (X i),i64 (Y i)],i64 at'.1.1,bo at'.1.2,i64 at'.2.1,bo at'.2.2,i64 rot.1.1,bo rot.1.2,i64 rot.2.1,bo rot.2.2,i64 0,bo false,i64 0,bo false,i64 0,bo false,i64 m.1.1,bo m.1.2,i64 m.2.1,bo m.2.2,i64 0,bo false,bo false,i64 1],i64 0]):=fun m he hm => by
  subst hm
  rw [show nwB k r w t n X Y at' rot d mv = _ from if_pos he,he]
  exact fun _ _ _ h => h
 refine ⟨fun h => bad _ (if_pos (bne_iff_ne.1 h)) (bne_iff_ne.1 h),fun h => ?_⟩
 have h:chkS k r w t n X Y = 0:=by simpa using h
 have eE:nwE k r w t n X Y at' rot d mv = if (if mv = true then wgE k r w t n X Y d else if d ≠ 0 then 3 else 0) ≠ 0 then (if mv = true then wgE k r w t n X Y d else if d ≠ 0 then 3 else 0) else plErr k r w t n X Y at' rot:=if_neg (by simpa using h)
 refine ⟨fun hv => ?_,fun hv => ?_⟩
 ·have eW:nwW k r w t n X Y d mv = wgS k r w t n X Y d:=if_pos hv
  rw [if_pos hv] at eE
  refine ⟨fun g => ?_,fun g => ?_⟩
  ·rw [if_neg (by simpa using g)] at eE
   exact ⟨fun p => bad _ eE (bne_iff_ne.1 p),fun p => ⟨n8 h,good _ (eE.trans (by simpa using p)) eW⟩⟩
  ·have g:wgE k r w t n X Y d ≠ 0:=by simpa using g
   rw [if_pos g] at eE
   exact ⟨fun p => bad _ eE g,fun p => absurd (by simpa using p) g⟩
 ·have eW:nwW k r w t n X Y d mv = ((0,false),(0,false)):=if_neg (by simp [hv])
  have eI:(if mv = true then wgE k r w t n X Y d else if d ≠ 0 then 3 else 0) = if d ≠ 0 then 3 else 0:=if_neg (by simp [hv])
  rw [eI] at eE
  refine ⟨fun g => ?_,fun g => ?_⟩
  ·have g:d ≠ 0:=by simpa using g
   have eJ:(if d ≠ 0 then (3:Int) else 0) = 3:=if_pos g
   rw [eJ,if_pos (by decide)] at eE
   exact bad _ eE (by decide)
  ·have g:d = 0:=by simpa using g
   have eJ:(if d ≠ 0 then (3:Int) else 0) = 0:=if_neg (by simpa using g)
   rw [eJ,if_neg (by decide)] at eE
   refine ⟨fun _ => ⟨fun p => bad _ eE (bne_iff_ne.1 p),fun p => ⟨n8 h,good _ (eE.trans (by simpa using p)) eW⟩⟩,fun g2 => absurd h (by simpa using g2)⟩
def c38:Con
 | [.agg [.v (.int .i64 k),.v (.int .i64 r),.v (.int .i64 w),.v (.int .i64 t),.ro n 2 g],.agg [.v (.int .i64 x),.v (.bool e),.v (.int .i64 y),.v (.bool f),.v (.int .i64 c),.v (.bool o),.v (.int .i64 s),.v (.bool p)],.v (.int .i64 d),.v (.bool mv)] => some ([spots n g,n ≤ 9223372036854775806,inR x,inR y,inR c,inR s,inR d],.tup [boA (nwB k r w t n (gx g 0) (gx g 1) ((x,e),(y,f)) ((c,o),(s,p)) d mv),i64 (nwE k r w t n (gx g 0) (gx g 1) ((x,e),(y,f)) ((c,o),(s,p)) d mv)])
 | _ => none
theorem con38:ConOK prog 38 c38:=ConOK.goR (G:=[(79,c62),(80,c80),(81,c65),(82,c82)]) (H:=[(13,⟨[(5,.slot 8)],[]⟩)]) (.cons con79 (.cons con80 (.cons con81 (.cons con82 .nil)))) func38 fun l ob rr hc hob => by
 unfold c38 at hc
 split at hc
 ·rename_i k r w t n g x e y f c o s p d mv
  cases hc
  have hs:spots n g:=hob _ (by simp)
  refine ⟨[shapeA k r w t n fun i => [i64 (gx g 0 i),i64 (gx g 1 i)],poseA ((x,e),(y,f)) ((c,o),(s,p)),i64 d,bo mv],fun w I vs h => ?_,by kernel_rfl,vc38 k r w t n _ _ ((x,e),(y,f)) ((c,o),(s,p)) d mv (fun i hi => (hs i hi).2) (hob _ (by simp)) (hob _ (by simp)) (hob _ (by simp)) (hob _ (by simp)) (hob _ (by simp)) (hob _ (by simp))⟩
  obtain ⟨x,xs,rfl,h1,h2⟩:=h.inv
  exact .cons (Rs_shape hs _ h1) h2
 ·cases hc
end Go.Ax
end
section
set_option maxHeartbeats 4000000
set_option maxRecDepth 100000
namespace Go.Ax
open Go.Proofs Go.Proofs.Tryz
end Go.Ax
end
section
set_option maxHeartbeats 4000000
set_option maxRecDepth 100000
namespace Go.Ax
open Go.Proofs Go.Proofs.Tryz
def dtW (a b c d:Int):Int:=IntKind.i64.wrap (IntKind.i64.wrap (a * c) + IntKind.i64.wrap (b * d))
def crW (a b c d:Int):Int:=IntKind.i64.wrap (IntKind.i64.wrap (a * d) - IntKind.i64.wrap (b * c))
def mnW (a b:Int):Int:=IntKind.i64.wrap (b - a)
def farS (ax ay bx byy cx cy r:Int):Bool:=
 if dtW (mnW ax cx) (mnW ay cy) (mnW ax bx) (mnW ay byy) ≤ 0 then decide (IntKind.i64.wrap (r * r) < dtW (mnW ax cx) (mnW ay cy) (mnW ax cx) (mnW ay cy))
 else if dtW (mnW ax bx) (mnW ay byy) (mnW ax bx) (mnW ay byy) ≤ dtW (mnW ax cx) (mnW ay cy) (mnW ax bx) (mnW ay byy) then decide (IntKind.i64.wrap (r * r) < dtW (mnW bx cx) (mnW byy cy) (mnW bx cx) (mnW byy cy))
 else decide (0 < cmpS (crW (mnW ax bx) (mnW ay byy) (mnW ax cx) (mnW ay cy) * crW (mnW ax bx) (mnW ay byy) (mnW ax cx) (mnW ay cy)) (IntKind.i64.wrap (r * r) * dtW (mnW ax bx) (mnW ay byy) (mnW ax bx) (mnW ay byy)))
theorem dtW_eq {a b c d:Int}:IntKind.i64.wrap (IntKind.i64.wrap (a * c) + IntKind.i64.wrap (b * d)) = dtW a b c d:=rfl
theorem mnW_eq {a b:Int}:IntKind.i64.wrap (b - a) = mnW a b:=rfl
theorem dtW_inR {a b c d:Int}:inR (dtW a b c d):=wrap_inR _
def clrS (n:Nat) (X Y:Nat → Int) (m:Nat) (Z T:Nat → Int):Bool:=decide (∃ i,i < n ∧ ∀ j,j < m → turnS (X i) (Y i) (X (nxt n i)) (Y (nxt n i)) (Z j) (T j) < 0)
def outS (n:Nat) (X Y:Nat → Int) (cx cy r:Int):Bool:=decide (inS n X Y cx cy = false ∧ ∀ i,i < n → farS (X i) (Y i) (X (nxt n i)) (Y (nxt n i)) cx cy r = true)
theorem vc217 (k x y r:Int) (n:Nat) (X Y:Nat → Int) (k' x' y' r':Int) (m:Nat) (Z T:Nat → Int) (hX:∀ i,i < n → inR (X i) ∧ inR (Y i)) (hZ:∀ i,i < m → inR (Z i) ∧ inR (T i)) (hn:n ≤ 9223372036854775806) (hm:m ≤ 9223372036854775806) (vX:∀ i,i < n → validS (X i) (Y i) = true) (vZ:∀ i,i < m → validS (Z i) (T i) = true) :
  fnVC prog [(225,c225),(261,c261)] [] Tryz.f217 [formA k x y r n fun i => [i64 (X i),i64 (Y i)],formA k' x' y' r' m fun i => [i64 (Z i),i64 (T i)]] (· = bo (clrS n X Y m Z T)):=by
 refine fnVC_go (rs:=[.tmp 4]) rfl rfl ?_
 simp only [go_sem]
 have hg:spots n fun i => [i64 (X i),i64 (Y i)]:=fun i hi => ⟨rfl,hX i hi⟩
 refine loopC_go (fun (i:Nat) => i ≤ n ∧ ∀ j,j < i → ¬ ∀ l,l < m → turnS (X j) (Y j) (X (nxt n j)) (Y (nxt n j)) (Z l) (T l) < 0) (fun i => n - i) (fun i => [(5,i64 i)]) (fun _ => []) [1,0] [10,11,12,13,14,18,19,20,17,21,22,6,7,8,9,23,24,25,26,27,30,31,32,33,34,35,36,37,38,39,40,41,8,28,29,9,42,4,15,16,5] 0 (by kernel_rfl) ?_ ⟨Nat.zero_le _,fun l hl => by omega⟩ ?_ ?_
 ·intro x _; simp [goodNames]
 ·simp only [go_sem]
 intro i hi
 simp only [go_sem,c225]
 refine ⟨fun hin => ⟨hg,by omega,hin,hn,?_⟩,fun hin => ?_⟩
 ·have hlt:i < n:=by omega
  refine loopC_go (fun (j:Nat) => j ≤ m) (fun j => m - j) (fun j => [(9,i64 j),(8,bo (decide (∀ l,l < j → turnS (X i) (Y i) (X (nxt n i)) (Y (nxt n i)) (Z l) (T l) < 0)))]) (fun _ => []) [16,15,1,0] [23,24,25,26,27,30,31,32,33,34,35,36,37,38,39,40,41,8,28,29,9] 0 (by kernel_rfl) ?_ (Nat.zero_le _) ?_ ?_
  ·intro x _; simp [goodNames]
  ·simp only [go_sem]
   exact (decide_eq_true fun l hl => absurd hl (Nat.not_lt_zero l)).symm
  intro j hj
  simp only [go_sem,c261]
  refine ⟨fun hin2 => ⟨fun _ => by omega,fun _ => hin2,fun z hz z1 hz1 => ⟨j + 1,by omega,by omega,by rw [hz1,wrap_in (inRo (by omega))]; rfl,?_⟩⟩,fun hin2 => ⟨fun h => ?_,fun h z hz => ⟨i + 1,⟨by omega,fun j' hj' => ?_⟩,by omega,by rw [hz,wrap_in (inRo (by omega))]; rfl⟩⟩⟩
  ·have hs:z < 0 ↔ turnS (X i) (Y i) (X (nxt n i)) (Y (nxt n i)) (Z j) (T j) < 0:=by
    rw [hz]
    unfold sideS
    rw [if_pos ⟨vX i hlt,vX _ (nxt_lt hlt),vZ j (by omega)⟩]
    split
    ·omega
    ·split <;> omega
   rw [Bool.eq_iff_iff]
   simp only [Bool.and_eq_true,decide_eq_true_eq,hs]
   constructor
   ·rintro ⟨h1,h2⟩ l hl
    by_cases e:l = j
    ·subst e; exact h2
    ·exact h1 l (by omega)
   ·intro h
    exact ⟨fun l hl => h l (by omega),h j (by omega)⟩
  ·exact (decide_eq_true (show ∃ i,_ from ⟨i,hlt,fun l hl => h l (by omega)⟩)).symm
  ·by_cases e:j' = i
   ·subst e
    intro hc
    exact h fun l hl => hc l (by omega)
   ·exact hi.2 j' (by omega)
 ·exact (decide_eq_false (fun ⟨j,hj,hc⟩ => hi.2 j (by omega) hc)).symm
def c217:Con
 | [.agg [.v (.int .i64 k),.v (.int .i64 x),.v (.int .i64 y),.v (.int .i64 r),.ro n 2 g],.agg [.v (.int .i64 k'),.v (.int .i64 x'),.v (.int .i64 y'),.v (.int .i64 r'),.ro m 2 g']] => some ([spots n g,spots m g',n ≤ 9223372036854775806,m ≤ 9223372036854775806,∀ i,i < n → validS (gx g 0 i) (gx g 1 i) = true,∀ i,i < m → validS (gx g' 0 i) (gx g' 1 i) = true],bo (clrS n (gx g 0) (gx g 1) m (gx g' 0) (gx g' 1)))
 | _ => none
theorem con217:ConOK prog 217 c217:=ConOK.go (G:=[(225,c225),(261,c261)]) (H:=[]) (.cons con225 (.cons con261 .nil)) func217 fun l ob rr hc hob => by
 unfold c217 at hc
 split at hc
 ·rename_i k x y r n g k' x' y' r' m g'
  cases hc
  have hs:spots n g:=hob _ (by simp)
  have hs':spots m g':=hob _ (by simp)
  exact ⟨[formA k x y r n fun i => [i64 (gx g 0 i),i64 (gx g 1 i)],formA k' x' y' r' m fun i => [i64 (gx g' 0 i),i64 (gx g' 1 i)]],fun w I vs h => Rs_two (Rs_form hs) (Rs_form hs') h,by kernel_rfl,vc217 k x y r n _ _ k' x' y' r' m _ _ (fun i hi => (hs i hi).2) (fun i hi => (hs' i hi).2) (hob _ (by simp)) (hob _ (by simp)) (hob _ (by simp)) (hob _ (by simp))⟩
 ·cases hc
theorem vc216 (k x y r:Int) (n:Nat) (X Y:Nat → Int) (k' x' y' r':Int) (m:Nat) (Z T:Nat → Int) (hX:∀ i,i < n → inR (X i) ∧ inR (Y i)) (hn:n ≤ 9223372036854775806) (hc:checkS k x y r n X Y = 0) (hk:¬ k = 1) (vC:validS x' y' = true) :
  fnVC prog [(224,c224),(225,c225),(263,c258),(214,c214),(262,c262),(215,c194)] [(7,⟨[(9,.made 7),(10,.made 8)],[]⟩)] Tryz.f216 [formA k x y r n fun i => [i64 (X i),i64 (Y i)],formA k' x' y' r' m fun i => [i64 (Z i),i64 (T i)]] (· = bo (outS n X Y x' y' r')):=by
 refine fnVC_go (rs:=[.tmp 4]) rfl rfl ?_
 simp only [go_sem,c224]
 have hg:spots n fun i => [i64 (X i),i64 (Y i)]:=fun i hi => ⟨rfl,hX i hi⟩
 have eX:gx (fun i => [i64 (X i),i64 (Y i)]) 0 = X:=rfl
 have eY:gx (fun i => [i64 (X i),i64 (Y i)]) 1 = Y:=rfl
 have hh:holdsS k x y r n X Y x' y' = inS n X Y x' y':=if_neg hk
 rw [eX,eY,hh]
 intro z hz
 refine ⟨hg,hn,hc,vC,fun h => ?_,fun h => ?_⟩
 ·refine (decide_eq_false fun hq => ?_).symm
  rw [← hz,h] at hq
  exact absurd hq.1 (by simp)
 refine loopC_go (fun (i:Nat) => i ≤ n ∧ ∀ j,j < i → farS (X j) (Y j) (X (nxt n j)) (Y (nxt n j)) x' y' r' = true) (fun i => n - i) (fun i => [(5,i64 i)]) (fun _ => []) [1,0] [16,17,18,19,20,24,25,26,23,27,28,6,7,29,30,31,32,33,34,35,8,9,36,37,38,39,40,41,10,11,42,43,44,45,46,47,48,49,50,51,52,4,53,54,55,56,57,58,59,60,61,62,63,64,65,66,67,68,4,69,70,71,72,73,74,75,76,77,78,79,80,81,82,4,21,22,5] 0 (by kernel_rfl) ?_ ⟨Nat.zero_le _,fun l hl => by omega⟩ ?_ ?_
 ·intro x _; simp [goodNames]
 ·simp only [go_sem]
 intro i hi
 simp only [go_sem,c225,c258,c214,c262,c194]
 simp only [forall_eq,mnW_eq,dtW_eq]
 refine ⟨fun hin => ?_,fun hin => ?_⟩
 ·have hlt:i < n:=by omega
  have no:farS (X i) (Y i) (X (nxt n i)) (Y (nxt n i)) x' y' r' = false → false = outS n X Y x' y' r':=fun e => (decide_eq_false (fun hq => by have:=hq.2 i hlt; rw [e] at this; cases this)).symm
  have yes:farS (X i) (Y i) (X (nxt n i)) (Y (nxt n i)) x' y' r' = true → ∃ y:Nat,(y ≤ n ∧ ∀ j,j < y → farS (X j) (Y j) (X (nxt n j)) (Y (nxt n j)) x' y' r' = true) ∧ n - y < n - i ∧ IntKind.i64.wrap ((i:Int) + 1) = (y:Int):=fun e =>
   ⟨i + 1,⟨by omega,fun j hj => by
    by_cases q:j = i
    ·subst q; exact e
    ·exact hi.2 j (by omega)⟩,by omega,by rw [wrap_in (inRo (by omega))]; rfl⟩
  refine ⟨hg,by omega,hin,hn,fun g1 => ⟨fun g2 => no ?_,fun g2 => yes ?_⟩,fun g1 => ⟨fun g3 => ⟨fun g2 => no ?_,fun g2 => yes ?_⟩,fun g3 => ⟨wrap_inR _,wrap_inR _,wrap_inR _,dtW_inR,fun g2 => no ?_,fun g2 => yes ?_⟩⟩⟩
  ·unfold farS; rw [if_pos g1]; exact decide_eq_false (by omega)
  ·unfold farS; rw [if_pos g1]; exact decide_eq_true (by omega)
  ·unfold farS; rw [if_neg g1,if_pos g3]; exact decide_eq_false (by omega)
  ·unfold farS; rw [if_neg g1,if_pos g3]; exact decide_eq_true (by omega)
  ·unfold farS; rw [if_neg g1,if_neg g3]; exact decide_eq_false (Int.not_lt.2 g2)
  ·unfold farS; rw [if_neg g1,if_neg g3]; exact decide_eq_true (Int.not_le.1 g2)
 ·refine (decide_eq_true ⟨by rw [← hz,h],fun j hj => hi.2 j (by omega)⟩).symm
def c216:Con
 | [.agg [.v (.int .i64 k),.v (.int .i64 x),.v (.int .i64 y),.v (.int .i64 r),.ro n 2 g],.agg [.v (.int .i64 k'),.v (.int .i64 x'),.v (.int .i64 y'),.v (.int .i64 r'),.ro m 2 g']] => some ([spots n g,spots m g',n ≤ 9223372036854775806,checkS k x y r n (gx g 0) (gx g 1) = 0,¬ k = 1,validS x' y' = true],bo (outS n (gx g 0) (gx g 1) x' y' r'))
 | _ => none
theorem con216:ConOK prog 216 c216:=ConOK.go (G:=[(224,c224),(225,c225),(263,c258),(214,c214),(262,c262),(215,c194)]) (H:=[(7,⟨[(9,.made 7),(10,.made 8)],[]⟩)]) (.cons con224 (.cons con225 (.cons con263 (.cons con214 (.cons con262 (.cons con215 .nil)))))) func216 fun l ob rr hc hob => by
 unfold c216 at hc
 split at hc
 ·rename_i k x y r n g k' x' y' r' m g'
  cases hc
  have hs:spots n g:=hob _ (by simp)
  have hs':spots m g':=hob _ (by simp)
  exact ⟨[formA k x y r n fun i => [i64 (gx g 0 i),i64 (gx g 1 i)],formA k' x' y' r' m fun i => [i64 (gx g' 0 i),i64 (gx g' 1 i)]],fun w I vs h => Rs_two (Rs_form hs) (Rs_form hs') h,by kernel_rfl,vc216 k x y r n _ _ k' x' y' r' m _ _ (fun i hi => (hs i hi).2) (hob _ (by simp)) (hob _ (by simp)) (hob _ (by simp)) (hob _ (by simp))⟩
 ·cases hc
def ddS (x y r a b s:Int):Bool:=decide (IntKind.i64.wrap (IntKind.i64.wrap (r + s) * IntKind.i64.wrap (r + s)) < dtW (mnW x a) (mnW y b) (mnW x a) (mnW y b))
def apS (k x y r:Int) (n:Nat) (X Y:Nat → Int) (k' x' y' r':Int) (m:Nat) (Z T:Nat → Int):Bool:=
 if checkS k x y r n X Y = 0 ∧ checkS k' x' y' r' m Z T = 0 then
  (if k = 1 then (if k' = 1 then ddS x y r x' y' r' else outS m Z T x y r) else if k' = 1 then outS n X Y x' y' r' else (clrS n X Y m Z T || clrS m Z T n X Y))
 else false
def cz35:Con
 | [.agg [.v (.int .i64 k),.v (.int .i64 x),.v (.int .i64 y),.v (.int .i64 r),.ro n 2 g],.agg [.v (.int .i64 k'),.v (.int .i64 x'),.v (.int .i64 y'),.v (.int .i64 r'),.ro m 2 g']] => some ([spots n g,spots m g',n ≤ 9223372036854775806,m ≤ 9223372036854775806,inR x,inR y,inR r,inR x',inR y',inR r'],
   bo (apS k x y r n (gx g 0) (gx g 1) k' x' y' r' m (gx g' 0) (gx g' 1)))
 | _ => none
theorem vc140 (k x y r:Int) (n:Nat) (g:Nat → List AV) (k' x' y' r':Int) (m:Nat) (g':Nat → List AV) (hg:spots n g) (hg':spots m g') (hn:n ≤ 9223372036854775806) (hm:m ≤ 9223372036854775806) (h1:inR x) (h2:inR y) (h3:inR r) (h4:inR x') (h5:inR y') (h6:inR r') :
  fnVC prog [(139,c255),(214,c214),(215,c194),(216,c216),(217,c217)] [] Tryz.f140 [formA k x y r n g,formA k' x' y' r' m g'] (· = bo (apS k x y r n (gx g 0) (gx g 1) k' x' y' r' m (gx g' 0) (gx g' 1))):=by
 refine fnVC_go (rs:=[.tmp 4]) rfl rfl ?_
 simp only [go_sem,c255,c214,c194,c216,c217]
 simp only [forall_eq,mnW_eq,dtW_eq]
 refine ⟨hg,hn,h1,h2,h3,fun _ => hg',fun _ => hm,fun _ => h4,fun _ => h5,fun _ => h6,fun h => ?_,fun h => ?_⟩
 ·unfold apS
  rw [if_neg (fun q => by
   rcases h with h | h
   ·exact (bne_iff_ne.1 h) q.1
   ·exact (bne_iff_ne.1 h) q.2)]
 have hA:checkS k x y r n (gx g 0) (gx g 1) = 0:=bne_eq_false_iff_eq.1 h.1
 have hB:checkS k' x' y' r' m (gx g' 0) (gx g' 1) = 0:=bne_eq_false_iff_eq.1 h.2
 have vA:=(check_1 hA).2
 have vB:=(check_1 hB).2
 refine ⟨fun q => ?_,fun q => ⟨fun q1 => ?_,fun q1 => ⟨fun q2 => ?_,fun q2 => ?_⟩⟩⟩
 ·unfold apS; rw [if_pos ⟨hA,hB⟩,if_pos (by simpa using q.1),if_pos (by simpa using q.2)]; rfl
 ·have hk:k = 1:=by simpa using q1
  have hk':¬ k' = 1:=by rw [q1,Bool.true_and] at q; simpa using q
  exact ⟨hg',hg,hm,hB,hk',vA.1,by unfold apS; rw [if_pos ⟨hA,hB⟩,if_pos hk,if_neg hk']⟩
 ·have hk:¬ k = 1:=by simpa using q1
  have hk':k' = 1:=by simpa using q2
  exact ⟨hg,hg',hn,hA,hk,vB.1,by unfold apS; rw [if_pos ⟨hA,hB⟩,if_neg hk,if_pos hk']⟩
 ·have hk:¬ k = 1:=by simpa using q1
  have hk':¬ k' = 1:=by simpa using q2
  exact ⟨hg,hg',hn,hm,vA.2.1,vB.2.1,fun _ => hg',fun _ => hg,fun _ => hm,fun _ => hn,fun _ => vB.2.1,fun _ => vA.2.1,by unfold apS; rw [if_pos ⟨hA,hB⟩,if_neg hk,if_neg hk']⟩
theorem con140:ConOK prog 140 cz35:=ConOK.go (G:=[(139,c255),(214,c214),(215,c194),(216,c216),(217,c217)]) (H:=[]) (.cons con139 (.cons con214 (.cons con215 (.cons con216 (.cons con217 .nil))))) func140 fun l ob rr hc hob => by
 unfold cz35 at hc
 split at hc
 ·rename_i k x y r n g k' x' y' r' m g'
  cases hc
  exact ⟨_,fun w I vs h => h,by kernel_rfl,vc140 k x y r n g k' x' y' r' m g' (hob _ (by simp)) (hob _ (by simp)) (hob _ (by simp)) (hob _ (by simp)) (hob _ (by simp)) (hob _ (by simp)) (hob _ (by simp)) (hob _ (by simp)) (hob _ (by simp)) (hob _ (by simp))⟩
 ·cases hc
def hgt (a b c d x y:Int):Nb:=vDot (vNorm a b c d) (vLoc (mnW a x) (mnW b y))
def mnN (h:Nat → Nb):Nat → Nb
 | 0 => h 0
 | n + 1 => nMn (mnN h n) (h (n + 1))
def gapS (a b c d k x y r:Int) (n:Nat) (X Y:Nat → Int):Nb:=
 if k = 1 then nSub (hgt a b c d x y) (nRat r 256) else mnN (fun j => hgt a b c d (X j) (Y j)) (n - 1)
theorem hgt_rg {a b c d x y:Int}:rg (hgt a b c d x y).1:=nDot_rg
theorem mnN_step {h:Nat → Nb} {n:Nat} (h1:rg (mnN h n).1) (h2:rg (h (n + 1)).1):mnN h (n + 1) = (if (h (n + 1)).1 < (mnN h n).1 then (h (n + 1)).1 else (mnN h n).1,(mnN h n).2 || (h (n + 1)).2):=by
 show nMn (mnN h n) (h (n + 1)) = _
 unfold nMn
 rw [whV_of h1,whV_of h2,whF_of h1,whF_of h2]
theorem mnN_rg {h:Nat → Nb} (hr:∀ i,rg (h i).1):∀ n,rg (mnN h n).1
 | 0 => hr 0
 | n + 1 => by
  have h1:=mnN_rg hr n
  have h2:=hr (n + 1)
  rw [mnN_step h1 h2]
  dsimp only
  split
  ·exact h2
  ·exact h1
theorem vc229 (a b c d k x y r:Int) (n:Nat) (X Y:Nat → Int) (hX:∀ i,i < n → inR (X i) ∧ inR (Y i)) (hn:n ≤ 9223372036854775806) (h1:inR r) (v1:validS a b = true) (v2:validS c d = true) (h0:¬ k = 1 → 0 < n) :
  fnVC prog [(220,k46),(151,k54),(159,k69),(214,c214),(226,k83),(230,k145),(251,k163)] [(3,⟨[(11,.slot 6)],[]⟩),(4,⟨[(10,.made 9)],[]⟩),(8,⟨[(13,.slot 8)],[]⟩)] Tryz.f229 [.agg [i64 a,i64 b],.agg [i64 c,i64 d],formA k x y r n fun i => [i64 (X i),i64 (Y i)]] (· = nbA (gapS a b c d k x y r n X Y)):=by
 refine fnVC_go (rs:=[.cell 6 27]) rfl rfl ?_
 simp only [go_sem,k46,k54,k69,c214,k83,k145,k163]
 refine ⟨v1,v2,fun h => ?_,fun h => ?_⟩
 ·have hk:k = 1:=by simpa using h
  refine fun z hz z1 hz1 => ⟨by rw [hz]; exact wrap_inR _,by rw [hz1]; exact wrap_inR _,h1,?_⟩
  unfold gapS
  rw [if_pos hk,hz,hz1]
  rfl
 ·have hk:¬ k = 1:=by simpa using h
  have hpos:=h0 hk
  refine ⟨by omega,fun z hz z1 hz1 => ⟨by rw [hz]; exact wrap_inR _,by rw [hz1]; exact wrap_inR _,?_⟩⟩
  have e0:vDot (vNorm a b c d) (vLoc z z1) = mnN (fun j => hgt a b c d (X j) (Y j)) 0:=by rw [hz,hz1]; rfl
  refine loopC_go (fun (j:Nat) => 1 ≤ j ∧ j ≤ n) (fun j => n - j) (fun j => [(9,i64 j)]) (fun j => [(21,fam1 27 2 [i64 (mnN (fun j => hgt a b c d (X j) (Y j)) (j - 1)).1,bo (mnN (fun j => hgt a b c d (X j) (Y j)) (j - 1)).2] none)]) [7,3,2,1,0] [36,37,38,39,40,43,44,45,46,47,48,49,50,51,52,53,54,55,41,42,9] 1 (by kernel_rfl) ?_ ⟨Nat.le_refl _,hpos⟩ ?_ ?_
  ·intro x _; simp [goodNames,asg]
  ·simp only [go_sem,e0]
  intro j hj
  simp only [go_sem,k46,k54,k69,c214,k83,k145,k163]
  refine ⟨fun hin => ⟨by omega,hin,fun y1 hy1 y2 hy2 => ⟨by rw [hy1]; exact wrap_inR _,by rw [hy2]; exact wrap_inR _,rg_inR (mnN_rg (fun _ => hgt_rg) _),fun y3 hy3 => ⟨j + 1,by omega,by omega,by rw [hy3,wrap_in (inRo (by omega))]; rfl,?_⟩⟩⟩,fun hin => ?_⟩
  ·have e:nMn (mnN (fun j => hgt a b c d (X j) (Y j)) (j - 1)) (vDot (vNorm a b c d) (vLoc y1 y2)) = mnN (fun j => hgt a b c d (X j) (Y j)) (j + 1 - 1):=by
    rw [hy1,hy2]
    obtain ⟨q,rfl⟩:∃ q,j = q + 1:=⟨j - 1,by omega⟩
    rfl
   rw [e]
   exact ⟨rfl,rfl⟩
  ·have e:j = n:=by omega
   subst e
   unfold gapS
   rw [if_neg hk]
   rfl
def k95:Con
 | [.agg [.v (.int .i64 a),.v (.int .i64 b)],.agg [.v (.int .i64 c),.v (.int .i64 d)],.agg [.v (.int .i64 k),.v (.int .i64 x),.v (.int .i64 y),.v (.int .i64 r),.ro n 2 g]] => some ([spots n g,n ≤ 9223372036854775806,inR r,validS a b = true,validS c d = true,¬ k = 1 → 0 < n],nbA (gapS a b c d k x y r n (gx g 0) (gx g 1)))
 | _ => none
theorem kon95:ConOK prog 229 k95:=ConOK.go (G:=[(220,k46),(151,k54),(159,k69),(214,c214),(226,k83),(230,k145),(251,k163)]) (H:=[(3,⟨[(11,.slot 6)],[]⟩),(4,⟨[(10,.made 9)],[]⟩),(8,⟨[(13,.slot 8)],[]⟩)]) (.cons kon46 (.cons kon54 (.cons kon69 (.cons con214 (.cons kon83 (.cons kon145 (.cons kon163 .nil))))))) func229 fun l ob rr hc hob => by
 unfold k95 at hc
 split at hc
 ·rename_i a b c d k x y r n g
  cases hc
  have hs:spots n g:=hob _ (by simp)
  refine ⟨[.agg [i64 a,i64 b],.agg [i64 c,i64 d],formA k x y r n fun i => [i64 (gx g 0 i),i64 (gx g 1 i)]],fun w I vs h => ?_,by kernel_rfl,vc229 a b c d k x y r n _ _ (fun i hi => (hs i hi).2) (hob _ (by simp)) (hob _ (by simp)) (hob _ (by simp)) (hob _ (by simp)) (hob _ (by simp))⟩
  obtain ⟨x1,xs,rfl,p1,p2⟩:=h.inv
  obtain ⟨x2,ys,rfl,p3,p4⟩:=p2.inv
  exact .cons p1 (.cons p3 (Rs_one (Rs_form hs) p4))
 ·cases hc
theorem aEq205 {a0 b0:Bool} {a1 b1:Int} {a2 b2:Int} {a3 b3:Int} {a4 b4:Bool}:aEq prog 205 (.agg [bo a0,i64 a1,i64 a2,i64 a3,bo a4]) (.agg [bo b0,i64 b1,i64 b2,i64 b3,bo b4]) = some ((a0 == b0) && ((a1 == b1) && ((a2 == b2) && (((a3 == b3) && ((a4 == b4) && true)) && true)))):=by kernel_rfl
theorem eq205 {xo yo:Operand} {neg:Bool} {a0 b0:Bool} {a1 b1:Int} {a2 b2:Int} {a3 b3:Int} {a4 b4:Bool}:eqE prog neg 205 xo yo (.agg [bo a0,i64 a1,i64 a2,i64 a3,bo a4]) (.agg [bo b0,i64 b1,i64 b2,i64 b3,bo b4]) = some ⟨[],.v (.bool (negV neg ((a0 == b0) && ((a1 == b1) && ((a2 == b2) && (((a3 == b3) && ((a4 == b4) && true)) && true)))))),.none⟩:=eqE_agg aEq205
attribute [go_sem] eq205
abbrev AxT:=Int × Int × Nb
def axF (o:Int) (G:Nat → Nb) (s:AxT):Nat → AxT
 | 0 => s
 | i + 1 => if (axF o G s i).2.1 < 0 ∨ 0 < cmpS (whV (G i).1) (whV (axF o G s i).2.2.1) then (o,(i:Int),G i) else axF o G s i
def ax0:AxT:=(0,-1,(0,false))
def axOK (s:AxT):Prop:=s = ax0 ∨ 0 ≤ s.2.1
def axC (q:Bool) (s:AxT):List AV:=[bo q,i64 s.1,i64 s.2.1,i64 s.2.2.1,bo s.2.2.2]
theorem axF_ok {o:Int} {G:Nat → Nb} {s:AxT} (h:axOK s):∀ n,axOK (axF o G s n)
 | 0 => h
 | n + 1 => by
  have ih:=axF_ok (o:=o) (G:=G) h n
  unfold axF
  split
  ·exact .inr (Int.natCast_nonneg n)
  ·exact ih
def axSt (n:Nat) (G:Nat → Nb) (m:Nat) (G':Nat → Nb):Nat → AxT
 | 0 => ax0
 | 1 => axF 0 G ax0 n
 | _ => axF 1 G' (axF 0 G ax0 n) m
def gP (n:Nat) (X Y:Nat → Int) (m:Nat) (Z T:Nat → Int) (j:Nat):Nb:=mnN (fun l => hgt (X j) (Y j) (X (nxt n j)) (Y (nxt n j)) (Z l) (T l)) (m - 1)
def gD (n:Nat) (X Y:Nat → Int) (x y r:Int) (j:Nat):Nb:=nSub (hgt (X j) (Y j) (X (nxt n j)) (Y (nxt n j)) x y) (nRat r 256)
theorem gD_rg {n:Nat} {X Y:Nat → Int} {x y r:Int} {j:Nat}:rg (gD n X Y x y r j).1:=nSub_rg
theorem axF_hit {o:Int} {G:Nat → Nb} {s:AxT} {j:Nat} (h:(axF o G s j).2.1 < 0 ∨ 0 < cmpS (whV (G j).1) (whV (axF o G s j).2.2.1)):axF o G s (j + 1) = (o,(j:Int),G j):=by
 conv => lhs; unfold axF
 rw [if_pos h]
theorem axF_not {o:Int} {G:Nat → Nb} {s:AxT} {j:Nat} (h:¬ ((axF o G s j).2.1 < 0 ∨ 0 < cmpS (whV (G j).1) (whV (axF o G s j).2.2.1))):axF o G s (j + 1) = axF o G s j:=by
 conv => lhs; unfold axF
 rw [if_neg h]
def axA (q:Bool) (s:AxT):AV:=.agg (axC q s)
theorem bnd_ax {q:Bool} {s:AxT}:bnd (axA q s) = .agg [bo q,i64 s.1,i64 s.2.1,i64 s.2.2.1,bo s.2.2.2]:=(rfl)
theorem plain_ax {q:Bool} {s:AxT}:plain 3 (axA q s) = true:=(rfl)
attribute [go_sem] bnd_ax plain_ax
def axS (k x y r:Int) (n:Nat) (X Y:Nat → Int) (k' x' y' r':Int) (m:Nat) (Z T:Nat → Int):AxT:=
 if checkS k x y r n X Y = 0 ∧ checkS k' x' y' r' m Z T = 0 then
  (if k = 1 then (if k' = 1 then (0,-1,nSub (vLen (vLoc (mnW x x') (mnW y y'))) (nRat (IntKind.i64.wrap (r + r')) 256)) else axSt 0 (gD m Z T x y r) m (gD m Z T x y r) 2)
   else if k' = 1 then axSt n (gD n X Y x' y' r') 0 (gD n X Y x' y' r') 2 else axSt n (gP n X Y m Z T) m (gP m Z T n X Y) 2)
 else (0,0,(0,false))
theorem fig_n {k x y r:Int} {n:Nat} {X Y:Nat → Int} (h:checkS k x y r n X Y = 0) (hk:¬ k = 1):3 ≤ n ∧ n ≤ 8:=by
 have:=(check_1 h).2.2.2.2 hk
 exact ⟨(convexS_iff.1 this.2.2).1,this.2.1⟩
def cz37:Con
 | [.agg [.v (.int .i64 k),.v (.int .i64 x),.v (.int .i64 y),.v (.int .i64 r),.ro n 2 g],.agg [.v (.int .i64 k'),.v (.int .i64 x'),.v (.int .i64 y'),.v (.int .i64 r'),.ro m 2 g']] => some ([spots n g,spots m g',n ≤ 9223372036854775806,m ≤ 9223372036854775806,inR x,inR y,inR r,inR x',inR y',inR r'],
   axA (apS k x y r n (gx g 0) (gx g 1) k' x' y' r' m (gx g' 0) (gx g' 1)) (axS k x y r n (gx g 0) (gx g 1) k' x' y' r' m (gx g' 0) (gx g' 1)))
 | _ => none
theorem vc144 (k x y r:Int) (n:Nat) (X Y:Nat → Int) (k' x' y' r':Int) (m:Nat) (Z T:Nat → Int) (hX:∀ i,i < n → inR (X i) ∧ inR (Y i)) (hZ:∀ i,i < m → inR (Z i) ∧ inR (T i)) (hn:n ≤ 9223372036854775806) (hm:m ≤ 9223372036854775806) (h1:inR x) (h2:inR y) (h3:inR r) (h4:inR x') (h5:inR y') (h6:inR r') :
  fnVC prog [(139,c255),(140,cz35),(220,k46),(221,k47),(151,k54),(159,k69),(225,c225),(214,c214),(229,k95),(228,c228)] [(5,⟨[(15,.slot 5)],[]⟩),(10,⟨[(4,.made 2),(5,.made 3)],[(1,[.made 2])]⟩),(12,⟨[(2,.slot 7),(3,.slot 8)],[(1,[.slot 7])]⟩),(19,⟨[(4,.slot 5),(6,.slot 5),(8,.slot 5)],[(2,[.slot 5])]⟩)] Tryz.f144 [formA k x y r n fun i => [i64 (X i),i64 (Y i)],formA k' x' y' r' m fun i => [i64 (Z i),i64 (T i)]] (· = axA (apS k x y r n X Y k' x' y' r' m Z T) (axS k x y r n X Y k' x' y' r' m Z T)):=by
 refine fnVC_go (rs:=[.cell 4 205]) rfl rfl ?_
 have hg:spots n fun i => [i64 (X i),i64 (Y i)]:=fun i hi => ⟨rfl,hX i hi⟩
 have hg':spots m fun i => [i64 (Z i),i64 (T i)]:=fun i hi => ⟨rfl,hZ i hi⟩
 have eX:gx (fun i => [i64 (X i),i64 (Y i)]) 0 = X:=rfl
 have eY:gx (fun i => [i64 (X i),i64 (Y i)]) 1 = Y:=rfl
 have eZ:gx (fun i => [i64 (Z i),i64 (T i)]) 0 = Z:=rfl
 have eT:gx (fun i => [i64 (Z i),i64 (T i)]) 1 = T:=rfl
 simp only [go_sem,c255,cz35,c214,k69,k47,k54,k46,eX,eY,eZ,eT]
 intro c hc
 refine ⟨hg,hn,h1,h2,h3,fun c' hc' => ⟨fun _ => hg',fun _ => hm,fun _ => h4,fun _ => h5,fun _ => h6,fun h => ?_,fun h q hq => ⟨hg,hg',hn,hm,h1,h2,h3,h4,h5,h6,fun hk => ?_,fun hk => ?_⟩⟩⟩
 ·have hN:¬ (checkS k x y r n X Y = 0 ∧ checkS k' x' y' r' m Z T = 0):=fun q => by
   rw [hc,hc'] at h
   rcases h with h | h
   ·exact (bne_iff_ne.1 h) q.1
   ·exact (bne_iff_ne.1 h) q.2
  simp only [apS,axS,if_neg hN]; rfl
 ·have hA:checkS k x y r n X Y = 0:=by rw [← hc]; exact bne_eq_false_iff_eq.1 h.1
  have hB:checkS k' x' y' r' m Z T = 0:=by rw [← hc']; exact bne_eq_false_iff_eq.1 h.2
  have hAB:=And.intro hA hB
  have k1:k = 1:=by simpa using hk.1
  have k2:k' = 1:=by simpa using hk.2
  refine fun z hz z1 hz1 => ⟨by rw [hz]; exact wrap_inR _,by rw [hz1]; exact wrap_inR _,fun z2 hz2 => ⟨by rw [hz2]; exact wrap_inR _,?_⟩⟩
  rw [hq,hz,hz1,hz2]
  simp only [axS,if_pos hAB,if_pos k1,if_pos k2]; rfl
 have hA:checkS k x y r n X Y = 0:=by rw [← hc]; exact bne_eq_false_iff_eq.1 h.1
 have hB:checkS k' x' y' r' m Z T = 0:=by rw [← hc']; exact bne_eq_false_iff_eq.1 h.2
 have hAB:=And.intro hA hB
 have vX:=(check_1 hA).2.2.1
 have vZ:=(check_1 hB).2.2.1
 have nA:k = 1 → n = 0:=fun e => ((check_1 hA).2.2.2.1 e).2.2.2
 have nB:k' = 1 → m = 0:=fun e => ((check_1 hB).2.2.2.1 e).2.2.2
 have pA:¬ k = 1 → 0 < n:=fun e => by have:=fig_n hA e; omega
 have pB:¬ k' = 1 → 0 < m:=fun e => by have:=fig_n hB e; omega
 have hS:∃ S:Nat → AxT,S 0 = (0,-1,(0,false)) ∧ S 1 = axF 0 (fun j => gapS (X j) (Y j) (X (nxt n j)) (Y (nxt n j)) k' x' y' r' m Z T) (S 0) n ∧ S 2 = axF 1 (fun j => gapS (Z j) (T j) (Z (nxt m j)) (T (nxt m j)) k x y r n X Y) (S 1) m ∧ axS k x y r n X Y k' x' y' r' m Z T = S 2:=by
  refine ⟨axSt n (fun j => gapS (X j) (Y j) (X (nxt n j)) (Y (nxt n j)) k' x' y' r' m Z T) m (fun j => gapS (Z j) (T j) (Z (nxt m j)) (T (nxt m j)) k x y r n X Y),rfl,rfl,rfl,?_⟩
  unfold axS
  rw [if_pos hAB]
  by_cases e:k = 1
  ·by_cases e':k' = 1
   ·rw [e,e'] at hk; cases hk
   ·have hG:(fun j => gapS (Z j) (T j) (Z (nxt m j)) (T (nxt m j)) k x y r n X Y) = gD m Z T x y r:=funext fun j => if_pos e
    rw [if_pos e,if_neg e',hG,nA e]
    rfl
  ·by_cases e':k' = 1
   ·have hG:(fun j => gapS (X j) (Y j) (X (nxt n j)) (Y (nxt n j)) k' x' y' r' m Z T) = gD n X Y x' y' r':=funext fun j => if_pos e'
    rw [if_neg e,if_pos e',hG,nB e']
    rfl
   ·have hG:(fun j => gapS (X j) (Y j) (X (nxt n j)) (Y (nxt n j)) k' x' y' r' m Z T) = gP n X Y m Z T:=funext fun j => if_neg e'
    have hG':(fun j => gapS (Z j) (T j) (Z (nxt m j)) (T (nxt m j)) k x y r n X Y) = gP m Z T n X Y:=funext fun j => if_neg e
    rw [if_neg e,if_neg e',hG,hG']
 obtain ⟨S,s0,s1,s2,s3⟩:=hS
 rw [s3]
 have k0:axOK (S 0):=.inl s0
 have k1:axOK (S 1):=by rw [s1]; exact axF_ok k0 _
 refine loopC_go (fun (i:Nat) => i ≤ 2) (fun i => 2 - i) (fun i => [(6,i64 i)]) (fun i => [(15,fam1 205 5 (axC q (S i)) none)]) [2,1,0] [50,51,54,55,7,8,56,57,58,59,9,60,61,62,63,64,68,69,70,67,71,72,10,11,73,74,75,76,12,77,78,79,80,81,82,83,84,85,86,87,88,89,90,91,92,65,66,9,52,53,6] 0 (by kernel_rfl) ?_ (Nat.zero_le _) ?_ ?_
 ·intro x _; simp [goodNames,asg]
 ·simp only [go_sem,s0,axC]
 intro i hi
 match i with
 | 0 =>
  simp only [go_sem,axC]
  simp only [false_imp_iff,true_imp_iff,reduceCtorEq,true_and,and_true,Bool.false_eq_true]
  refine ⟨fun h => absurd h (by decide),fun _ => ?_⟩
  refine loopC_go (fun (j:Nat) => j ≤ n) (fun j => n - j) (fun j => [(9,i64 j)]) (fun j => [(15,fam1 205 5 (axC q (axF 0 (fun j => gapS (X j) (Y j) (X (nxt n j)) (Y (nxt n j)) k' x' y' r' m Z T) (S 0) j)) none)]) [31,30,2,1,0] [60,61,62,63,64,68,69,70,67,71,72,10,11,73,74,75,76,12,77,78,79,80,81,82,83,84,85,86,87,88,89,90,91,92,65,66,9] 0 (by kernel_rfl) ?_ (Nat.zero_le _) ?_ ?_
  ·intro x _; simp [goodNames,asg]
  ·simp only [go_sem,axF,axC]
  intro j hj
  simp only [go_sem,axC,c225,k95,c228]
  refine ⟨fun hin => ?_,fun hin z hz => ⟨1,by omega,by omega,by rw [hz]; decide,?_⟩⟩
  ·have hlt:j < n:=by omega
   refine ⟨hg,by omega,hin,hn,hg',hm,h6,vX j hlt,vX _ (nxt_lt hlt),pB,fun z hz => ⟨fun h z1 hz1 => ⟨j + 1,by omega,by omega,by rw [hz1,wrap_in (inRo (by omega))]; rfl,?_⟩,fun h z1 hz1 => ⟨j + 1,by omega,by omega,by rw [hz1,wrap_in (inRo (by omega))]; rfl,?_⟩⟩⟩
   ·rw [axF_hit (h.imp id (fun q => by rw [hz] at q; exact q))]
    exact ⟨rfl,rfl,rfl,rfl⟩
   ·rw [axF_not (by
     rintro (q | q)
     ·exact h.1 q
     ·exact h.2 (by rw [hz]; exact q))]
    exact ⟨rfl,rfl,rfl,rfl⟩
  ·rw [s1,show j = n by omega]
   exact ⟨rfl,rfl,rfl,rfl⟩
 | 1 =>
  simp only [go_sem,axC]
  simp only [false_imp_iff,true_imp_iff,reduceCtorEq,true_and,and_true,Bool.false_eq_true]
  refine ⟨fun _ => ?_,fun h => absurd h (by decide)⟩
  refine loopC_go (fun (j:Nat) => j ≤ m) (fun j => m - j) (fun j => [(9,i64 j)]) (fun j => [(15,fam1 205 5 (axC q (axF 1 (fun j => gapS (Z j) (T j) (Z (nxt m j)) (T (nxt m j)) k x y r n X Y) (S 1) j)) none)]) [31,30,2,1,0] [60,61,62,63,64,68,69,70,67,71,72,10,11,73,74,75,76,12,77,78,79,80,81,82,83,84,85,86,87,88,89,90,91,92,65,66,9] 0 (by kernel_rfl) ?_ (Nat.zero_le _) ?_ ?_
  ·intro x _; simp [goodNames,asg]
  ·simp only [go_sem,axF,axC]
  intro j hj
  simp only [go_sem,axC,c225,k95,c228]
  refine ⟨fun hin => ?_,fun hin z hz => ⟨2,by omega,by omega,by rw [hz]; decide,?_⟩⟩
  ·have hlt:j < m:=by omega
   refine ⟨hg',by omega,hin,hm,hg,hn,h3,vZ j hlt,vZ _ (nxt_lt hlt),pA,fun z hz => ⟨fun h z1 hz1 => ⟨j + 1,by omega,by omega,by rw [hz1,wrap_in (inRo (by omega))]; rfl,?_⟩,fun h z1 hz1 => ⟨j + 1,by omega,by omega,by rw [hz1,wrap_in (inRo (by omega))]; rfl,?_⟩⟩⟩
   ·rw [axF_hit (h.imp id (fun q => by rw [hz] at q; exact q))]
    exact ⟨rfl,rfl,rfl,rfl⟩
   ·rw [axF_not (by
     rintro (q | q)
     ·exact h.1 q
     ·exact h.2 (by rw [hz]; exact q))]
    exact ⟨rfl,rfl,rfl,rfl⟩
  ·rw [s2,show j = m by omega]
   exact ⟨rfl,rfl,rfl,rfl⟩
 | 2 =>
  simp only [go_sem,axC]
  simp only [false_imp_iff,true_imp_iff,reduceCtorEq,true_and,and_true,Bool.false_eq_true]
  rw [hq]; rfl
 | q + 3 => omega
theorem con144:ConOK prog 144 cz37:=ConOK.go (G:=[(139,c255),(140,cz35),(220,k46),(221,k47),(151,k54),(159,k69),(225,c225),(214,c214),(229,k95),(228,c228)]) (H:=[(5,⟨[(15,.slot 5)],[]⟩),(10,⟨[(4,.made 2),(5,.made 3)],[(1,[.made 2])]⟩),(12,⟨[(2,.slot 7),(3,.slot 8)],[(1,[.slot 7])]⟩),(19,⟨[(4,.slot 5),(6,.slot 5),(8,.slot 5)],[(2,[.slot 5])]⟩)]) (.cons con139 (.cons con140 (.cons kon46 (.cons kon47 (.cons kon54 (.cons kon69 (.cons con225 (.cons con214 (.cons kon95 (.cons con228 .nil)))))))))) func144 fun l ob rr hc hob => by
 unfold cz37 at hc
 split at hc
 ·rename_i k x y r n g k' x' y' r' m g'
  cases hc
  have hs:spots n g:=hob _ (by simp)
  have hs':spots m g':=hob _ (by simp)
  exact ⟨[formA k x y r n fun i => [i64 (gx g 0 i),i64 (gx g 1 i)],formA k' x' y' r' m fun i => [i64 (gx g' 0 i),i64 (gx g' 1 i)]],fun w I vs h => Rs_two (Rs_form hs) (Rs_form hs') h,by kernel_rfl,vc144 k x y r n _ _ k' x' y' r' m _ _ (fun i hi => (hs i hi).2) (fun i hi => (hs' i hi).2) (hob _ (by simp)) (hob _ (by simp)) (hob _ (by simp)) (hob _ (by simp)) (hob _ (by simp)) (hob _ (by simp)) (hob _ (by simp)) (hob _ (by simp))⟩
 ·cases hc
def mTwo:MCon:=mc2P 27 92 96
theorem con107m:MConOK prog 107 mTwo:=MConOK.mc2P (G:=[]) (H:=[]) .nil func107 fun N get hN a b => by
 refine ⟨by kernel_rfl,bodyM_go (rs:=[.tmp 6,.tmp 7,.tmp 8]) rfl rfl ?_⟩
 simp only [go_sem]
 intro z hz z1 hz1
 refine ⟨fun h => (if_neg fun hc => ?_).symm,fun h => ?_⟩
 ·rcases h with h | h
  ·omega
  ·have:a = b:=by simpa using h
   exact hc.2.2.2.2 this
 ·have hne:a ≠ b:=by simpa using h.2
  have hc:0 ≤ a ∧ a < N ∧ 0 ≤ b ∧ b < N ∧ a ≠ b:=⟨by omega,by omega,by omega,by omega,hne⟩
  refine ⟨hc.1,hc.2.1,by omega,hc.2.2.1,hc.2.2.2.1,by omega,(if_pos hc).symm⟩
def sliK (a b:Bd) (x n:V2):Nb:=nAdd (hftS a x n) (hftS b x n)
def sliS (a b:Bd) (x n:V2):Nb:=nDiv (nNeg (vDot (vSub (spdS b x) (spdS a x)) n)) (sliK a b x n)
def kSli:Con
 | [.rop l,.rop l',.agg [.v (.int .i64 x),.v (.bool e),.v (.int .i64 y),.v (.bool f)],.agg [.v (.int .i64 z),.v (.bool g),.v (.int .i64 u),.v (.bool h)]] => some ([l = bodyC (bodyD l),l' = bodyC (bodyD l'),inB (bodyD l),inB (bodyD l'),inR x,inR y,inR z,inR u],
  .tup [.agg [i64 (sliS (bodyD l) (bodyD l') ((x,e),(y,f)) ((z,g),(u,h))).1,bo (sliS (bodyD l) (bodyD l') ((x,e),(y,f)) ((z,g),(u,h))).2],bo (!((sliK (bodyD l) (bodyD l') ((x,e),(y,f)) ((z,g),(u,h))).1 == 0))])
 | _ => none
theorem con109:ConOK prog 109 kSli:=ConOK.of (G:=[(173,kb173),(88,kw153),(169,kb169),(114,k172),(174,k178),(112,k179),(78,k168)]) (H:=[(1,⟨[(10,.made 9)],[]⟩),(2,⟨[(8,.made 7)],[]⟩),(3,⟨[(9,.slot 8)],[(7,[.slot 8])]⟩)]) (.cons konb173 (.cons konw153 (.cons konb169 (.cons kon172 (.cons kon178 (.cons kon179 (.cons kon168 .nil))))))) func109 fun l ob r hc hob => by
 unfold kSli at hc
 split at hc
 ·rename_i l l' x e y f z g u h
  cases hc
  have h1:l = bodyC (bodyD l):=hob _ (by simp)
  have h2:l' = bodyC (bodyD l'):=hob _ (by simp)
  have ha:inB (bodyD l):=hob _ (by simp)
  have hb:inB (bodyD l'):=hob _ (by simp)
  have k1:inR x:=hob _ (by simp)
  have k2:inR y:=hob _ (by simp)
  have k3:inR z:=hob _ (by simp)
  have k4:inR u:=hob _ (by simp)
  clear hob
  generalize bodyD l = a at *
  generalize bodyD l' = b at *
  subst h1 h2
  refine ⟨by kernel_rfl,fnVC_go (rs:=[.cell 8 27,.tmp 9]) rfl rfl ?_⟩
  simp only [go_sem,kb173,kw153,kb169,k172,k178,k179,k168,cBR_eq,ha,hb,k1,k2,k3,k4]
  rfl
 ·cases hc
def apaF:List AV → List AV → List AV → Option (List Prop × AV × List AV × List AV)
 | l,l',[.agg [.v (.int .i64 x),.v (.bool e),.v (.int .i64 y),.v (.bool f)],.agg [.v (.int .i64 x'),.v (.bool e'),.v (.int .i64 y'),.v (.bool f')],.agg [.v (.int .i64 z),.v (.bool g),.v (.int .i64 u),.v (.bool h)],.agg [.v (.int .i64 d),.v (.bool k)]] =>
  some ([l = bodyC (bodyD l),l' = bodyC (bodyD l'),inB (bodyD l),inB (bodyD l'),inR x,inR y,inR x',inR y',inR z,inR u,inR d],.tup [],bodyC (pshS (bodyD l) ((x,e),(y,f)) (vScale ((z,g),(u,h)) (nNeg (d,k)))),bodyC (pshS (bodyD l') ((x',e'),(y',f')) (vScale ((z,g),(u,h)) (d,k))))
 | _,_,_ => none
def mApa:MCon:=mcPP 27 apaF
theorem famE_comm {fam:Fam} {f f' i i':Nat} {c c':List AV} (h:f ≠ f'):famE (famE fam f' i' c') f i c = famE (famE fam f i c) f' i' c':=by
 funext q
 unfold famE
 by_cases h1:q = f
 ·subst h1; simp [h]
 ·by_cases h2:q = f'
  ·subst h2; simp [h1,Ne.symm h]
  ·simp [h1,h2]
theorem con110m:MConOK prog 110 mApa:=MConOK.mcPP (G:=[(112,k179),(44,k169),(42,.wr kw115)]) (H:=[(1,⟨[(6,.call)],[]⟩),(2,⟨[(5,.call)],[]⟩)]) (.cons kon179 (.cons kon169 (.mcons konw115 .nil))) func110 fun l l' rest ob val cs cs' hF hob => by
 unfold apaF at hF
 split at hF
 ·rename_i x e y f x' e' y' f' z g u h d k
  cases hF
  have h1:l = bodyC (bodyD l):=hob _ (by simp)
  have h2:l' = bodyC (bodyD l'):=hob _ (by simp)
  have ha:inB (bodyD l):=hob _ (by simp)
  have hb:inB (bodyD l'):=hob _ (by simp)
  have k1:inR x:=hob _ (by simp)
  have k2:inR y:=hob _ (by simp)
  have k3:inR x':=hob _ (by simp)
  have k4:inR y':=hob _ (by simp)
  have k5:inR z:=hob _ (by simp)
  have k6:inR u:=hob _ (by simp)
  have k7:inR d:=hob _ (by simp)
  clear hob
  generalize bodyD l = a at *
  generalize bodyD l' = b at *
  subst h1 h2
  refine ⟨by simp [clean],rfl,cleanC_body,cleanC_body,by kernel_rfl,fun fam f i f' i' hne hi hi' hs hs' hg hk => bodyM_go (rs:=[]) rfl rfl ?_⟩
  have e1:∀ (fam:Fam) (j:Nat) (c:List AV),famE fam f' j c f = fam f:=fun _ _ _ => famE_off hne
  have e2:∀ (fam:Fam) (j:Nat) (c:List AV),famE fam f j c f' = fam f':=fun _ _ _ => famE_off (Ne.symm hne)
  have e3:∀ (fam:Fam) (j j':Nat) (c c':List AV),famE (famE fam f' j' c') f j c = famE (famE fam f j c) f' j' c':=fun _ _ _ _ _ => famE_comm hne
  simp only [go_sem,k179,k169,kw115,cBR_eq,mB_ptr,mbP_some,stepC_mbQ,ha,hb,k1,k2,k3,k4,k5,k6,k7,e1,e2,e3,hi,hi',hg,hk,← hs,← hs']
  intro c hc b' hb'
  rw [hc,hb']
 ·cases hF
def updB (B:Nat → Bd) (i:Nat) (b:Bd):Nat → Bd:=fun j => if j = i then b else B j
theorem updB_at {B:Nat → Bd} {i:Nat} {b:Bd}:updB B i b i = b:=if_pos rfl
theorem updB_off {B:Nat → Bd} {i j:Nat} {b:Bd} (h:j ≠ i):updB B i b j = B j:=if_neg h
theorem bsC_upd {B:Nat → Bd} {i:Nat} {b:Bd}:(fun j => if j = i then bodyC b else bsC B j) = bsC (updB B i b):=funext fun j => by
 unfold bsC updB
 split <;> rfl
theorem famT_upd {K N sz:Nat} {tp ty:TypeId} {B:Nat → Bd} {i:Nat} {b:Bd}:famT K N sz tp ty (fun j => if j = i then bodyC b else bsC B j) = famT K N sz tp ty (bsC (updB B i b)):=by rw [bsC_upd]
theorem famT_upd2 {K N sz:Nat} {tp ty:TypeId} {B:Nat → Bd} {i:Nat} {b:Bd}:famT K N sz tp ty (fun j => if j = i then bodyC b else bodyC (B j)) = famT K N sz tp ty (bsC (updB B i b)):=famT_upd
theorem tabOK_bs {K N:Nat} {B:Nat → Bd}:tabOK K N 27 92 96 (famT K N 27 92 96 (bsC B)) = True:=tabOK_T fun _ _ => rfl
theorem famOK_bs {K N:Nat} {B:Nat → Bd}:famOK K (famT K N 27 92 96 (bsC B)) = True:=famOK_T fun _ _ => rfl
attribute [go_sem] famT_upd famT_upd2 tabOK_bs famOK_bs bsC_at bsD_C
structure Ct where
 a:Int
 b:Int
 nv:V2
 n:Nat
 P:Nat → V2
 D:Nat → Nb
 p0:Nb
 p1:Nb
 r0:Nb
 r1:Nb
def tchC (p:V2) (d:Nb):List AV:=[i64 p.1.1,bo p.1.2,i64 p.2.1,bo p.2.2,i64 d.1,bo d.2]
def tchs (P:Nat → V2) (D:Nat → Nb):Nat → List AV:=fun j => tchC (P j) (D j)
theorem tchs_at {P:Nat → V2} {D:Nat → Nb} {j:Nat}:tchs P D j = tchC (P j) (D j):=(rfl)
def contC (c:Ct):List AV:=[i64 c.a,i64 c.b,i64 c.nv.1.1,bo c.nv.1.2,i64 c.nv.2.1,bo c.nv.2.2,.ro c.n 6 (tchs c.P c.D),
 i64 c.p0.1,bo c.p0.2,i64 c.p1.1,bo c.p1.2,i64 c.r0.1,bo c.r0.2,i64 c.r1.1,bo c.r1.2]
def tchP (g:Nat → List AV):Nat → V2:=fun j => ((gi (g j) 0,gib (g j) 1),(gi (g j) 2,gib (g j) 3))
def tchD (g:Nat → List AV):Nat → Nb:=fun j => (gi (g j) 4,gib (g j) 5)
def contD (l:List AV):Ct:=
 ⟨gi l 0,gi l 1,((gi l 2,gib l 3),(gi l 4,gib l 5)),roN l 6,tchP (roG l 6),tchD (roG l 6),(gi l 7,gib l 8),(gi l 9,gib l 10),(gi l 11,gib l 12),(gi l 13,gib l 14)⟩
theorem contD_C (c:Ct):contD (contC c) = c:=rfl
section
variable {a b x y p q r s:Int} {n:Nat} {P:Nat → V2} {D:Nat → Nb} {e f k l m o:Bool}
end
def inC (c:Ct):Prop:=inR c.a ∧ inR c.b ∧ inR c.nv.1.1 ∧ inR c.nv.2.1 ∧ (∀ j,j < c.n → inR (c.P j).1.1 ∧ inR (c.P j).2.1 ∧ inR (c.D j).1) ∧ inR c.p0.1 ∧ inR c.p1.1 ∧ inR c.r0.1 ∧ inR c.r1.1
theorem byt87:bytesT prog 87 = 48:=by kernel_rfl
section
variable {P:Program} {G:Ctx} {H:Hots} {K0:AEx → St → Prop} {hot:Option Hot} {ops:Array Oper} {d:Option Tmp} {rest:List Oper} {i k:Nat} {st:List Fr} {t:Slots} {m:Mem} {nx:Nat} {o:List Prop} {u:Upd} {b:Ct} {c:Bool}
theorem ofC_cont:ofC (some (true,15)) (contC b) = some (.agg (contC b)):=(rfl)
theorem cells_cont:cellsOf (.agg (contC b)) = some (contC b):=(rfl)
theorem drop_cont:(contC b).drop 15 = []:=(rfl)
theorem take_cont:(contC b).take 15 = contC b:=(rfl)
theorem cleanCs_cont:cleanCs (contC b) = true:=(rfl)
theorem clean_cont:clean 3 (.agg (contC b)) = true:=(rfl)
theorem cleanL_cont:cleanL 2 (contC b) = true:=(rfl)
theorem allCells_cont:allCells (contC b) = true:=(rfl)
theorem len_cont:(contC b).length = 15:=(rfl)
theorem purUL_cont:purUL 2 m (contC b) = contC b:=(rfl)
theorem pgsL_cont:pgsL 2 m (contC b) = []:=(rfl)
theorem purL_cont {d:Nat}:purL d m (contC b) = contC b:=by cases d <;> rfl
theorem bindL_cont:bindL P G H K0 hot ops d rest i st t m nx o u false [] (contC b) = bindC P G H K0 hot ops d rest i st t m nx o u (.agg (contC b)):=by
 unfold bindL; simp
end
attribute [go_sem] ofC_cont cells_cont drop_cont take_cont cleanCs_cont clean_cont cleanL_cont allCells_cont len_cont purUL_cont pgsL_cont purL_cont bindL_cont contD_C
def kCon:Con
 | [.agg l] => some ([l = contC (contD l),(contD l).n ≤ 1000],.agg (contC (contD l)))
 | _ => none
theorem con57:ConOK prog 57 kCon:=ConOK.of (G:=[]) (H:=[]) .nil func57 fun l ob r hc hob => by
 unfold kCon at hc
 split at hc
 ·rename_i l
  cases hc
  have e:l = contC (contD l):=hob _ (by simp)
  have hn:(contD l).n ≤ 1000:=hob _ (by simp)
  generalize contD l = c at *
  subst e
  refine ⟨by kernel_rfl,fnVC_go (rs:=[.cell 2 55]) rfl rfl ?_⟩
  simp only [contC,go_sem]
  exact ⟨fun _ _ => rfl,by rw [byt87]; omega,by omega,rfl⟩
 ·cases hc
def apB (N:Nat) (a b:Int):Prop:=0 ≤ a ∧ a < N ∧ 0 ≤ b ∧ b < N ∧ a ≠ b
instance {N:Nat} {a b:Int}:Decidable (apB N a b):=by unfold apB; infer_instance
def dpS (c:Ct):Nb:=if 1 < c.n then nMx (c.D 0) (c.D 1) else c.D 0
def parK (a b:Bd) (c:Ct):Nb:=nDiv (nMul (nPos (nSub (dpS c) (nRat 1 64))) (nRat 1 5)) (nAdd a.m b.m)
def parA (a b:Bd) (c:Ct):Bd:=shfS a (vSub a.pl (vScale c.nv (nMul (parK a b c) a.m)))
def parB (a b:Bd) (c:Ct):Bd:=shfS b (vAdd b.pl (vScale c.nv (nMul (parK a b c) b.m)))
def parT (N:Nat) (B:Nat → Bd) (c:Ct):Nat → Bd:=
 if apB N c.a c.b ∧ c.n ≠ 0 ∧ (nAdd (B c.a.toNat).m (B c.b.toNat).m).1 ≠ 0 then updB (updB B c.a.toNat (parA (B c.a.toNat) (B c.b.toNat) c)) c.b.toNat (parB (B c.a.toNat) (B c.b.toNat) c) else B
theorem whV_wh {v:Int}:whV (whV v) = whV v:=by unfold whV; (repeat' split) <;> omega
theorem whF_wh {v:Int} {f:Bool}:whF (whV v) f = f:=by
 unfold whF whV
 split
 ·simp
 ·rename_i h; simp [h]
theorem nMx_self {x:Nb}:nMx x x = nWh x:=by
 unfold nMx nWh
 rw [Bool.or_self]
 split <;> rfl
theorem nMx_wh {x y:Nb}:nMx (nWh x) y = nMx x y:=by
 unfold nMx nWh
 dsimp only
 rw [whV_wh,whF_wh]
theorem nSub_wh {x y:Nb}:nSub (nWh x) y = nSub x y:=by
 unfold nSub nWh
 dsimp only
 rw [whV_wh,whF_wh]
def dpq (c:Ct):Nat → Nb
 | 0 => c.D 0
 | 1 => nMx (c.D 0) (c.D 0)
 | _ + 2 => nMx (nMx (c.D 0) (c.D 0)) (c.D 1)
theorem dpq_succ {c:Ct} {i:Nat} (h:i < 2):dpq c (i + 1) = nMx (dpq c i) (c.D i):=by
 match i with
 | 0 => rfl
 | 1 => rfl
 | i + 2 => omega
theorem dpq_in {c:Ct} (h:∀ j,j < c.n → inR (c.D j).1) (hn:c.n ≠ 0):∀ i,i ≤ min 2 c.n → inR (dpq c i).1
 | 0,_ => h 0 (by omega)
 | 1,_ => of_eq_true (iMx (h 0 (by omega)) (h 0 (by omega)))
 | i + 2,hi => by
  unfold dpq
  rw [nMx_self,nMx_wh]
  by_cases h1:1 < c.n
  ·exact of_eq_true (iMx (h 0 (by omega)) (h 1 h1))
  ·exact absurd h1 (by omega)
def parF:Nat → (Nat → List AV) → List AV → Option (List Prop × AV × (Nat → List AV))
 | N,get,[.agg l] => some ([get = bsC (bsD get),inBs N (bsD get),N ≤ 1000,l = contC (contD l),inC (contD l),(contD l).n ≤ 1000],.tup [],bsC (parT N (bsD get) (contD l)))
 | _,_,_ => none
def mPar:MCon:=mcT 27 92 96 parF
theorem con60m:MConOK prog 60 mPar:=MConOK.mcT (G:=[(107,.wr mTwo),(49,k214),(88,kw153),(52,k132),(111,k160),(47,k129),(78,k168),(44,k169),(114,k172),(113,.wr kw156),(43,k130)]) (H:=[(7,⟨[(10,.slot 7)],[]⟩),(9,⟨[(14,.made 13)],[]⟩),(11,⟨[(7,.made 6)],[]⟩),(12,⟨[(6,.made 5)],[]⟩),(13,⟨[(20,.call)],[]⟩),(14,⟨[(21,.call)],[]⟩)]) (.mcons con107m (.cons kon214 (.cons konw153 (.cons kon132 (.cons kon160 (.cons kon129 (.cons kon168 (.cons kon169 (.cons kon172 (.mcons konw156 (.cons kon130 .nil))))))))))) func60 fun N get rest ob val get' hF hob hcl => by
 unfold parF at hF
 split at hF
 ·rename_i l
  cases hF
  have h1:get = bsC (bsD get):=hob _ (by simp)
  have hB:inBs N (bsD get):=hob _ (by simp)
  have hN:N ≤ 1000:=hob _ (by simp)
  have h2:l = contC (contD l):=hob _ (by simp)
  have hc:inC (contD l):=hob _ (by simp)
  have hn:(contD l).n ≤ 1000:=hob _ (by simp)
  clear hob
  generalize bsD get = B at *
  generalize contD l = c at *
  subst h1 h2
  refine ⟨by simp [clean,contC],rfl,fun i _ => rfl,by kernel_rfl,bodyM_go (rs:=[]) rfl rfl ?_⟩
  simp only [contC,go_sem,k214,kw153,k132,k160,k129,k168,k169,k172,kw156,k130,mTwo,tchs_at,tchC]
  obtain ⟨c1,c2,c3,c4,c5,c6,c7,c8,c9⟩:=id hc
  refine ⟨fun hap z hz => ⟨hN,fun h => ?_,fun h => ⟨by have:=h.2; simp at this; omega,fun z1 hz1 => ?_⟩⟩,fun hap z hz => ⟨hN,fun h => ?_,fun h => by simp [hz] at h⟩⟩
  ·have e:parT N B c = B:=if_neg fun hh => by
    rcases h with h | h
    ·rw [hz] at h; cases h
    ·exact hh.2.1 (by simpa using h)
   rw [e]
  ·have hn0:c.n ≠ 0:=by have:=h.2; intro e; rw [e] at this; simp at this
   have hz1':z1 = ((min 2 c.n:Nat):Int):=by rw [hz1]; omega
   generalize hM:min 2 c.n = M at *
   subst hz1'
   refine loopC_go (fun (i:Nat) => i ≤ M) (fun i => M - i) (fun i => [(42,i64 (i:Int))]) (fun i => [(30,fam1 27 2 [i64 (dpq c i).1,bo (dpq c i).2] none)]) [1,0] [43,44,8,45,46,47,48,49,50,51,52,53,54,55,42] 0 (by kernel_rfl) ?_ (Nat.zero_le _) ?_ ?_
   ·intro x _; simp [goodNames,asg]
   ·simp only [go_sem,dpq]
   intro i hi
   have hdi:=dpq_in (c:=c) (fun j hj => (c5 j hj).2.2) hn0 i (by omega)
   obtain ⟨a1,a2,a3,a4,a5⟩:=id hap
   obtain ⟨i1,i2⟩:=hB c.a.toNat (by omega)
   obtain ⟨i3,i4⟩:=hB c.b.toNat (by omega)
   obtain ⟨p1,p2,p3,p4,p5,p6,p7,p8,p9,p10,p11,p12,p13,p14,p15,p16⟩:=id i1
   obtain ⟨q1,q2,q3,q4,q5,q6,q7,q8,q9,q10,q11,q12,q13,q14,q15,q16⟩:=id i3
   have hne:¬ c.b.toNat = c.a.toNat:=by omega
   simp only [go_sem,k214,kw153,k132,k160,k129,k168,k169,k172,kw156,k130,tchs_at,tchC,mB_ptr,mbP_some,stepC_mbQ,nums_rows,gx_rows1,gx_rows2,gb_rows1,gb_rows2,hdi,c3,c4,i1,i3,p6,p7,p13,q6,q7,q13,hne,if_false]
   refine ⟨fun hiM => ?_,fun hiM => ?_⟩
   ·have hin:i < c.n:=by omega
    refine ⟨by omega,by omega,(c5 i hin).2.2,fun z2 hz2 => ⟨i + 1,by omega,by omega,by rw [hz2,wrap_in (inRo (by omega))]; rfl,?_⟩⟩
    rw [dpq_succ (by omega)]
    exact ⟨rfl,rfl⟩
   ·have hiM:i = M:=by omega
    subst hiM
    have hd:nSub (dpq c i) (nRat 1 64) = nSub (dpS c) (nRat 1 64):=by
     unfold dpS
     split
     ·have e:i = 2:=by omega
      subst e
      show nSub (nMx (nMx (c.D 0) (c.D 0)) (c.D 1)) _ = _
      rw [nMx_self,nMx_wh]
     ·have e:i = 1:=by omega
      subst e
      show nSub (nMx (c.D 0) (c.D 0)) _ = _
      rw [nMx_self,nSub_wh]
    rw [hd]
    have ha:c.a.toNat < N:=by omega
    have hb:c.b.toNat < N:=by omega
    have hof:∀ b',updB B c.a.toNat b' c.b.toNat = B c.b.toNat:=fun b' => updB_off hne
    simp only [hof]
    refine ⟨ha,hb,fun hk => ?_,fun hk => ⟨inRo (by omega),inRo (by omega),ha,ha,fun b1 hb1 => ⟨ha,hb,hb,q13,⟨q6,q7⟩,fun b2 hb2 => ⟨hb,i3,?_⟩⟩⟩⟩
    ·have e:parT N B c = B:=if_neg fun hh => hh.2.2 (by simpa using hk)
     rw [e]
    ·have e:parT N B c = updB (updB B c.a.toNat (parA (B c.a.toNat) (B c.b.toNat) c)) c.b.toNat (parB (B c.a.toNat) (B c.b.toNat) c):=if_pos ⟨hap,hn0,by simpa using hk⟩
     rw [e,hb1,hb2]
     rfl
  ·have e:parT N B c = B:=if_neg fun hh => hap hh.1
   rw [e]
 ·cases hF
theorem inB_shf {b:Bd} {p:V2} (h:inB b) (h1:inR p.1.1) (h2:inR p.2.1):inB (shfS b p):=by
 unfold shfS
 split
 ·obtain ⟨b1,b2,b3,b4,b5,b6,b7,b8,b9,b10,b11,b12,b13,b14,b15,b16⟩:=h
  exact ⟨b1,b2,b3,b4,b5,h1,h2,b8,b9,b10,b11,b12,b13,b14,b15,b16⟩
 ·exact h
theorem shf_n {b:Bd} {p:V2}:(shfS b p).n = b.n:=by unfold shfS; split <;> rfl
theorem par_in {N:Nat} {B:Nat → Bd} {c:Ct} (h:inBs N B):inBs N (parT N B c):=by
 unfold parT
 split
 ·rename_i hh
  have hap:=hh.1
  unfold apB at hap
  intro j hj
  have hA:=h c.a.toNat (by omega)
  have hC:=h c.b.toNat (by omega)
  unfold updB
  split
  ·exact ⟨inB_shf hC.1 (of_eq_true iVAdd1) (of_eq_true iVAdd2),by unfold parB; rw [shf_n]; exact hC.2⟩
  ·split
   ·exact ⟨inB_shf hA.1 (of_eq_true iVSub1) (of_eq_true iVSub2),by unfold parA; rw [shf_n]; exact hA.2⟩
   ·exact h j hj
 ·exact h
def tellE (key K N:Nat):Option Fam → Option Eff
 | some fam => some ⟨[tabOK K N 27 92 96 fam,N ≤ 1000,∀ i,i < N → ((fam (i + 1)).get 0).length = 27 ∧ allCells ((fam (i + 1)).get 0) = true],.own key 0 N 27,.many [] (some (famN N 27 40 (fun i => (fam (i + 1)).get 0) none))⟩
 | none => none
theorem mNtel_at {key:Nat} {m:Mem} {K N:Nat}:mNtel key m [.own K 0 N 1] = tellE key K N (look m K):=by
 show (match look m K with
  | some fam => some (⟨[tabOK K N 27 92 96 fam,N ≤ 1000,∀ i,i < N → ((fam (i + 1)).get 0).length = 27 ∧ allCells ((fam (i + 1)).get 0) = true],.own key 0 N 27,.many [] (some (famN N 27 40 (fun i => (fam (i + 1)).get 0) none))⟩:Eff)
  | none => none) = _
 cases look m K <;> rfl
theorem tellE_bs {key K N:Nat} {B:Nat → Bd}:tellE key K N (some (famT K N 27 92 96 (bsC B))) = some ⟨[True,N ≤ 1000,True],.own key 0 N 27,.many [] (some (famN N 27 40 (bsC B) none))⟩:=by
 show some (⟨[tabOK K N 27 92 96 (famT K N 27 92 96 (bsC B)),N ≤ 1000,∀ i,i < N → (bsC B i).length = 27 ∧ allCells (bsC B i) = true],.own key 0 N 27,.many [] (some (famN N 27 40 (bsC B) none))⟩:Eff) = _
 rw [tabOK_bs,eq_true (show ∀ i,i < N → (bsC B i).length = 27 ∧ allCells (bsC B i) = true from fun i _ => ⟨rfl,rfl⟩)]
attribute [go_sem] mNtel_at tellE_bs mNlay_eq
theorem byt40:bytesT prog 40 = 224:=by kernel_rfl
def bsF:List AV → Option (List Prop × Nat × (Nat → List AV))
 | [.ro N 27 g] => some ([g = bsC (bsD g),N ≤ 1000,inBs N (bsD g)],N,g)
 | _ => none
def mNbs:MCon:=mcV 27 40 bsF
theorem mNbs_eq {key:Nat} {m:Mem} {N:Nat} {g:Nat → List AV}:mNbs key m [.ro N 27 g] = some ⟨[g = bsC (bsD g),N ≤ 1000,inBs N (bsD g)],.own key 0 N 27,.many [] (some (famN N 27 40 g none))⟩:=(rfl)
attribute [go_sem] mNbs_eq
theorem famN_upd {N:Nat} {B:Nat → Bd} {i:Nat} {b:Bd}:famN N 27 40 (fun j => if j = i then bodyC b else bodyC (B j)) none = famN N 27 40 (bsC (updB B i b)) none:=by rw [← bsC_upd]; rfl
theorem famN_upd2 {N:Nat} {B:Nat → Bd} {i:Nat} {b:Bd}:famN N 27 40 (fun j => if j = i then bodyC b else bsC B j) none = famN N 27 40 (bsC (updB B i b)) none:=famN_upd
attribute [go_sem] famN_upd famN_upd2
def manC (v:V2) (n:Nat) (P:Nat → V2) (D:Nat → Nb):AV:=.agg [i64 v.1.1,bo v.1.2,i64 v.2.1,bo v.2.2,.ro n 6 (tchs P D)]
theorem eqE_ownnil {P:Program} {q:TypeId} {xo yo:Operand} {neg:Bool} {r f n sz:Nat} {e:TypeId} (h:P.underlying q = some (.slice e)):eqE P neg q xo yo (.own r f (n + 1) sz) (.v (.slice none 0 0)) = some ⟨[],.v (.bool (negV neg false)),.none⟩:=by
 have e1:aNil P q (.own r f (n + 1) sz) (.v (.slice none 0 0)) = some false:=by
  show (match P.underlying q with | some (.slice _) => some false | _ => none) = _
  rw [h]
 have e2:aEq P q (.own r f (n + 1) sz) (.v (.slice none 0 0)) = some false:=by
  unfold aEq
  rw [e1]
 unfold eqE
 rw [e2]
theorem eqE_nilS {P:Program} {q:TypeId} {xo yo:Operand} {neg:Bool} {e:TypeId} (h:P.underlying q = some (.slice e)):eqE P neg q xo yo (.v (.slice none 0 0)) (.v (.slice none 0 0)) = some ⟨[],.v (.bool (negV neg true)),.none⟩:=by
 have he:pureRun P (Op.equal q (.slice none 0 0) (.slice none 0 0)) = some true:=by
  show pureRun P (Op.equalIn (9999 + 1) q (.slice none 0 0) (.slice none 0 0)) = _
  unfold Op.equalIn
  show pureRun P (Sem.bind _ _) = _
  rw [pureRun_bind,pureRun_under h]
  rfl
 unfold eqE
 have h0:aEq P q (.v (.slice none 0 0)) (.v (.slice none 0 0)) = none:=by
  unfold aEq
  show (match eqOkT P q with | true => _ | false => _) = _
  cases eqOkT P q <;> rfl
 rw [h0]
 dsimp only [flat]
 have hg:∀ op,eqGuard op q xo yo (.slice none 0 0) (.slice none 0 0) = Sem.pure ():=fun op => by
  cases op <;> rfl
 rw [hg]
 cases neg
 ·show (match pureRun P (Sem.bind (Op.equal q (.slice none 0 0) (.slice none 0 0)) fun b => Sem.pure (Value.bool b)) with | some v => _ | none => _) = _
  rw [pureRun_bind,he]; rfl
 ·show (match pureRun P (Sem.bind (Op.equal q (.slice none 0 0) (.slice none 0 0)) fun b => Sem.pure (Value.bool (!b))) with | some v => _ | none => _) = _
  rw [pureRun_bind,he]; rfl
theorem eq50wn {xo yo:Operand} {neg:Bool}:eqE prog neg 50 xo yo (.v (.slice none 0 0)) (.v (.slice none 0 0)) = some ⟨[],.v (.bool (negV neg true)),.none⟩:=eqE_nilS underlying50
theorem eq56o1 {xo yo:Operand} {neg:Bool} {r f sz:Nat}:eqE prog neg 50 xo yo (.own r f 1 sz) (.v (.slice none 0 0)) = some ⟨[],.v (.bool (negV neg false)),.none⟩:=eqE_ownnil (n:=0) underlying50
theorem eq56o2 {xo yo:Operand} {neg:Bool} {r f sz:Nat}:eqE prog neg 50 xo yo (.own r f 2 sz) (.v (.slice none 0 0)) = some ⟨[],.v (.bool (negV neg false)),.none⟩:=eqE_ownnil (n:=1) underlying50
attribute [go_sem] eq50wn eq56o1 eq56o2
end Go.Ax
end