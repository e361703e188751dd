/-
  Contracts of functions that write rows, made to measure: one element that is pointed at; two of them; a table; a table and an element; new rows.
-/
import Derived.Test.YtempjfjppjfciaaGreatCM5
set_option linter.unusedVariables false
set_option linter.unusedSimpArgs false
section
namespace Go.Ax
def cleanC:AV → Bool
 | .v _ => true
 | .any => true
 | .ro _ _ _ => true
 | .rop _ => true
 | _ => false
theorem cleanC_ren {θ:Nat → Nat → Nat × Nat} {g:Nat → Nat → Prop} {B:Nat → Prop} {a:AV} (h:cleanC a = true) (d:Nat):renA θ d a = a ∧ kg g B d a:=by
 cases a <;> simp [cleanC] at h <;> (cases d <;> exact ⟨rfl,trivial⟩)
theorem cleanL_ren {θ:Nat → Nat → Nat × Nat} {g:Nat → Nat → Prop} {B:Nat → Prop}:∀ {l:List AV},(∀ c ∈ l,cleanC c = true) → l.map (renA θ 3) = l ∧ ∀ c ∈ l,kg g B 3 c
 | [],_ => ⟨rfl,by simp⟩
 | a :: l,h => by
  obtain ⟨h1,h2⟩:=cleanC_ren (θ:=θ) (g:=g) (B:=B) (h a (by simp)) 3
  obtain ⟨h3,h4⟩:=cleanL_ren (θ:=θ) (g:=g) (B:=B) (l:=l) (fun c hc => h c (by simp [hc]))
  refine ⟨by rw [List.map_cons,h1,h3],fun c hc => ?_⟩
  rcases List.mem_cons.1 hc with e | hc
  ·rw [e]; exact h2
  ·exact h4 c hc
theorem map_id_of {f:AV → AV}:∀ {l:List AV},(∀ a ∈ l,f a = a) → l.map f = l
 | [],_ => rfl
 | a :: l,h => by rw [List.map_cons,h a (by simp),map_id_of fun b hb => h b (by simp [hb])]
theorem clean_ren {θ:Nat → Nat → Nat × Nat} {g:Nat → Nat → Prop} {B:Nat → Prop}:∀ (d:Nat) (a:AV),clean d a = true → renA θ d a = a ∧ kg g B d a
 | d,.v _,_ => by cases d <;> exact ⟨rfl,trivial⟩
 | d,.any,_ => by cases d <;> exact ⟨rfl,trivial⟩
 | d,.ro _ _ _,_ => by cases d <;> exact ⟨rfl,trivial⟩
 | d,.rop _,_ => by cases d <;> exact ⟨rfl,trivial⟩
 | d + 1,.agg cs,h => by
  simp only [clean,List.all_eq_true] at h
  refine ⟨?_,fun c hc => (clean_ren (θ:=θ) d c (h c hc)).2⟩
  simp only [renA]
  rw [map_id_of fun a ha => (clean_ren (g:=g) (B:=B) d a (h a ha)).1]
 | d + 1,.tup cs,h => by
  simp only [clean,List.all_eq_true] at h
  refine ⟨?_,fun c hc => (clean_ren (θ:=θ) d c (h c hc)).2⟩
  simp only [renA]
  rw [map_id_of fun a ha => (clean_ren (g:=g) (B:=B) d a (h a ha)).1]
 | d + 1,.fn f cs,h => by
  simp only [clean,List.all_eq_true] at h
  refine ⟨?_,fun c hc => (clean_ren (θ:=θ) d c (h c hc)).2⟩
  simp only [renA]
  rw [map_id_of fun a ha => (clean_ren (g:=g) (B:=B) d a (h a ha)).1]
 | d + 1,.iface t x,h => by
  simp only [clean] at h
  obtain ⟨h1,h2⟩:=clean_ren (θ:=θ) (g:=g) (B:=B) d x h
  exact ⟨by simp only [renA]; rw [h1],h2⟩
 | d + 1,.cond b x,h => by
  simp only [clean] at h
  obtain ⟨h1,h2⟩:=clean_ren (θ:=θ) (g:=g) (B:=B) d x h
  exact ⟨by simp only [renA]; rw [h1],h2⟩
 | 0,.agg _,h => by simp [clean] at h
 | 0,.tup _,h => by simp [clean] at h
 | 0,.fn _ _,h => by simp [clean] at h
 | 0,.iface _ _,h => by simp [clean] at h
 | 0,.cond _ _,h => by simp [clean] at h
 | 0,.bx _ _,h => by simp [clean] at h
 | 0,.ptr _ _ _ _ _,h => by simp [clean] at h
 | 0,.own _ _ _ _,h => by simp [clean] at h
 | 0,.vw _ _ _ _ _,h => by simp [clean] at h
 | d + 1,.bx _ _,h => by simp [clean] at h
 | d + 1,.ptr _ _ _ _ _,h => by simp [clean] at h
 | d + 1,.own _ _ _ _,h => by simp [clean] at h
 | d + 1,.vw _ _ _ _ _,h => by simp [clean] at h
theorem cleans_ren {θ:Nat → Nat → Nat × Nat} {g:Nat → Nat → Prop} {B:Nat → Prop} {l:List AV} (h:∀ a ∈ l,clean 3 a = true):l.map (renA θ 3) = l ∧ ∀ a ∈ l,kg g B 3 a:=
 ⟨map_id_of fun a ha => (clean_ren (g:=g) (B:=B) 3 a (h a ha)).1,fun a ha => (clean_ren (θ:=θ) 3 a (h a ha)).2⟩
section
variable {P:Program} {G:Ctx} {H:Hots} {t:Slots} {m:Mem} {nx:Nat} {Q:AV → Mem → Prop} {rs:List ResultVar} {l:List AV} {a:AV}
def tupOf:List AV → AV
 | [a] => a
 | l => .tup l
theorem tupOf_nil:tupOf [] = .tup []:=(rfl)
theorem tupOf_one:tupOf [a] = a:=(rfl)
theorem tupOf_two {b:AV}:tupOf (a :: b :: l) = .tup (a :: b :: l):=(rfl)
def retML (P:Program) (t:Slots) (m:Mem) (Q:AV → Mem → Prop):List ResultVar → List AV → Prop
 | [],l => Q (tupOf l) m
 | r :: rs,l => match resE P t m r with
  | some e => conj e.ob (retML P t m Q rs (l ++ [e.val]))
  | none => False
def retMS (P:Program) (t:Slots) (m:Mem) (Q:AV → Mem → Prop) (rs:List ResultVar) (l:List AV) (x:Option Eff):Prop:=match x with
 | some e => conj e.ob (retML P t m Q rs (l ++ [e.val]))
 | none => False
theorem retML_nil:retML P t m Q [] l = Q (tupOf l) m:=(rfl)
theorem retML_cons {r:ResultVar}:retML P t m Q (r :: rs) l = retMS P t m Q rs l (resE P t m r):=(rfl)
theorem retMS_some {ob:List Prop} {u:Upd}:retMS P t m Q rs l (some ⟨ob,a,u⟩) = conj ob (retML P t m Q rs (l ++ [a])):=(rfl)
def endMR (P:Program) (rs:List ResultVar) (Q:AV → Mem → Prop) (e:AEx) (s:St):Prop:=match e with
 | .exit _ => False
 | _ => retML P s.t s.m Q rs []
theorem endMR_ret:endMR P rs Q .ret ⟨t,m,nx⟩ = retML P t m Q rs []:=(rfl)
theorem endMR_normal:endMR P rs Q .normal ⟨t,m,nx⟩ = retML P t m Q rs []:=(rfl)
theorem retML_sound {s:St}:∀ {rs:List ResultVar} {l:List AV},retML P s.t s.m Q rs l → ∃ ob es,resList P s rs = some (ob,es) ∧ (∀ p ∈ ob,p) ∧ Q (tupOf (l ++ es)) s.m
 | [],l,h => ⟨[],[],rfl,by simp,by simpa [retML] using h⟩
 | r :: rs,l,h => by
  simp only [retML] at h
  split at h
  ·rename_i e he
   obtain ⟨ob,es,h1,h2,h3⟩:=retML_sound (rs:=rs) (conj_iff.1 h).2
   refine ⟨e.ob ++ ob,e.val :: es,?_,fun p hp => ?_,by simpa using h3⟩
   ·simp only [resList,resOf_E he,h1]
   ·rcases List.mem_append.1 hp with hp | hp
    ·exact (conj_iff.1 h).1 p hp
    ·exact h2 p hp
  ·exact h.elim
theorem endMR_sound {s:St} {fn:Func} (hr:fn.results.toList = rs) {e:AEx} (h:endMR P rs Q e s):endM P fn Q e s:=by
 have key:retML P s.t s.m Q rs [] → match resAll P s fn.results.toList with
   | some (ob,a) => conj ob (Q a s.m)
   | none => False:=fun h => by
  obtain ⟨ob,es,h1,h2,h3⟩:=retML_sound h
  rw [hr]
  simp only [resAll,h1]
  rw [List.nil_append] at h3
  cases es with
  | nil => exact conj_iff.2 ⟨h2,h3⟩
  | cons a es => cases es with
   | nil => exact conj_iff.2 ⟨h2,h3⟩
   | cons b es => exact conj_iff.2 ⟨h2,h3⟩
 cases e with
 | exit j => exact h.elim
 | normal => exact key h
 | ret => exact key h
def bodyM (P:Program) (G:Ctx) (H:Hots) (fn:Func) (es:List AV) (m:Mem) (nx:Nat) (Q:AV → Mem → Prop):Prop:=∃ cd,fn.body = some cd ∧ awp P G H cd ⟨argSlots 0 es,m,nx⟩ (endM P fn Q)
theorem bodyM_go {fn:Func} {c:Code} {es:List AV} (hb:fn.body = some c) (hr:fn.results.toList = rs) (h:goC P G H (endMR P rs Q) c [] ⟨argSlots 0 es,m,nx⟩):bodyM P G H fn es m nx Q:=
 ⟨c,hb,awp_mono (fun e s h => endMR_sound hr h) h⟩
theorem bodyM.mono {fn:Func} {es:List AV} {Q':AV → Mem → Prop} (h:bodyM P G H fn es m nx Q) (hq:∀ a m,Q a m → Q' a m):bodyM P G H fn es m nx Q':=by
 obtain ⟨cd,h1,h2⟩:=h
 refine ⟨cd,h1,awp_mono (fun e s h => ?_) h2⟩
 cases e with
 | exit j => exact h
 | normal =>
  simp only [endM] at h ⊢
  split at h
  ·rename_i ob x hx; exact conj_mono (hq _ _) h
  ·exact h
 | ret =>
  simp only [endM] at h ⊢
  split at h
  ·rename_i ob x hx; exact conj_mono (hq _ _) h
  ·exact h
end
def alike (x y:Row):Prop:=y.n = x.n ∧ y.sz = x.sz ∧ y.ty = x.ty ∧ y.g = x.g ∧ ∀ i,i < x.n → y.get i = x.get i
theorem alike.refl (x:Row):alike x x:=⟨rfl,rfl,rfl,rfl,fun _ _ => rfl⟩
def cleanCs:List AV → Bool
 | [] => true
 | a :: l => cleanC a && cleanCs l
theorem cleanCs_mem:∀ {l:List AV},cleanCs l = true → ∀ c ∈ l,cleanC c = true
 | [],_,c,h => by cases h
 | a :: l,h,c,hc => by
  simp only [cleanCs,Bool.and_eq_true] at h
  rcases List.mem_cons.1 hc with e | hc
  ·rw [e]; exact h.1
  ·exact cleanCs_mem h.2 c hc
def selfC (r:Nat):AV → Bool
 | .ptr q _ _ _ _ => decide (q = r)
 | a => cleanC a
def bk:AV → AV
 | .ptr _ f i sz k => .ptr 0 f i sz k
 | a => a
def famBk (fam:Fam):Fam:=fun f => { fam f with get:=fun j => ((fam f).get j).map bk }
def famOK (r:Nat) (fam:Fam):Prop:=∀ f,(fam f).g = none ∧ ∀ j,j < (fam f).n → ∀ c ∈ (fam f).get j,selfC r c = true
theorem bk_clean {c:AV} (h:cleanC c = true):bk c = c:=by cases c <;> first | rfl | simp [cleanC] at h
theorem bks_clean:∀ {l:List AV},(∀ c ∈ l,cleanC c = true) → l.map bk = l
 | [],_ => rfl
 | a :: l,h => by rw [List.map_cons,bk_clean (h a (by simp)),bks_clean fun c hc => h c (by simp [hc])]
theorem selfC_ren {r:Nat} {θ:Nat → Nat → Nat × Nat} {g:Nat → Nat → Prop} {B:Nat → Prop} (hθ:∀ f,θ 0 f = (r,f)) (hg:∀ f,g 0 f) {c:AV} (h:selfC r c = true):renA θ 3 (bk c) = c ∧ kg g B 3 (bk c):=by
 cases c with
 | ptr q f i sz k =>
  simp only [selfC,decide_eq_true_eq] at h
  subst h
  refine ⟨?_,hg f⟩
  show AV.ptr (θ 0 f).1 (θ 0 f).2 i sz k = _
  rw [hθ]
 | v x => exact ⟨rfl,trivial⟩
 | any => exact ⟨rfl,trivial⟩
 | ro n sz get => exact ⟨rfl,trivial⟩
 | rop cs => exact ⟨rfl,trivial⟩
 | _ => simp [selfC,cleanC] at h
theorem rowRen_self {r:Nat} {θ:Nat → Nat → Nat × Nat} {g:Nat → Nat → Prop} {B:Nat → Prop} (hθ:∀ f,θ 0 f = (r,f)) (hg:∀ f,g 0 f) {x:Row} (h:∀ j,j < x.n → ∀ c ∈ x.get j,selfC r c = true):rowRen θ g B { x with get:=fun j => (x.get j).map bk } x:=by
 refine ⟨rfl,rfl,rfl,rfl,fun j hj => ?_⟩
 have h1:=h j hj
 refine ⟨?_,fun c hc => ?_⟩
 ·dsimp only
  rw [List.map_map]
  exact (map_id_of fun a ha => (selfC_ren (g:=g) (B:=B) hθ hg (h1 a ha)).1).symm
 ·dsimp only at hc
  obtain ⟨c0,hc0,rfl⟩:=List.mem_map.1 hc
  exact (selfC_ren (θ:=θ) hθ hg (h1 c0 hc0)).2
theorem famBk_E {fam:Fam} {f i:Nat} {cs:List AV} (h:∀ c ∈ cs,cleanC c = true):famBk (famE fam f i cs) = famE (famBk fam) f i cs:=by
 funext f'
 unfold famBk famE
 by_cases e:f' = f
 ·subst e
  simp only [if_true]
  congr 1
  funext j
  by_cases e:j = i
  ·simp only [e,if_true]; exact bks_clean h
  ·simp [e]
 ·simp [e]
theorem famOK_E {r:Nat} {fam:Fam} {f i:Nat} {cs:List AV} (h:famOK r fam) (hc:∀ c ∈ cs,cleanC c = true):famOK r (famE fam f i cs):=fun f' => by
 refine ⟨by rw [famE_g]; exact (h f').1,fun j hj c hcm => ?_⟩
 rw [famE_n] at hj
 by_cases e:f' = f
 ·subst e
  simp only [famE,if_true] at hcm
  split at hcm
  ·have:=hc c hcm
   cases c <;> first | exact this | simp [cleanC] at this
  ·exact (h f').2 j hj c hcm
 ·rw [famE_off e] at hcm
  exact (h f').2 j hj c hcm
theorem famOK_bk {r:Nat} {fam:Fam} (h:famOK r fam):famOK 0 (famBk fam):=fun f => by
 refine ⟨(h f).1,fun j hj c hc => ?_⟩
 obtain ⟨c0,h0,rfl⟩:=List.mem_map.1 hc
 have:=(h f).2 j hj c0 h0
 cases c0 <;> first | rfl | exact this | simp [selfC,cleanC] at this
theorem rowRen_clean' {θ:Nat → Nat → Nat × Nat} {g:Nat → Nat → Prop} {B:Nat → Prop} {x0 x:Row} (h:alike x0 x) (hc:∀ j,j < x0.n → ∀ c ∈ x0.get j,cleanC c = true):rowRen θ g B x0 x:=by
 obtain ⟨h1,h2,h3,h4,h5⟩:=h
 refine ⟨h1,h2,h3,h4,fun j hj => ?_⟩
 obtain ⟨k1,k2⟩:=cleanL_ren (θ:=θ) (g:=g) (B:=B) (hc j hj)
 exact ⟨by rw [k1]; exact h5 j hj,k2⟩
theorem look_one {k:Nat} {x:Fam}:look [(k,x)] k = some x:=by simp [look]
theorem thE_0 {r:Nat}:∀ f,thE [r] 0 f = (r,f):=fun f => rfl
theorem thL_0 {r key:Nat} {l:List Nat} {th:Nat → Nat → Nat}:∀ f,thL (r :: l) key th 0 f = (r,f):=fun f => by simp [thL]
theorem lowG_0:∀ f,lowG 1 0 f:=fun _ => Nat.zero_lt_one
theorem newG_0 {N:Nat} {σ:Nat → Option (Nat × Nat)} {th:Nat → Nat → Nat} (h:0 < N):∀ f,newG N σ th 0 f:=fun _ => .inl h
section
variable {P:Program} {G:Ctx} {H:Hots} {f:FuncId} {fn:Func}
theorem one_okG {r key:Nat} {fam fam' x0 y0:Fam} {m:Mem} {es es0:List AV} {val val0:AV} {ob:List Prop} (hl:look m r = some fam) (h1:∀ f,(fam f).g = none ∧ rowRen (thE [r]) (lowG 1) (lowB 1) (x0 f) (fam f))
  (h2:∀ th σ f,rowRen (thL [r] key th) (newG 1 σ th) (newB 1 σ) (y0 f) (fam' f) ∧ (y0 f).g ≠ some false) (ha:es = es0.map (renA (thE [r]) 3)) (hak:∀ a ∈ es0,kg (lowG 1) (lowB 1) 3 a)
  (hfn:funcOK P H fn es0.length = true) (hv:∀ th:Nat → Nat → Nat,∀ σ:Nat → Option (Nat × Nat),val = renA (thL [r] key th) 3 val0 ∧ kg (newG 1 σ th) (newB 1 σ) 3 val0)
  (hb:bodyM P G H fn es0 [(0,x0)] 1 fun a m1 => a = val0 ∧ look m1 0 = some y0) :
  ∃ ks m0 as0,Entry ks m m0 es as0 ∧ funcOK P H fn as0.length = true ∧ bodyM P G H fn as0 m0 ks.length fun a m1 => ∃ σ th ys nw,(⟨ob,val,.many [(r,fam')] none⟩:Eff).u = .many (ks.zip ys) nw ∧ Leave key ks σ th m1 a ys nw val:=by
 refine ⟨[r],[(0,x0)],es0,⟨by simp,ha,hak,fun j hj => ?_,fun q x hq => ?_⟩,hfn,hb.mono fun a m1 ⟨q1,q2⟩ => ?_⟩
 ·have:j = 0:=by simp at hj; omega
  subst this
  exact ⟨_,fam,look_one,hl,h1⟩
 ·by_cases e:q = 0
  ·subst e; simp
  ·simp [look,Ne.symm e] at hq
 ·obtain ⟨v1,v2⟩:=hv (fun _ _ => 0) (fun _ => none)
  refine ⟨fun _ => none,fun _ _ => 0,[fam'],none,rfl,⟨fun f r g h => by simp at h,by rw [q1]; exact v1,by rw [q1]; exact v2,rfl,fun j hj => ?_,fun _ => rfl⟩⟩
  have:j = 0:=by simp at hj; omega
  subst this
  exact ⟨_,_,q2,rfl,h2 _ _⟩
theorem one_ok {r key:Nat} {fam fam':Fam} {m:Mem} {es es0:List AV} {val val0:AV} {ob:List Prop} (hl:look m r = some fam) (h1:famOK r fam) (h2:famOK r fam') (ha:es = es0.map (renA (thE [r]) 3)) (hak:∀ a ∈ es0,kg (lowG 1) (lowB 1) 3 a)
  (hfn:funcOK P H fn es0.length = true) (hv:∀ th:Nat → Nat → Nat,∀ σ:Nat → Option (Nat × Nat),val = renA (thL [r] key th) 3 val0 ∧ kg (newG 1 σ th) (newB 1 σ) 3 val0)
  (hb:bodyM P G H fn es0 [(0,famBk fam)] 1 fun a m1 => a = val0 ∧ look m1 0 = some (famBk fam')) :
  ∃ ks m0 as0,Entry ks m m0 es as0 ∧ funcOK P H fn as0.length = true ∧ bodyM P G H fn as0 m0 ks.length fun a m1 => ∃ σ th ys nw,(⟨ob,val,.many [(r,fam')] none⟩:Eff).u = .many (ks.zip ys) nw ∧ Leave key ks σ th m1 a ys nw val:=
 one_okG hl (fun f => ⟨(h1 f).1,rowRen_self thE_0 lowG_0 (h1 f).2⟩) (fun th σ f => ⟨rowRen_self thL_0 (newG_0 (by simp)) (h2 f).2,by show (fam' f).g ≠ _; rw [(h2 f).1]; simp⟩) ha hak hfn hv hb
def mcP (sz:Nat) (F:List AV → List AV → Option (List Prop × AV × List AV)):MCon:=fun key m es => match es with
 | .ptr r f i sz' 0 :: rest => match look m r with
  | some fam => match F ((fam f).get i) rest with
   | some (ob,val,cs) => some ⟨(i < (fam f).n) :: (sz' = sz) :: (sz = (fam f).sz) :: (cleanCs ((fam f).get i) = true) :: famOK r fam :: ob,val,.many [(r,famE fam f i cs)] none⟩
   | none => none
  | none => none
 | _ => none
def wb1 (fam:Fam) (cs:List AV):Fam:=fun f => if f = 0 then { fam 0 with get:=fun _ => cs } else fam f
def mc1 (sz:Nat) (F:List AV → List AV → Option (List Prop × AV × List AV)):MCon:=fun key m es => match es with
 | .bx r 0 :: rest => match look m r with
  | some fam => match F ((fam 0).get 0) rest with
   | some (ob,val,cs) => some ⟨((fam 0).n = 1) :: (sz = (fam 0).sz) :: (cleanCs ((fam 0).get 0) = true) :: famOK r fam :: ob,val,.many [(r,wb1 fam cs)] none⟩
   | none => none
  | none => none
 | es => mcP sz F key m es
def OneOK (P:Program) (G:Ctx) (H:Hots) (fn:Func) (sz:Nat) (F:List AV → List AV → Option (List Prop × AV × List AV)):Prop:=
 ∀ cells rest ob val cs,F cells rest = some (ob,val,cs) → (∀ p ∈ ob,p) → (∀ a ∈ rest,clean 3 a = true) ∧ clean 3 val = true ∧ (∀ c ∈ cs,cleanC c = true) ∧ funcOK P H fn (rest.length + 1) = true ∧
  ∀ (fam:Fam) (f i:Nat),i < (fam f).n → sz = (fam f).sz → (∀ f,(fam f).g = none) → famOK 0 fam → bodyM P G H fn (.ptr 0 f i sz 0 :: rest) [(0,famE fam f i cells)] 1 fun a m1 => a = val ∧ look m1 0 = some (famE fam f i cs)
theorem MConOK.mcP (hG:CtxOK P G) (hf:P.funcs[f]? = some fn) {sz:Nat} {F:List AV → List AV → Option (List Prop × AV × List AV)} (h:OneOK P G H fn sz F):MConOK P f (mcP sz F):=by
 refine MConOK.of (H:=H) hG hf fun key m es e hc hob => ?_
 unfold Ax.mcP at hc
 split at hc
 ·rename_i r f' i sz' rest
  split at hc
  ·rename_i fam hl
   split at hc
   ·rename_i ob val cs hF
    cases hc
    have hi:i < (fam f').n:=hob _ (by simp)
    have hsz':sz' = sz:=hob _ (by simp)
    have hsz:sz = (fam f').sz:=hob _ (by simp)
    have hcl:cleanCs ((fam f').get i) = true:=hob _ (by simp)
    have hok:famOK r fam:=hob _ (by simp)
    subst hsz'
    obtain ⟨h1,h2,h3,h4,h5⟩:=h _ _ _ _ _ hF fun p hp => hob p (by simp [hp])
    obtain ⟨a1,a2⟩:=cleans_ren (θ:=thE [r]) (g:=lowG 1) (B:=lowB 1) h1
    refine one_ok hl hok (famOK_E hok h3) (es0:=.ptr 0 f' i sz' 0 :: rest) (val0:=val) ?_ ?_ h4 (fun th σ => ?_) ?_
    ·rw [List.map_cons,a1]; rfl
    ·intro a ha
     rcases List.mem_cons.1 ha with e | ha
     ·rw [e]; exact Nat.zero_lt_one
     ·exact a2 a ha
    ·obtain ⟨b1,b2⟩:=clean_ren (θ:=thL [r] key th) (g:=newG 1 σ th) (B:=newB 1 σ) 3 val h2
     exact ⟨b1.symm,b2⟩
    ·have e1:famBk fam = famE (famBk fam) f' i ((fam f').get i):=by
      have:=famBk_E (fam:=fam) (f:=f') (i:=i) (cleanCs_mem hcl)
      rw [famE_self] at this
      exact this
     rw [e1,famBk_E h3]
     exact h5 (famBk fam) f' i hi hsz (fun f => (hok f).1) (famOK_bk hok)
   ·cases hc
  ·cases hc
 ·cases hc
theorem MConOK.mc1 (hG:CtxOK P G) (hf:P.funcs[f]? = some fn) {sz:Nat} {F:List AV → List AV → Option (List Prop × AV × List AV)} (h:OneOK P G H fn sz F):MConOK P f (mc1 sz F):=by
 intro w0 ρ m m' D w key es vs e hR hk hm hRs hc hob hmany
 unfold Ax.mc1 at hc
 split at hc
 ·rename_i r rest
  split at hc
  ·rename_i fam hl
   split at hc
   ·rename_i ob val cs hF
    cases hc
    have hn:(fam 0).n = 1:=hob _ (by simp)
    have hsz:sz = (fam 0).sz:=hob _ (by simp)
    have hcl:cleanCs ((fam 0).get 0) = true:=hob _ (by simp)
    have hok:famOK r fam:=hob _ (by simp)
    have hRs':Rs w ρ (.ptr r 0 0 sz 0 :: rest) vs:=by
     obtain ⟨x,xs,rfl,h1,h2⟩:=hRs.inv
     refine .cons ?_ h2
     cases h1 with
     | bx hd =>
      have:R w ρ (.ptr r 0 0 sz 0) (.pointer (some ⟨ρ.blk r 0,0 * sz + 0,none⟩)):=.ptr hd
      rw [Nat.zero_mul] at this
      exact this
    have:=MConOK.mcP hG hf h w0 ρ m m' D w key _ vs ⟨(0 < (fam 0).n) :: (sz = sz) :: (sz = (fam 0).sz) :: (cleanCs ((fam 0).get 0) = true) :: famOK r fam :: ob,val,.many [(r,famE fam 0 0 cs)] none⟩ hR hk hm hRs'
     (by simp only [Ax.mcP,hl,hF]) (fun p hp => by
      simp only [List.mem_cons] at hp
      rcases hp with rfl | rfl | rfl | rfl | rfl | hp
      ·omega
      ·trivial
      ·exact hsz
      ·exact hcl
      ·exact hok
      ·exact hob p (by simp [hp])) ⟨_,_,rfl⟩
    refine this.mono fun v w' ⟨ρ',p1,p2,p3,p4⟩ => ⟨ρ',p1,?_,p3,p4⟩
    have p2:Rel w0 ρ' (setRow r (famE fam 0 0 cs) m) (fun r => D r ∨ r = key) w':=p2
    refine Rel.alike p2 fun f => ?_
    by_cases e:f = 0
    ·subst e
     refine ⟨rfl,rfl,rfl,rfl,fun i hi => ?_⟩
     rw [famE_n,hn] at hi
     have:i = 0:=by omega
     subst this
     rw [famE_get]; rfl
    ·unfold wb1
     rw [if_neg e,famE_off e]
     exact ⟨rfl,rfl,rfl,rfl,fun _ _ => rfl⟩
   ·cases hc
  ·cases hc
 ·exact MConOK.mcP hG hf h w0 ρ m m' D w key es vs e hR hk hm hRs hc hob hmany
def mcPP (sz:Nat) (F:List AV → List AV → List AV → Option (List Prop × AV × List AV × List AV)):MCon:=fun key m es => match es with
 | .ptr r f i sz1 0 :: .ptr r' f' i' sz2 0 :: rest => match look m r with
  | some fam => match F ((fam f).get i) ((fam f').get i') rest with
   | some (ob,val,cs,cs') => some ⟨(r' = r) :: (f ≠ f') :: (i < (fam f).n) :: (i' < (fam f').n) :: (sz1 = sz) :: (sz2 = sz) :: (sz = (fam f).sz) :: (sz = (fam f').sz) :: (cleanCs ((fam f).get i) = true) :: (cleanCs ((fam f').get i') = true) :: famOK r fam :: ob,val,.many [(r,famE (famE fam f i cs) f' i' cs')] none⟩
   | none => none
  | none => none
 | _ => none
def TwoOK (P:Program) (G:Ctx) (H:Hots) (fn:Func) (sz:Nat) (F:List AV → List AV → List AV → Option (List Prop × AV × List AV × List AV)):Prop:=
 ∀ c1 c2 rest ob val cs cs',F c1 c2 rest = some (ob,val,cs,cs') → (∀ p ∈ ob,p) → (∀ a ∈ rest,clean 3 a = true) ∧ clean 3 val = true ∧ (∀ c ∈ cs,cleanC c = true) ∧ (∀ c ∈ cs',cleanC c = true) ∧ funcOK P H fn (rest.length + 2) = true ∧
  ∀ (fam:Fam) (f i f' i':Nat),f ≠ f' → i < (fam f).n → i' < (fam f').n → sz = (fam f).sz → sz = (fam f').sz → (∀ f,(fam f).g = none) → famOK 0 fam →
   bodyM P G H fn (.ptr 0 f i sz 0 :: .ptr 0 f' i' sz 0 :: rest) [(0,famE (famE fam f i c1) f' i' c2)] 1 fun a m1 => a = val ∧ look m1 0 = some (famE (famE fam f i cs) f' i' cs')
theorem MConOK.mcPP (hG:CtxOK P G) (hf:P.funcs[f]? = some fn) {sz:Nat} {F:List AV → List AV → List AV → Option (List Prop × AV × List AV × List AV)} (h:TwoOK P G H fn sz F):MConOK P f (mcPP sz F):=by
 refine MConOK.of (H:=H) hG hf fun key m es e hc hob => ?_
 unfold Ax.mcPP at hc
 split at hc
 ·rename_i r f1 i1 s1 r' f2 i2 s2 rest
  split at hc
  ·rename_i fam hl
   split at hc
   ·rename_i ob val cs cs' hF
    cases hc
    have hr:r' = r:=hob _ (by simp)
    have hne:f1 ≠ f2:=hob _ (by simp)
    have hi:i1 < (fam f1).n:=hob _ (by simp)
    have hi':i2 < (fam f2).n:=hob _ (by simp)
    have hs1:s1 = sz:=hob _ (by simp)
    have hs2:s2 = sz:=hob _ (by simp)
    have hz1:sz = (fam f1).sz:=hob _ (by simp)
    have hz2:sz = (fam f2).sz:=hob _ (by simp)
    have hc1:cleanCs ((fam f1).get i1) = true:=hob _ (by simp)
    have hc2:cleanCs ((fam f2).get i2) = true:=hob _ (by simp)
    have hok:famOK r fam:=hob _ (by simp)
    subst hr hs1 hs2
    obtain ⟨h1,h2,h3,h3',h4,h5⟩:=h _ _ _ _ _ _ _ hF fun p hp => hob p (by simp [hp])
    obtain ⟨a1,a2⟩:=cleans_ren (θ:=thE [r']) (g:=lowG 1) (B:=lowB 1) h1
    refine one_ok hl hok (famOK_E (famOK_E hok h3) h3') (es0:=.ptr 0 f1 i1 s2 0 :: .ptr 0 f2 i2 s2 0 :: rest) (val0:=val) ?_ ?_ h4 (fun th σ => ?_) ?_
    ·rw [List.map_cons,List.map_cons,a1]; rfl
    ·intro a ha
     rcases List.mem_cons.1 ha with e | ha
     ·rw [e]; exact Nat.zero_lt_one
     ·rcases List.mem_cons.1 ha with e | ha
      ·rw [e]; exact Nat.zero_lt_one
      ·exact a2 a ha
    ·obtain ⟨b1,b2⟩:=clean_ren (θ:=thL [r'] key th) (g:=newG 1 σ th) (B:=newB 1 σ) 3 val h2
     exact ⟨b1.symm,b2⟩
    ·have e1:famBk fam = famE (famE (famBk fam) f1 i1 ((fam f1).get i1)) f2 i2 ((fam f2).get i2):=by
      have k1:=famBk_E (fam:=fam) (f:=f1) (i:=i1) (cleanCs_mem hc1)
      rw [famE_self] at k1
      have k2:=famBk_E (fam:=fam) (f:=f2) (i:=i2) (cleanCs_mem hc2)
      rw [famE_self] at k2
      rw [← k1,← k2]
     rw [e1,famBk_E h3',famBk_E h3]
     exact h5 (famBk fam) f1 i1 f2 i2 hne hi hi' hz1 hz2 (fun f => (hok f).1) (famOK_bk hok)
   ·cases hc
  ·cases hc
 ·cases hc
def tabOK (K N sz:Nat) (tp ty:TypeId) (fam:Fam):Prop:=(∀ f,alike (famT K N sz tp ty (fun i => (fam (i + 1)).get 0) f) (fam f)) ∧ ∀ i,i < N → cleanCs ((fam (i + 1)).get 0) = true
theorem rowRen_T {θ:Nat → Nat → Nat × Nat} {g:Nat → Nat → Prop} {B:Nat → Prop} {K N sz:Nat} {tp ty:TypeId} {get:Nat → List AV} (hθ:∀ f,θ 0 f = (K,f)) (hg:∀ f,g 0 f) (hc:∀ i,i < N → cleanCs (get i) = true) (f:Nat) :
  rowRen θ g B (famT 0 N sz tp ty get f) (famT K N sz tp ty get f):=by
 cases f with
 | zero =>
  refine ⟨rfl,rfl,rfl,rfl,fun j hj => ⟨?_,fun c hc => ?_⟩⟩
  ·show [AV.ptr K (j + 1) 0 sz 0] = [AV.ptr (θ 0 (j + 1)).1 (θ 0 (j + 1)).2 0 sz 0]
   rw [hθ]
  ·simp only [famT,List.mem_singleton] at hc
   rw [hc]; exact hg _
 | succ f =>
  refine rowRen_clean' ⟨rfl,rfl,rfl,rfl,fun _ _ => rfl⟩ fun j hj c hcm => ?_
  simp only [famT] at hj hcm
  split at hj
  ·rename_i hf
   have:j = 0:=by omega
   subst this
   exact cleanCs_mem (hc f hf) c (by simpa using hcm)
  ·omega
theorem rowRen_alike {θ:Nat → Nat → Nat × Nat} {g:Nat → Nat → Prop} {B:Nat → Prop} {x0 x y:Row} (h:rowRen θ g B x0 x) (k:alike x y):rowRen θ g B x0 y:=by
 obtain ⟨h1,h2,h3,h4,h5⟩:=h
 obtain ⟨k1,k2,k3,k4,k5⟩:=k
 refine ⟨k1.trans h1,k2.trans h2,k3.trans h3,k4.trans h4,fun j hj => ?_⟩
 obtain ⟨a,b⟩:=h5 j hj
 exact ⟨(k5 j (by omega)).trans a,b⟩
theorem famT_g {K N sz:Nat} {tp ty:TypeId} {get:Nat → List AV} {f:Nat}:(famT K N sz tp ty get f).g = none:=by cases f <;> rfl
theorem tabOK_in {K N sz:Nat} {tp ty:TypeId} {fam:Fam} (h:tabOK K N sz tp ty fam) (f:Nat):(fam f).g = none ∧ rowRen (thE [K]) (lowG 1) (lowB 1) (famT 0 N sz tp ty (fun i => (fam (i + 1)).get 0) f) (fam f):=
 ⟨(h.1 f).2.2.2.1.trans famT_g,rowRen_alike (rowRen_T thE_0 lowG_0 h.2 f) (h.1 f)⟩
def mcT (sz:Nat) (tp ty:TypeId) (F:Nat → (Nat → List AV) → List AV → Option (List Prop × AV × (Nat → List AV))):MCon:=fun key m es => match es with
 | .own K 0 N 1 :: rest => match look m K with
  | some fam => match F N (fun i => (fam (i + 1)).get 0) rest with
   | some (ob,val,get') => some ⟨tabOK K N sz tp ty fam :: ob,val,.many [(K,famT K N sz tp ty get')] none⟩
   | none => none
  | none => none
 | _ => none
def TabOK (P:Program) (G:Ctx) (H:Hots) (fn:Func) (sz:Nat) (tp ty:TypeId) (F:Nat → (Nat → List AV) → List AV → Option (List Prop × AV × (Nat → List AV))):Prop:=
 ∀ N get rest ob val get',F N get rest = some (ob,val,get') → (∀ p ∈ ob,p) → (∀ i,i < N → cleanCs (get i) = true) → (∀ a ∈ rest,clean 3 a = true) ∧ clean 3 val = true ∧ (∀ i,i < N → cleanCs (get' i) = true) ∧ funcOK P H fn (rest.length + 1) = true ∧
  bodyM P G H fn (.own 0 0 N 1 :: rest) [(0,famT 0 N sz tp ty get)] 1 fun a m1 => a = val ∧ look m1 0 = some (famT 0 N sz tp ty get')
theorem MConOK.mcT (hG:CtxOK P G) (hf:P.funcs[f]? = some fn) {sz:Nat} {tp ty:TypeId} {F:Nat → (Nat → List AV) → List AV → Option (List Prop × AV × (Nat → List AV))} (h:TabOK P G H fn sz tp ty F):MConOK P f (mcT sz tp ty F):=by
 refine MConOK.of (H:=H) hG hf fun key m es e hc hob => ?_
 unfold Ax.mcT at hc
 split at hc
 ·rename_i K N rest
  split at hc
  ·rename_i fam hl
   split at hc
   ·rename_i ob val get' hF
    cases hc
    have hok:tabOK K N sz tp ty fam:=hob _ (by simp)
    obtain ⟨h1,h2,h3,h4,h5⟩:=h _ _ _ _ _ _ hF (fun p hp => hob p (by simp [hp])) hok.2
    obtain ⟨a1,a2⟩:=cleans_ren (θ:=thE [K]) (g:=lowG 1) (B:=lowB 1) h1
    refine one_okG hl (tabOK_in hok) (fun th σ f => ⟨rowRen_T thL_0 (newG_0 (by simp)) h3 f,by rw [famT_g]; simp⟩) (es0:=.own 0 0 N 1 :: rest) (val0:=val) ?_ ?_ h4 (fun th σ => ?_) h5
    ·rw [List.map_cons,a1]; rfl
    ·intro a ha
     rcases List.mem_cons.1 ha with e | ha
     ·rw [e]; exact Nat.zero_lt_one
     ·exact a2 a ha
    ·obtain ⟨b1,b2⟩:=clean_ren (θ:=thL [K] key th) (g:=newG 1 σ th) (B:=newB 1 σ) 3 val h2
     exact ⟨b1.symm,b2⟩
   ·cases hc
  ·cases hc
 ·cases hc
def mcTL (sz:Nat) (tp ty tl:TypeId):MCon:=fun key m es => match es with
 | [.own K 0 N 1] => match look m K with
  | some fam => some ⟨[tabOK K N sz tp ty fam,N ≤ 1000,∀ i,i < N → ((fam (i + 1)).get 0).length = sz ∧ allCells ((fam (i + 1)).get 0) = true],.own key 0 N sz,.many [(K,famT K N sz tp ty fun i => (fam (i + 1)).get 0)] (some (famN N sz tl (fun i => (fam (i + 1)).get 0) none))⟩
  | none => none
 | _ => none
def TelOK (P:Program) (G:Ctx) (H:Hots) (fn:Func) (sz:Nat) (tp ty tl:TypeId):Prop:=
 ∀ N get,N ≤ 1000 → (∀ i,i < N → cleanCs (get i) = true) → (∀ i,i < N → (get i).length = sz ∧ allCells (get i) = true) → funcOK P H fn 1 = true ∧
  bodyM P G H fn [.own 0 0 N 1] [(0,famT 0 N sz tp ty get)] 1 fun a m1 => look m1 0 = some (famT 0 N sz tp ty get) ∧ ∃ L get',1 ≤ L ∧ a = .own L 0 N sz ∧ look m1 L = some (famN N sz tl get' none) ∧ ∀ i,i < N → get' i = get i
def whole (K:Nat) (f:Nat):Option (Nat × Nat):=some (K,f)
def idTh (_ f:Nat):Nat:=f
theorem MConOK.mcTL (hG:CtxOK P G) (hf:P.funcs[f]? = some fn) {sz:Nat} {tp ty tl:TypeId} (h:TelOK P G H fn sz tp ty tl):MConOK P f (mcTL sz tp ty tl):=by
 refine MConOK.of (H:=H) hG hf fun key m es e hc hob => ?_
 unfold Ax.mcTL at hc
 split at hc
 ·rename_i K N
  split at hc
  ·rename_i fam hl
   cases hc
   have hok:tabOK K N sz tp ty fam:=hob _ (by simp)
   have hN:N ≤ 1000:=hob _ (by simp)
   have hlen:∀ i,i < N → ((fam (i + 1)).get 0).length = sz ∧ allCells ((fam (i + 1)).get 0) = true:=hob _ (by simp)
   obtain ⟨h1,h2⟩:=h N (fun i => (fam (i + 1)).get 0) hN hok.2 hlen
   refine ⟨[K],[(0,famT 0 N sz tp ty fun i => (fam (i + 1)).get 0)],[.own 0 0 N 1],⟨by simp,rfl,?_,?_,?_⟩,h1,h2.mono fun a m1 ⟨q1,L,get',q2,q3,q4,q5⟩ => ?_⟩
   ·intro a ha
    rw [List.mem_singleton] at ha
    rw [ha]; exact Nat.zero_lt_one
   ·intro j hj
    have:j = 0:=by simp at hj; omega
    subst this
    exact ⟨_,fam,look_one,hl,tabOK_in hok⟩
   ·intro q x hq
    by_cases e:q = 0
    ·subst e; simp
    ·simp [look,Ne.symm e] at hq
   ·refine ⟨whole L,idTh,[famT K N sz tp ty fun i => (fam (i + 1)).get 0],some _,rfl,⟨fun f r g h => ?_,?_,?_,rfl,fun j hj => ?_,fun f => ?_⟩⟩
    ·cases h; exact ⟨q2,rfl⟩
    ·rw [q3]
     show AV.own key 0 N sz = .own (thL [K] key idTh L 0).1 (thL [K] key idTh L 0).2 N sz
     unfold thL
     rw [if_neg (by simp; omega)]
     rfl
    ·rw [q3]; exact .inr rfl
    ·have:j = 0:=by simp at hj; omega
     subst this
     exact ⟨_,_,q1,rfl,fun f => ⟨rowRen_T thL_0 (newG_0 (by simp)) hok.2 f,by rw [famT_g]; simp⟩⟩
    ·refine ⟨_,q4,rowRen_clean' ?_ fun j hj c hc => ?_,?_⟩
     ·unfold famN
      by_cases e:f = 0
      ·subst e
       exact ⟨rfl,rfl,rfl,rfl,fun i hi => (q5 i hi).symm⟩
      ·simp only [e,if_false]
       exact .refl _
     ·unfold famN at hj hc
      by_cases e:f = 0
      ·subst e
       simp only [if_true] at hj hc
       rw [q5 j hj] at hc
       exact cleanCs_mem (hok.2 j hj) c hc
      ·simp [e] at hj
     ·unfold famN
      split <;> simp
  ·cases hc
 ·cases hc
theorem setRow_self {r:Nat} {x:Fam}:∀ {m:Mem},look m r = some x → setRow r x m = m
 | [],h => by simp [look] at h
 | (k,y) :: m,h => by
  unfold look at h
  unfold setRow
  split at h
  ·rename_i e; cases h; subst e; simp
  ·rename_i e; rw [if_neg e,setRow_self h]
def mcTR (sz:Nat) (tp ty tl:TypeId):MCon:=fun key m es => match es with
 | [.own K 0 N 1] => match look m K with
  | some fam => some ⟨[tabOK K N sz tp ty fam,N ≤ 1000,∀ i,i < N → ((fam (i + 1)).get 0).length = sz ∧ allCells ((fam (i + 1)).get 0) = true],.own key 0 N sz,.many [] (some (famN N sz tl (fun i => (fam (i + 1)).get 0) none))⟩
  | none => none
 | _ => none
theorem MConOK.mcTR {sz:Nat} {tp ty tl:TypeId} (h:MConOK P f (Ax.mcTL sz tp ty tl)):MConOK P f (Ax.mcTR sz tp ty tl):=by
 intro w0 ρ m m' D w key es vs e hR hk hm hRs hc hob hmany
 unfold Ax.mcTR at hc
 split at hc
 ·rename_i K N
  split at hc
  ·rename_i fam hl
   cases hc
   have:=h w0 ρ m m' D w key [.own K 0 N 1] vs ⟨[tabOK K N sz tp ty fam,N ≤ 1000,∀ i,i < N → ((fam (i + 1)).get 0).length = sz ∧ allCells ((fam (i + 1)).get 0) = true],.own key 0 N sz,.many [(K,famT K N sz tp ty fun i => (fam (i + 1)).get 0)] (some (famN N sz tl (fun i => (fam (i + 1)).get 0) none))⟩ hR hk hm hRs (by simp only [Ax.mcTL,hl]) hob ⟨_,_,rfl⟩
   refine this.mono fun v w' ⟨ρ',p1,p2,p3,p4⟩ => ⟨ρ',p1,?_,p3,p4⟩
   have hok:tabOK K N sz tp ty fam:=hob _ (by simp)
   have hKm:=hm _ _ hl
   have hne:K ≠ key:=fun e => hk (e ▸ hR.key _ _ hKm)
   have p2:Rel w0 ρ' (insRow key (famN N sz tl (fun i => (fam (i + 1)).get 0) none) (setRow K (famT K N sz tp ty fun i => (fam (i + 1)).get 0) m)) (fun r => D r ∨ r = key) w':=p2
   rw [← set_ins hne] at p2
   have p5:=Rel.alike p2 (y:=fam) (fun f => hok.1 f)
   rw [set_ins hne,setRow_self hKm] at p5
   exact p5
  ·cases hc
 ·cases hc
def mcN (ty:TypeId) (F:List AV → Option (List Prop × List AV)):MCon:=fun key m es => match F es with
 | some (ob,cs) => some ⟨ob,.bx key 0,.many [] (some (fam1 ty cs.length cs none))⟩
 | none => none
def NewOK (P:Program) (G:Ctx) (H:Hots) (fn:Func) (ty:TypeId) (F:List AV → Option (List Prop × List AV)):Prop:=
 ∀ es ob cs,F es = some (ob,cs) → (∀ p ∈ ob,p) → (∀ a ∈ es,clean 3 a = true) ∧ cleanCs cs = true ∧ funcOK P H fn es.length = true ∧
  bodyM P G H fn es [] 0 fun a m1 => ∃ L,a = .bx L 0 ∧ look m1 L = some (fam1 ty cs.length cs none)
theorem MConOK.mcN (hG:CtxOK P G) (hf:P.funcs[f]? = some fn) {ty:TypeId} {F:List AV → Option (List Prop × List AV)} (h:NewOK P G H fn ty F):MConOK P f (mcN ty F):=by
 refine MConOK.of (H:=H) hG hf fun key m es e hc hob => ?_
 unfold Ax.mcN at hc
 split at hc
 ·rename_i ob cs hF
  cases hc
  obtain ⟨h1,h2,h3,h4⟩:=h _ _ _ hF fun p hp => hob p hp
  obtain ⟨a1,a2⟩:=cleans_ren (θ:=thE []) (g:=lowG 0) (B:=lowB 0) h1
  refine ⟨[],[],es,⟨by simp,a1.symm,a2,fun j hj => by simp at hj,fun q x hq => by simp [look] at hq⟩,h3,h4.mono fun a m1 ⟨L,q1,q2⟩ => ?_⟩
  refine ⟨whole L,idTh,[],some _,rfl,⟨fun f r g h => ?_,?_,?_,rfl,fun j hj => by simp at hj,fun f => ?_⟩⟩
  ·cases h; exact ⟨Nat.zero_le _,rfl⟩
  ·rw [q1]; rfl
  ·rw [q1]; exact .inr rfl
  ·refine ⟨_,q2,rowRen_clean' (.refl _) fun j hj c hc => ?_,?_⟩
   ·unfold fam1 at hj hc
    by_cases e:f = 0
    ·subst e
     exact cleanCs_mem h2 c (by simpa using hc)
    ·simp [e] at hj
   ·unfold fam1
    split <;> simp
 ·cases hc
def mcL (sz:Nat) (tp ty:TypeId) (F:List AV → Option (List Prop × Nat × (Nat → List AV))):MCon:=fun key m es => match F es with
 | some (ob,N,get) => some ⟨ob,.own key 0 N 1,.many [] (some (famT key N sz tp ty get))⟩
 | none => none
def LayOK (P:Program) (G:Ctx) (H:Hots) (fn:Func) (sz:Nat) (tp ty:TypeId) (F:List AV → Option (List Prop × Nat × (Nat → List AV))):Prop:=
 ∀ es ob N get,F es = some (ob,N,get) → (∀ p ∈ ob,p) → (∀ a ∈ es,clean 3 a = true) ∧ (∀ i,i < N → cleanCs (get i) = true) ∧ funcOK P H fn es.length = true ∧
  bodyM P G H fn es [] 0 fun a m1 => ∃ L get',a = .own L 0 N 1 ∧ look m1 L = some (famT L N sz tp ty get') ∧ ∀ i,i < N → get' i = get i
theorem MConOK.mcL (hG:CtxOK P G) (hf:P.funcs[f]? = some fn) {sz:Nat} {tp ty:TypeId} {F:List AV → Option (List Prop × Nat × (Nat → List AV))} (h:LayOK P G H fn sz tp ty F):MConOK P f (mcL sz tp ty F):=by
 refine MConOK.of (H:=H) hG hf fun key m es e hc hob => ?_
 unfold Ax.mcL at hc
 split at hc
 ·rename_i ob N get hF
  cases hc
  obtain ⟨h1,h2,h3,h4⟩:=h _ _ _ _ hF fun p hp => hob p hp
  obtain ⟨a1,a2⟩:=cleans_ren (θ:=thE []) (g:=lowG 0) (B:=lowB 0) h1
  refine ⟨[],[],es,⟨by simp,a1.symm,a2,fun j hj => by simp at hj,fun q x hq => by simp [look] at hq⟩,h3,h4.mono fun a m1 ⟨L,get',q1,q2,q3⟩ => ?_⟩
  refine ⟨whole L,idTh,[],some _,rfl,⟨fun f r g h => ?_,?_,?_,rfl,fun j hj => by simp at hj,fun f => ?_⟩⟩
  ·cases h; exact ⟨Nat.zero_le _,rfl⟩
  ·rw [q1]; rfl
  ·rw [q1]; exact .inr rfl
  ·refine ⟨_,q2,?_,by rw [famT_g]; simp⟩
   cases f with
   | zero =>
    refine ⟨rfl,rfl,rfl,rfl,fun j hj => ⟨rfl,fun c hc => ?_⟩⟩
    simp only [famT,List.mem_singleton] at hc
    rw [hc]; exact .inr rfl
   | succ f =>
    refine rowRen_clean' ⟨rfl,rfl,rfl,rfl,fun j hj => ?_⟩ fun j hj c hcm => ?_
    ·simp only [famT] at hj ⊢
     split at hj
     ·rename_i hf
      rw [q3 f hf]
     ·omega
    ·simp only [famT] at hj hcm
     split at hj
     ·rename_i hf
      have:j = 0:=by omega
      subst this
      simp only [if_true] at hcm
      rw [q3 f hf] at hcm
      exact cleanCs_mem (h2 f hf) c hcm
     ·omega
 ·cases hc
end
section
variable {K N sz n r f i:Nat} {tp ty:TypeId} {get:Nat → List AV} {cs l:List AV} {g:Option Bool} {a:AV}
theorem cleanCs_nil:cleanCs [] = true:=(rfl)
theorem cleanCs_v {x:Value}:cleanCs (.v x :: l) = cleanCs l:=by simp [cleanCs,cleanC]
theorem cleanCs_any:cleanCs (.any :: l) = cleanCs l:=by simp [cleanCs,cleanC]
theorem cleanCs_ro {q:Nat → List AV}:cleanCs (.ro n sz q :: l) = cleanCs l:=by simp [cleanCs,cleanC]
theorem cleanCs_rop:cleanCs (.rop cs :: l) = cleanCs l:=by simp [cleanCs,cleanC]
theorem self_of_clean {c:AV} (h:cleanC c = true):selfC r c = true:=by cases c <;> first | exact h | simp [cleanC] at h
theorem famOK_1 (h:cleanCs cs = true):famOK r (fam1 ty sz cs none) = True:=eq_true fun f => by
 unfold fam1
 by_cases e:f = 0
 ·subst e
  exact ⟨rfl,fun j _ c hc => self_of_clean (cleanCs_mem h c (by simpa using hc))⟩
 ·simp only [e,if_false]
  exact ⟨trivial,fun j hj => by omega⟩
theorem famOK_N (h:∀ i,i < n → cleanCs (get i) = true):famOK r (famN n sz ty get none) = True:=eq_true fun f => by
 unfold famN
 by_cases e:f = 0
 ·subst e
  exact ⟨rfl,fun j hj c hc => self_of_clean (cleanCs_mem (h j (by simpa using hj)) c (by simpa using hc))⟩
 ·simp only [e,if_false]
  exact ⟨trivial,fun j hj => by omega⟩
theorem famOK_T (h:∀ i,i < N → cleanCs (get i) = true):famOK K (famT K N sz tp ty get) = True:=eq_true fun f => by
 cases f with
 | zero =>
  refine ⟨rfl,fun j _ c hc => ?_⟩
  simp only [famT,List.mem_singleton] at hc
  rw [hc]; simp [selfC]
 | succ f =>
  refine ⟨rfl,fun j hj c hc => ?_⟩
  simp only [famT] at hj hc
  split at hj
  ·rename_i hf
   have:j = 0:=by omega
   subst this
   exact self_of_clean (cleanCs_mem (h f hf) c (by simpa using hc))
  ·omega
theorem tabOK_T (h:∀ i,i < N → cleanCs (get i) = true):tabOK K N sz tp ty (famT K N sz tp ty get) = True:=eq_true ⟨fun f => by
 cases f <;> exact ⟨rfl,rfl,rfl,rfl,fun _ _ => rfl⟩,h⟩
theorem famT_get:(famT K N sz tp ty get (i + 1)).get 0 = get i:=(rfl)
theorem famT_n:(famT K N sz tp ty get (i + 1)).n = if i < N then 1 else 0:=(rfl)
theorem famT_sz:(famT K N sz tp ty get (i + 1)).sz = sz:=(rfl)
theorem fam1_get:(fam1 ty sz cs g 0).get i = cs:=(rfl)
theorem fam1_n:(fam1 ty sz cs g 0).n = 1:=(rfl)
theorem fam1_sz:(fam1 ty sz cs g 0).sz = sz:=(rfl)
theorem famN_get:(famN n sz ty get g 0).get i = get i:=(rfl)
theorem famN_n:(famN n sz ty get g 0).n = n:=(rfl)
theorem famN_sz:(famN n sz ty get g 0).sz = sz:=(rfl)
theorem famOK_Es {fam:Fam} (h:famOK r fam) (hc:cleanCs cs = true):famOK r (famE fam f i cs) = True:=eq_true (famOK_E h (cleanCs_mem hc))
theorem wb1_1:wb1 (fam1 ty sz cs g) l = fam1 ty sz l g:=by
 funext f
 unfold wb1 fam1
 by_cases e:f = 0 <;> simp [e]
theorem wb1_N {get:Nat → List AV}:wb1 (famN 1 sz ty get g) l = famN 1 sz ty (fun _ => l) g:=by
 funext f
 unfold wb1 famN
 by_cases e:f = 0 <;> simp [e]
end
attribute [go_sem] cleanCs_nil cleanCs_v cleanCs_any cleanCs_ro cleanCs_rop famOK_1 famOK_N famOK_T famOK_Es famE_n famE_sz famE_g famE_get famE_twice tabOK_T famT_get famT_n famT_sz fam1_get fam1_n fam1_sz famN_get famN_n famN_sz wb1_1 wb1_N famE_T lt_ite tupOf_nil tupOf_one tupOf_two retML_nil retML_cons retMS_some endMR_ret endMR_normal
end Go.Ax
end
section
set_option maxHeartbeats 4000000
set_option maxRecDepth 100000
namespace Go.Ax
open Go.Proofs
def nWh (a:Nb):Nb:=(whV a.1,whF a.1 a.2)
theorem iWh {a:Nb} (h:inR a.1):inR (nWh a).1 = True:=inR_of (whV_rg h)
theorem sum1 {g:Nat → List AV} (h:nums 1 g):(nu (suS (wvS g) 1) (wfS 1 g):AV) = nbA (nWh (gx g 0 0,gb g 1 0)):=by
 have h0:=(h 0 (by omega)).2
 have e1:suS (wvS g) 1 = whV (gx g 0 0):=by simp [suS,wvS]
 have e2:wfS 1 g = whF (gx g 0 0) (gb g 1 0):=by simp [wfS,anyB]
 unfold nu nbA nWh
 rw [e1,e2,ftV_of (whV_rg h0),ftF_of (whV_rg h0)]
 rfl
theorem sum2' {g:Nat → List AV}:(nu (suS (wvS g) 2) (wfS 2 g):AV) = nbA (nAdd (gx g 0 0,gb g 1 0) (gx g 0 1,gb g 1 1)):=by
 have e1:suS (wvS g) 2 = whV (gx g 0 0) + whV (gx g 0 1):=by simp [suS,wvS]
 have e2:wfS 2 g = (whF (gx g 0 0) (gb g 1 0) || whF (gx g 0 1) (gb g 1 1)):=by simp [wfS,anyB]
 unfold nu nbA nAdd
 rw [e1,e2]
def kSum:Con
 | [.ro 1 2 g] => some ([nums 1 g],nbA (nWh (gx g 0 0,gb g 1 0)))
 | [.ro 2 2 g] => some ([nums 2 g],nbA (nAdd (gx g 0 0,gb g 1 0) (gx g 0 1,gb g 1 1)))
 | _ => none
theorem kSum_go {P:Program} {f:FuncId} {c:Con} (hc:ConOK P f c) (h:∀ n g,c [.ro n 2 g] = some ([nums n g,n ≤ 1000],nu (suS (wvS g) n) (wfS n g))):ConOK P f kSum:=fun l ob r he hob => by
 unfold kSum at he
 split at he
 ·rename_i g
  cases he
  have hn:nums 1 g:=hob _ (by simp)
  have:=hc [.ro 1 2 g] _ _ (h 1 g) (owe2 hn (by omega))
  rw [sum1 hn] at this
  exact this
 ·rename_i g
  cases he
  have hn:nums 2 g:=hob _ (by simp)
  have:=hc [.ro 2 2 g] _ _ (h 2 g) (owe2 hn (by omega))
  rw [sum2'] at this
  exact this
 ·cases he
theorem konS179:ConOK Tryz.prog 68 kSum:=kSum_go con68 fun _ _ => rfl
def kw153:Con
 | [.agg [.v (.int .i64 a),.v (.bool e)],.agg [.v (.int .i64 b),.v (.bool f)]] => some ([inR a,inR b],nbA (nAdd (a,e) (b,f)))
 | _ => none
theorem konw153:ConOK Tryz.prog 88 kw153:=ConOK.of (G:=[(68,kSum)]) (H:=[]) (.cons konS179 .nil) Tryz.func88 fun l ob rr hc hob => by
 unfold kw153 at hc
 split at hc
 ·rename_i a e b f
  cases hc
  have h_0:inR a:=hob _ (by simp)
  have h_1:inR b:=hob _ (by simp)
  refine ⟨by kernel_rfl,fnVC_go (rs:=[.cell 4 27]) rfl rfl ?_⟩
  simp only [go_sem,kSum,iMul,iDiv,iInt,iAdd,iSub,iRat,iDot,iHyp,iSq,iNeg,iPos,iAbs,iMx,iMn,iCl,iWh,iLoc1,iLoc2,iVAdd1,iVAdd2,iVSub1,iVSub2,iScale1,iScale2,iVDot,iVCross,iLen,iOf1,iOf2,iUnit1,iUnit2,h_0,h_1]
  rfl
 ·cases hc
def kw160p:Con
 | [.agg [.v (.int .i64 x),.v (.bool e),.v (.int .i64 y),.v (.bool f)]] => some ([inR x,inR y],veA (nNeg (y,f),nWh (x,e)))
 | _ => none
theorem konw160p:ConOK Tryz.prog 108 kw160p:=ConOK.of (G:=[(112,k179),(68,kSum)]) (H:=[(1,⟨[(8,.slot 2)],[]⟩)]) (.cons kon179 (.cons konS179 .nil)) Tryz.func108 fun l ob rr hc hob => by
 unfold kw160p at hc
 split at hc
 ·rename_i x e y f
  cases hc
  have h_0:inR x:=hob _ (by simp)
  have h_1:inR y:=hob _ (by simp)
  refine ⟨by kernel_rfl,fnVC_go (rs:=[.cell 2 29]) rfl rfl ?_⟩
  simp only [go_sem,k179,kSum,iMul,iDiv,iInt,iAdd,iSub,iRat,iDot,iHyp,iSq,iNeg,iPos,iAbs,iMx,iMn,iCl,iWh,iLoc1,iLoc2,iVAdd1,iVAdd2,iVSub1,iVSub2,iScale1,iScale2,iVDot,iVCross,iLen,iOf1,iOf2,iUnit1,iUnit2,h_0,h_1]
  rfl
 ·cases hc
def vPerp (v:V2):V2:=(nNeg v.2,nWh v.1)
def vTurn (k:Nb) (v:V2):V2:=vScale (vPerp v) k
def kw218:Con
 | [.agg [.v (.int .i64 k),.v (.bool g)],.agg [.v (.int .i64 x),.v (.bool e),.v (.int .i64 y),.v (.bool f)]] => some ([inR k,inR x,inR y],veA (vTurn (k,g) ((x,e),(y,f))))
 | _ => none
theorem konw218:ConOK Tryz.prog 246 kw218:=ConOK.of (G:=[(108,kw160p),(44,k169)]) (H:=[(1,⟨[(4,.slot 4)],[]⟩)]) (.cons konw160p (.cons kon169 .nil)) Tryz.func246 fun l ob rr hc hob => by
 unfold kw218 at hc
 split at hc
 ·rename_i k g x e y f
  cases hc
  have h_0:inR k:=hob _ (by simp)
  have h_1:inR x:=hob _ (by simp)
  have h_2:inR y:=hob _ (by simp)
  refine ⟨by kernel_rfl,fnVC_go (rs:=[.cell 4 29]) rfl rfl ?_⟩
  simp only [go_sem,kw160p,k169,iMul,iDiv,iInt,iAdd,iSub,iRat,iDot,iHyp,iSq,iNeg,iPos,iAbs,iMx,iMn,iCl,iWh,iLoc1,iLoc2,iVAdd1,iVAdd2,iVSub1,iVSub2,iScale1,iScale2,iVDot,iVCross,iLen,iOf1,iOf2,iUnit1,iUnit2,h_0,h_1,h_2]
  rfl
 ·cases hc
def limS (x:Nb) (n:Int):Nb:=((nCl x (nInt (-n)) (nInt n)).1,false)
def limV (v:V2):V2:=(limS v.1 256,limS v.2 256)
def kw177:Con
 | [.agg [.v (.int .i64 x),.v (.bool e)],.rop [.v (.int .i64 n)]] => some ([inR x,0 ≤ n ∧ n ≤ 65536],nbA (limS (x,e) n))
 | _ => none
theorem konw177:ConOK Tryz.prog 101 kw177:=ConOK.of (G:=[(103,k127),(102,k171)]) (H:=[(1,⟨[(7,.slot 2)],[]⟩)]) (.cons kon127 (.cons kon171 .nil)) Tryz.func101 fun l ob rr hc hob => by
 unfold kw177 at hc
 split at hc
 ·rename_i x e n
  cases hc
  have h_0:inR x:=hob _ (by simp)
  have h_1:0 ≤ n ∧ n ≤ 65536:=hob _ (by simp)
  refine ⟨by kernel_rfl,fnVC_go (rs:=[.cell 3 27]) rfl rfl ?_⟩
  simp only [go_sem,k127,k171,iMul,iDiv,iInt,iAdd,iSub,iRat,iDot,iHyp,iSq,iNeg,iPos,iAbs,iMx,iMn,iCl,iWh,iLoc1,iLoc2,iVAdd1,iVAdd2,iVSub1,iVSub2,iScale1,iScale2,iVDot,iVCross,iLen,iOf1,iOf2,iUnit1,iUnit2,h_0,h_1]
  intro z hz
  rw [wrap_in (by unfold inR; omega)] at hz
  subst hz
  have e:(0 - n) = -n:=by omega
  rw [e]
  exact ⟨by unfold inR; omega,by unfold inR; omega,rfl⟩
 ·cases hc
def kw239:Con
 | [.agg [.v (.int .i64 x),.v (.bool e)],.rop [.v (.int .i64 n)]] => some ([inR x,0 ≤ n ∧ n ≤ 65536],nbA (limS (x,e) n))
 | _ => none
theorem konw239:ConOK Tryz.prog 160 kw239:=ConOK.of (G:=[(103,k127),(102,k171)]) (H:=[(1,⟨[(7,.slot 2)],[]⟩)]) (.cons kon127 (.cons kon171 .nil)) Tryz.func160 fun l ob rr hc hob => by
 unfold kw239 at hc
 split at hc
 ·rename_i x e n
  cases hc
  have h_0:inR x:=hob _ (by simp)
  have h_1:0 ≤ n ∧ n ≤ 65536:=hob _ (by simp)
  refine ⟨by kernel_rfl,fnVC_go (rs:=[.cell 3 27]) rfl rfl ?_⟩
  simp only [go_sem,k127,k171,iMul,iDiv,iInt,iAdd,iSub,iRat,iDot,iHyp,iSq,iNeg,iPos,iAbs,iMx,iMn,iCl,iWh,iLoc1,iLoc2,iVAdd1,iVAdd2,iVSub1,iVSub2,iScale1,iScale2,iVDot,iVCross,iLen,iOf1,iOf2,iUnit1,iUnit2,h_0,h_1]
  intro z hz
  rw [wrap_in (by unfold inR; omega)] at hz
  subst hz
  have e:(0 - n) = -n:=by omega
  rw [e]
  exact ⟨by unfold inR; omega,by unfold inR; omega,rfl⟩
 ·cases hc
def kw120:Con
 | [.agg [.v (.int .i64 x),.v (.bool e),.v (.int .i64 y),.v (.bool f)],.v (.int .i64 n)] => some ([inR x,inR y,0 ≤ n ∧ n ≤ 65536],veA (limS (x,e) n,limS (y,f) n))
 | _ => none
theorem konw120:ConOK Tryz.prog 54 kw120:=ConOK.of (G:=[(101,kw177)]) (H:=[(8,⟨[(16,.slot 7),(19,.slot 7)],[]⟩)]) (.cons konw177 .nil) Tryz.func54 fun l ob rr hc hob => by
 unfold kw120 at hc
 split at hc
 ·rename_i x e y f n
  cases hc
  have h_0:inR x:=hob _ (by simp)
  have h_1:inR y:=hob _ (by simp)
  have h_2:0 ≤ n ∧ n ≤ 65536:=hob _ (by simp)
  refine ⟨by kernel_rfl,fnVC_go (rs:=[.cell 4 29]) rfl rfl ?_⟩
  simp only [go_sem,kw177,iMul,iDiv,iInt,iAdd,iSub,iRat,iDot,iHyp,iSq,iNeg,iPos,iAbs,iMx,iMn,iCl,iWh,iLoc1,iLoc2,iVAdd1,iVAdd2,iVSub1,iVSub2,iScale1,iScale2,iVDot,iVCross,iLen,iOf1,iOf2,iUnit1,iUnit2,h_0,h_1,h_2]
  exact ⟨False.elim,fun _ => ⟨fun _ => rfl,fun h => by cases h⟩⟩
 ·cases hc
def kw176l:Con
 | [.agg [.v (.int .i64 x),.v (.bool e)],.v (.int .i64 n)] => some ([inR x,0 ≤ n ∧ n ≤ 65536],nbA (limS (x,e) n))
 | _ => none
theorem konw176l:ConOK Tryz.prog 87 kw176l:=ConOK.of (G:=[(160,kw239)]) (H:=[(8,⟨[(16,.slot 7),(19,.slot 7)],[]⟩)]) (.cons konw239 .nil) Tryz.func87 fun l ob rr hc hob => by
 unfold kw176l at hc
 split at hc
 ·rename_i x e n
  cases hc
  have h_0:inR x:=hob _ (by simp)
  have h_1:0 ≤ n ∧ n ≤ 65536:=hob _ (by simp)
  refine ⟨by kernel_rfl,fnVC_go (rs:=[.cell 4 27]) rfl rfl ?_⟩
  simp only [go_sem,kw239,iMul,iDiv,iInt,iAdd,iSub,iRat,iDot,iHyp,iSq,iNeg,iPos,iAbs,iMx,iMn,iCl,iWh,iLoc1,iLoc2,iVAdd1,iVAdd2,iVSub1,iVSub2,iScale1,iScale2,iVDot,iVCross,iLen,iOf1,iOf2,iUnit1,iUnit2,h_0,h_1]
  exact ⟨fun _ => rfl,fun h => by cases h⟩
 ·cases hc
def withS (a:Nb) (n:Int):Bool:=!whF a.1 a.2 && decide (-(n * 4294967296) ≤ a.1 ∧ a.1 ≤ n * 4294967296)
def kw55:Con
 | [] => some ([],.agg [i64 4294967296,bo false])
 | _ => none
theorem konw55:ConOK Tryz.prog 18 kw55:=ConOK.of (G:=[]) (H:=[]) .nil Tryz.func18 fun l ob rr hc hob => by
 unfold kw55 at hc
 split at hc
 ·skip
  cases hc
  refine ⟨by kernel_rfl,fnVC_go (rs:=[.cell 0 27]) rfl rfl ?_⟩
  simp only [go_sem,iMul,iDiv,iInt,iAdd,iSub,iRat,iDot,iHyp,iSq,iNeg,iPos,iAbs,iMx,iMn,iCl,iWh,iLoc1,iLoc2,iVAdd1,iVAdd2,iVSub1,iVSub2,iScale1,iScale2,iVDot,iVCross,iLen,iOf1,iOf2,iUnit1,iUnit2]
  skip
 ·cases hc
structure Bd where
 k:Int
 r:Int
 wd:Int
 ht:Int
 n:Nat
 X:Nat → Int
 Y:Nat → Int
 pl:V2
 rot:V2
 v:V2
 w:Nb
 m:Nb
 i:Nb
 st:Int
 sl:Bool
 fa:Bool
 ve:Int
abbrev ptsA (n:Nat) (X Y:Nat → Int):AV:=.ro n 2 fun j => [i64 (X j),i64 (Y j)]
def bodyC (b:Bd):List AV:=[i64 b.k,i64 b.r,i64 b.wd,i64 b.ht,ptsA b.n b.X b.Y,i64 b.pl.1.1,bo b.pl.1.2,i64 b.pl.2.1,bo b.pl.2.2,i64 b.rot.1.1,bo b.rot.1.2,i64 b.rot.2.1,bo b.rot.2.2,
 i64 b.v.1.1,bo b.v.1.2,i64 b.v.2.1,bo b.v.2.2,i64 b.w.1,bo b.w.2,i64 b.m.1,bo b.m.2,i64 b.i.1,bo b.i.2,i64 b.st,bo b.sl,bo b.fa,i64 b.ve]
def roN (cs:List AV) (k:Nat):Nat:=match cs[k]? with
 | some (.ro n _ _) => n
 | _ => 0
def roG (cs:List AV) (k:Nat):Nat → List AV:=match cs[k]? with
 | some (.ro _ _ g) => g
 | _ => fun _ => []
def bodyD (l:List AV):Bd:=
 ⟨gi l 0,gi l 1,gi l 2,gi l 3,roN l 4,gx (roG l 4) 0,gx (roG l 4) 1,((gi l 5,gib l 6),(gi l 7,gib l 8)),((gi l 9,gib l 10),(gi l 11,gib l 12)),((gi l 13,gib l 14),(gi l 15,gib l 16)),(gi l 17,gib l 18),(gi l 19,gib l 20),(gi l 21,gib l 22),gi l 23,gib l 24,gib l 25,gi l 26⟩
theorem bodyD_C (b:Bd):bodyD (bodyC b) = b:=rfl
section
variable {k r wd ht a1 a2 r1 r2 v1 v2 w m i st ve:Int} {n:Nat} {g:Nat → List AV} {f1 f2 s1 s2 u1 u2 fw fm fi sl fa:Bool}
theorem bodyD_lit:bodyD [i64 k,i64 r,i64 wd,i64 ht,.ro n 2 g,i64 a1,bo f1,i64 a2,bo f2,i64 r1,bo s1,i64 r2,bo s2,i64 v1,bo u1,i64 v2,bo u2,i64 w,bo fw,i64 m,bo fm,i64 i,bo fi,i64 st,bo sl,bo fa,i64 ve] =
 ⟨k,r,wd,ht,n,gx g 0,gx g 1,((a1,f1),(a2,f2)),((r1,s1),(r2,s2)),((v1,u1),(v2,u2)),(w,fw),(m,fm),(i,fi),st,sl,fa,ve⟩:=(rfl)
end
theorem gx_pts0 {X Y:Nat → Int}:gx (fun j => [i64 (X j),i64 (Y j)]) 0 = X:=(rfl)
theorem gx_pts1 {X Y:Nat → Int}:gx (fun j => [i64 (X j),i64 (Y j)]) 1 = Y:=(rfl)
theorem bd_eta {b:Bd}:(⟨b.k,b.r,b.wd,b.ht,b.n,b.X,b.Y,b.pl,b.rot,b.v,b.w,b.m,b.i,b.st,b.sl,b.fa,b.ve⟩:Bd) = b:=(rfl)
theorem cleanC_body {b:Bd}:∀ c ∈ bodyC b,cleanC c = true:=fun c hc => by
 simp only [bodyC,List.mem_cons,List.not_mem_nil,or_false] at hc
 rcases hc with h | h | h | h | h | h | h | h | h | h | h | h | h | h | h | h | h | h | h | h | h | h | h | h | h | h | h <;> (rw [h]; rfl)
theorem clean_body {b:Bd}:clean 3 (.agg (bodyC b)) = true:=(rfl)
theorem len_body {b:Bd}:(bodyC b).length = 27:=(rfl)
def inB (b:Bd):Prop:=inR b.k ∧ inR b.r ∧ inR b.wd ∧ inR b.ht ∧ (∀ j,j < b.n → inR (b.X j) ∧ inR (b.Y j)) ∧ inR b.pl.1.1 ∧ inR b.pl.2.1 ∧ inR b.rot.1.1 ∧ inR b.rot.2.1 ∧ inR b.v.1.1 ∧ inR b.v.2.1 ∧ inR b.w.1 ∧ inR b.m.1 ∧ inR b.i.1 ∧ inR b.st ∧ inR b.ve
def cB (F:Bd → List AV → Option (List Prop × AV)):Con
 | .agg l :: rest => match F (bodyD l) rest with
  | some (ob,r) => some ((l = bodyC (bodyD l)) :: ob,r)
  | none => none
 | _ => none
theorem cB_eq {F:Bd → List AV → Option (List Prop × AV)} {l rest:List AV}:cB F (.agg l :: rest) = (match F (bodyD l) rest with
  | some (ob,r) => some ((l = bodyC (bodyD l)) :: ob,r)
  | none => none):=(rfl)
theorem ConOK.cB {P:Program} {G:Ctx} {H:Hots} (hG:CtxOK P G) {f:FuncId} {fn:Func} (hf:P.funcs[f]? = some fn) {F:Bd → List AV → Option (List Prop × AV)}
  (h:∀ b rest ob r,F b rest = some (ob,r) → (∀ p ∈ ob,p) → funcOK P H fn (rest.length + 1) = true ∧ fnVC P G H fn (.agg (bodyC b) :: rest) (· = r)):ConOK P f (Ax.cB F):=ConOK.of hG hf fun l ob r hc hob => by
 unfold Ax.cB at hc
 split at hc
 ·rename_i l rest
  split at hc
  ·rename_i ob' r' hF
   cases hc
   have e:l = bodyC (bodyD l):=hob _ (by simp)
   obtain ⟨h1,h2⟩:=h _ _ _ _ hF fun p hp => hob p (by simp [hp])
   rw [← e] at h2
   exact ⟨h1,h2⟩
  ·cases hc
 ·cases hc
def cBR (F:Bd → List AV → Option (List Prop × AV)):Con
 | .rop l :: rest => match F (bodyD l) rest with
  | some (ob,r) => some ((l = bodyC (bodyD l)) :: ob,r)
  | none => none
 | _ => none
theorem cBR_eq {F:Bd → List AV → Option (List Prop × AV)} {l rest:List AV}:cBR F (.rop l :: rest) = (match F (bodyD l) rest with
  | some (ob,r) => some ((l = bodyC (bodyD l)) :: ob,r)
  | none => none):=(rfl)
theorem ConOK.cBR {P:Program} {G:Ctx} {H:Hots} (hG:CtxOK P G) {f:FuncId} {fn:Func} (hf:P.funcs[f]? = some fn) {F:Bd → List AV → Option (List Prop × AV)}
  (h:∀ b rest ob r,F b rest = some (ob,r) → (∀ p ∈ ob,p) → funcOK P H fn (rest.length + 1) = true ∧ fnVC P G H fn (.rop (bodyC b) :: rest) (· = r)):ConOK P f (Ax.cBR F):=ConOK.of hG hf fun l ob r hc hob => by
 unfold Ax.cBR at hc
 split at hc
 ·rename_i l rest
  split at hc
  ·rename_i ob' r' hF
   cases hc
   have e:l = bodyC (bodyD l):=hob _ (by simp)
   obtain ⟨h1,h2⟩:=h _ _ _ _ hF fun p hp => hob p (by simp [hp])
   rw [← e] at h2
   exact ⟨h1,h2⟩
  ·cases hc
 ·cases hc
def bodyR (b:Bd):List AV:=bodyC b
def mB (F:Bd → List AV → Option (List Prop × Bd)):MCon:=mc1 27 fun l rest => match F (bodyD l) rest with
 | some (ob,b) => some ((l = bodyC (bodyD l)) :: ob,.tup [],bodyC b)
 | none => none
theorem MConOK.mB {P:Program} {G:Ctx} {H:Hots} (hG:CtxOK P G) {f:FuncId} {fn:Func} (hf:P.funcs[f]? = some fn) {F:Bd → List AV → Option (List Prop × Bd)}
  (h:∀ b rest ob b',F b rest = some (ob,b') → (∀ p ∈ ob,p) → (∀ a ∈ rest,clean 3 a = true) ∧ funcOK P H fn (rest.length + 1) = true ∧
   ∀ (fam:Fam) (f i:Nat),i < (fam f).n → 27 = (fam f).sz → (∀ f,(fam f).g = none) → famOK 0 fam → bodyM P G H fn (.ptr 0 f i 27 0 :: rest) [(0,famE fam f i (bodyC b))] 1 fun a m1 => a = .tup [] ∧ look m1 0 = some (famE fam f i (bodyR b'))):MConOK P f (Ax.mB F):=by
 refine MConOK.mc1 (H:=H) hG hf fun cells rest ob val cs hF hob => ?_
 split at hF
 ·rename_i ob' b' hF'
  cases hF
  have e:cells = bodyC (bodyD cells):=hob _ (by simp)
  obtain ⟨h1,h2,h3⟩:=h _ _ _ _ hF' fun p hp => hob p (by simp [hp])
  refine ⟨h1,rfl,cleanC_body,h2,fun fam f i k1 k2 k3 k4 => ?_⟩
  have:=h3 fam f i k1 k2 k3 k4
  rw [← e] at this
  exact this
 ·cases hF
def mbQ (r:Nat) (fam fam':Bd → Fam) (pre:List Prop):Option (List Prop × Bd) → Option Eff
 | some (ob,b) => some ⟨pre ++ ob,.tup [],.many [(r,fam' b)] none⟩
 | none => none
def mbP (F:Bd → List AV → Option (List Prop × Bd)) (r f i sz:Nat) (rest:List AV):Option Fam → Option Eff
 | some fam => mbQ r (fun _ => fam) (fun b => famE fam f i (bodyC b)) [i < (fam f).n,sz = 27,27 = (fam f).sz,cleanCs ((fam f).get i) = true,famOK r fam,(fam f).get i = bodyC (bodyD ((fam f).get i))] (F (bodyD ((fam f).get i)) rest)
 | none => none
def mbB (F:Bd → List AV → Option (List Prop × Bd)) (r:Nat) (rest:List AV):Option Fam → Option Eff
 | some fam => mbQ r (fun _ => fam) (fun b => wb1 fam (bodyC b)) [(fam 0).n = 1,27 = (fam 0).sz,cleanCs ((fam 0).get 0) = true,famOK r fam,(fam 0).get 0 = bodyC (bodyD ((fam 0).get 0))] (F (bodyD ((fam 0).get 0)) rest)
 | none => none
theorem mbP_some {F:Bd → List AV → Option (List Prop × Bd)} {r f i sz:Nat} {rest:List AV} {fam:Fam}:mbP F r f i sz rest (some fam) = mbQ r (fun _ => fam) (fun b => famE fam f i (bodyC b)) [i < (fam f).n,sz = 27,27 = (fam f).sz,cleanCs ((fam f).get i) = true,famOK r fam,(fam f).get i = bodyC (bodyD ((fam f).get i))] (F (bodyD ((fam f).get i)) rest):=(rfl)
theorem mbB_some {F:Bd → List AV → Option (List Prop × Bd)} {r:Nat} {rest:List AV} {fam:Fam}:mbB F r rest (some fam) = mbQ r (fun _ => fam) (fun b => wb1 fam (bodyC b)) [(fam 0).n = 1,27 = (fam 0).sz,cleanCs ((fam 0).get 0) = true,famOK r fam,(fam 0).get 0 = bodyC (bodyD ((fam 0).get 0))] (F (bodyD ((fam 0).get 0)) rest):=(rfl)
theorem mB_ptr {F:Bd → List AV → Option (List Prop × Bd)} {key:Nat} {m:Mem} {r f i sz:Nat} {rest:List AV}:mB F key m (.ptr r f i sz 0 :: rest) = mbP F r f i sz rest (look m r):=by
 show (match look m r with
  | some fam => (match (match F (bodyD ((fam f).get i)) rest with
    | some (ob,b) => some (((fam f).get i = bodyC (bodyD ((fam f).get i))) :: ob,AV.tup [],bodyC b)
    | none => none) with
   | some (ob,val,cs) => some (⟨(i < (fam f).n) :: (sz = 27) :: (27 = (fam f).sz) :: (cleanCs ((fam f).get i) = true) :: famOK r fam :: ob,val,.many [(r,famE fam f i cs)] none⟩:Eff)
   | none => none)
  | none => none) = _
 generalize look m r = x
 cases x with
 | none => rfl
 | some fam =>
  unfold mbP
  dsimp only
  generalize F (bodyD ((fam f).get i)) rest = y
  cases y <;> rfl
theorem mB_bx {F:Bd → List AV → Option (List Prop × Bd)} {key:Nat} {m:Mem} {r:Nat} {rest:List AV}:mB F key m (.bx r 0 :: rest) = mbB F r rest (look m r):=by
 show (match look m r with
  | some fam => (match (match F (bodyD ((fam 0).get 0)) rest with
    | some (ob,b) => some (((fam 0).get 0 = bodyC (bodyD ((fam 0).get 0))) :: ob,AV.tup [],bodyC b)
    | none => none) with
   | some (ob,val,cs) => some (⟨((fam 0).n = 1) :: (27 = (fam 0).sz) :: (cleanCs ((fam 0).get 0) = true) :: famOK r fam :: ob,val,.many [(r,wb1 fam cs)] none⟩:Eff)
   | none => none)
  | none => none) = _
 generalize look m r = x
 cases x with
 | none => rfl
 | some fam =>
  unfold mbB
  dsimp only
  generalize F (bodyD ((fam 0).get 0)) rest = y
  cases y <;> rfl
section
variable {P:Program} {G:Ctx} {H:Hots} {K0:AEx → St → Prop} {hot:Option Hot} {ops:Array Oper} {d:Option Tmp} {rest:List Oper} {i:Nat} {st:List Fr} {t:Slots} {m:Mem} {nx r:Nat} {fam fam':Bd → Fam} {o pre ob:List Prop} {b:Bd}
theorem stepC_mbQ:stepC P G H K0 hot ops d rest i st t m nx (withOb o (bndE (aMut none (mbQ r fam fam' pre (some (ob,b)))))) = (∀ b',b' = b → stepC P G H K0 hot ops d rest i st t m nx (withOb o (some ⟨pre ++ ob,.tup [],.many [(r,fam' b')] none⟩))):=by
 rw [bndE_eq]
 apply propext
 constructor
 ·rintro h b' rfl; exact h
 ·intro h; exact h b rfl
end
theorem iLim {x:Nb} {n:Int} (h:inR x.1):inR (limS x n).1 = True:=by
 refine inR_of ?_
 have h1:=whV_rg h
 have h2:=whV_rg (rg_inR (ftV_rg (-n * 4294967296)))
 have h3:=whV_rg (rg_inR (ftV_rg (n * 4294967296)))
 unfold limS nCl nInt rg at *
 dsimp only
 omega
theorem inB_push {b:Bd} (h:inB b) {v:V2} {w:Nb} (h1:inR v.1.1) (h2:inR v.2.1) (h3:inR w.1):inB { b with v:=v,w:=w }:=by
 obtain ⟨b1,b2,b3,b4,b5,b6,b7,b8,b9,b10,b11,b12,b13,b14,b15,b16⟩:=h
 exact ⟨b1,b2,b3,b4,b5,b6,b7,b8,b9,h1,h2,h3,b13,b14,b15,b16⟩
def boA (b:Bd):AV:=.agg (bodyC b)
theorem plain_boA {b:Bd}:plain 3 (boA b) = false:=(rfl)
section
variable {P:Program} {G:Ctx} {H:Hots} {K0:AEx → St → Prop} {hot:Option Hot} {ops:Array Oper} {d:Option Tmp} {rest:List Oper} {i:Nat} {st:List Fr} {t:Slots} {m:Mem} {nx:Nat} {o:List Prop} {u:Upd} {b:Bd}
theorem bindC_bbx {r k:Nat}:bindC P G H K0 hot ops d rest i st t m nx o u (bnd (.bx r k)) = bindC P G H K0 hot ops d rest i st t m nx o u (.bx r k):=(rfl)
theorem bindC_bptr {r f j sz k:Nat}:bindC P G H K0 hot ops d rest i st t m nx o u (bnd (.ptr r f j sz k)) = bindC P G H K0 hot ops d rest i st t m nx o u (.ptr r f j sz k):=(rfl)
theorem bindC_bown {r f n sz:Nat}:bindC P G H K0 hot ops d rest i st t m nx o u (bnd (.own r f n sz)) = bindC P G H K0 hot ops d rest i st t m nx o u (.own r f n sz):=(rfl)
theorem bindC_bnilP {x:Option Addr}:bindC P G H K0 hot ops d rest i st t m nx o u (bnd (.v (.pointer x))) = bindC P G H K0 hot ops d rest i st t m nx o u (.v (.pointer x)):=(rfl)
theorem bindL_bx {tag:Bool} {l cs:List AV} {r k:Nat}:bindL P G H K0 hot ops d rest i st t m nx o u tag l (.bx r k :: cs) = bindL P G H K0 hot ops d rest i st t m nx o u tag (l ++ [.bx r k]) cs:=bindL_skip
theorem bindL_ptr {tag:Bool} {l cs:List AV} {r f j sz k:Nat}:bindL P G H K0 hot ops d rest i st t m nx o u tag l (.ptr r f j sz k :: cs) = bindL P G H K0 hot ops d rest i st t m nx o u tag (l ++ [.ptr r f j sz k]) cs:=bindL_skip
theorem bindL_own {tag:Bool} {l cs:List AV} {r f n sz:Nat}:bindL P G H K0 hot ops d rest i st t m nx o u tag l (.own r f n sz :: cs) = bindL P G H K0 hot ops d rest i st t m nx o u tag (l ++ [.own r f n sz]) cs:=bindL_skip
theorem bindL_nilP {tag:Bool} {l cs:List AV} {x:Option Addr}:bindL P G H K0 hot ops d rest i st t m nx o u tag l (.v (.pointer x) :: cs) = bindL P G H K0 hot ops d rest i st t m nx o u tag (l ++ [.v (.pointer x)]) cs:=bindL_skip
theorem bindC_boA:bindC P G H K0 hot ops d rest i st t m nx o u (bnd (boA b)) = (∀ b',b' = b → bindC P G H K0 hot ops d rest i st t m nx o u (.agg (bodyC b'))):=by
 apply propext
 constructor
 ·rintro h b' rfl; exact h
 ·intro h; exact h b rfl
end
attribute [go_sem] plain_boA bindC_boA bindC_bbx bindC_bptr bindC_bown bindC_bnilP bindL_bx bindL_ptr bindL_own bindL_nilP
def mvS (b:Bd):Bool:=!(b.m.1 == 0 && b.i.1 == 0)
def idS (b:Bd):Bool:=!mvS b || b.sl || b.fa
def kw26:Con:=cB fun b rest => match rest with
 | [] => some ([inR b.m.1,inR b.i.1],bo (mvS b))
 | _ => none
theorem konw26:ConOK Tryz.prog 55 kw26:=ConOK.cB (G:=[]) (H:=[]) .nil Tryz.func55 fun b rest ob r hc hob => by
 split at hc
 ·cases hc
  refine ⟨by kernel_rfl,fnVC_go (rs:=[.tmp 2]) rfl rfl ?_⟩
  simp only [bodyC,go_sem]
  unfold mvS
  cases h1:b.m.1 == 0 <;> cases h2:b.i.1 == 0 <;> simp_all [bne]
 ·cases hc
def kw67:Con:=cB fun b rest => match rest with
 | [] => some ([inR b.m.1,inR b.i.1],bo (idS b))
 | _ => none
theorem konw67:ConOK Tryz.prog 15 kw67:=ConOK.cB (G:=[(55,kw26)]) (H:=[]) (.cons konw26 .nil) Tryz.func15 fun b rest ob r hc hob => by
 split at hc
 ·cases hc
  refine ⟨by kernel_rfl,fnVC_go (rs:=[.tmp 2]) rfl rfl ?_⟩
  have h0:inR b.m.1:=hob _ (by simp)
  have h1:inR b.i.1:=hob _ (by simp)
  simp only [bodyC,go_sem,kw26,cB_eq,bodyD_lit,gx_pts0,gx_pts1,etaN,etaV,bd_eta,h0,h1]
  simp only [forall_eq,true_and]
  rfl
 ·cases hc
def kw175:Con:=cBR fun b rest => match rest with
 | [.agg [.v (.int .i64 x),.v (.bool e),.v (.int .i64 y),.v (.bool f)]] => some ([inR b.pl.1.1,inR b.pl.2.1,inR x,inR y],veA (vSub ((x,e),(y,f)) b.pl))
 | _ => none
theorem konw175:ConOK Tryz.prog 86 kw175:=ConOK.cBR (G:=[(114,k172)]) (H:=[(1,⟨[(8,.slot 4)],[]⟩)]) (.cons kon172 .nil) Tryz.func86 fun b rest ob r hc hob => by
 split at hc
 ·rename_i x e y f
  cases hc
  have h0:inR b.pl.1.1:=hob _ (by simp)
  have h1:inR b.pl.2.1:=hob _ (by simp)
  have h2:inR x:=hob _ (by simp)
  have h3:inR y:=hob _ (by simp)
  refine ⟨by kernel_rfl,fnVC_go (rs:=[.cell 4 29]) rfl rfl ?_⟩
  simp only [bodyC,go_sem,k172,h0,h1,h2,h3]
  rfl
 ·cases hc
def wakS (b:Bd):Bd:=if mvS b && !b.fa then { b with sl:=false,st:=0 } else b
def kw134:MCon:=mB fun b rest => match rest with
 | [] => some ([inB b],wakS b)
 | _ => none
theorem konw134:MConOK Tryz.prog 53 kw134:=MConOK.mB (G:=[(55,kw26)]) (H:=[]) (.cons konw26 .nil) Tryz.func53 fun b rest ob r hc hob => by
 split at hc
 ·cases hc
  refine ⟨by simp,by kernel_rfl,fun fam f i hi hsz hg hk => bodyM_go (rs:=[]) rfl rfl ?_⟩
  have hb:inB b:=hob _ (by simp)
  obtain ⟨b1,b2,b3,b4,b5,b6,b7,b8,b9,b10,b11,b12,b13,b14,b15,b16⟩:=hb
  simp only [bodyC,go_sem,kw26,cB_eq,bodyD_lit,gx_pts0,gx_pts1,etaN,etaV,bd_eta,hi,hg,hk,← hsz,b13,b14]
  simp only [forall_eq,true_and,implies_true]
  refine ⟨fun h => ?_,fun h => ?_⟩
  ·have e:wakS b = { b with sl:=false,st:=0 }:=if_pos (by simp [h])
   rw [e,bodyR]; rfl
  ·have e:wakS b = b:=if_neg (by simp only [h]; simp)
   rw [e,bodyR]; rfl
 ·cases hc
def rstS (b:Bd):Bd:={ b with v:=((0,false),(0,false)),w:=(0,false),sl:=true }
def kw124:MCon:=mB fun b rest => match rest with
 | [] => some ([],rstS b)
 | _ => none
theorem konw124:MConOK Tryz.prog 46 kw124:=MConOK.mB (G:=[]) (H:=[]) .nil Tryz.func46 fun b rest ob r hc hob => by
 split at hc
 ·cases hc
  refine ⟨by simp,by kernel_rfl,fun fam f i hi hsz hg hk => bodyM_go (rs:=[]) rfl rfl ?_⟩
  simp only [bodyC,go_sem,cB_eq,bodyD_lit,gx_pts0,gx_pts1,etaN,etaV,bd_eta,hi,hg,hk,← hsz]
  rfl
 ·cases hc
def shfS (b:Bd) (p:V2):Bd:=if !idS b && (withS p.1 4096 && withS p.2 4096) then { b with pl:=p } else b
def kw123:Con
 | [.v (.int .i64 n),.ro 1 2 g] => some ([nums 1 g,0 ≤ n ∧ n ≤ 65536],bo (withS (gx g 0 0,gb g 1 0) n))
 | [.v (.int .i64 n),.ro 2 2 g] => some ([nums 2 g,0 ≤ n ∧ n ≤ 65536],bo (withS (gx g 0 0,gb g 1 0) n && withS (gx g 0 1,gb g 1 1) n))
 | _ => none
theorem vc45 (m:Nat) (hm:m ≤ 1000) (n:Int) (hn:0 ≤ n ∧ n ≤ 65536) (X:Nat → Int) (E:Nat → Bool) (hX:∀ i,i < m → inR (X i)):fnVC Tryz.prog [(68,kSum)] [] Tryz.f45 [.v (.int .i64 n),.ro m 2 fun i => [i64 (X i),bo (E i)]] (· = bo (decide (∀ i,i < m → withS (X i,E i) n = true))):=by
 refine fnVC_go (rs:=[.tmp 4]) rfl rfl ?_
 simp only [go_sem,kSum]
 refine loopC_go (fun (i:Nat) => i ≤ m ∧ ∀ j,j < i → withS (X j,E j) n = true) (fun i => m - i) (fun i => [(9,i64 (i:Int))]) (fun _ => []) [] [10,11,12,6,13,14,15,16,17,18,19,20,21,22,23,24,25,26,27,28,4,29,9] 0 (by kernel_rfl) ?_ ⟨Nat.zero_le _,fun j hj => by omega⟩ ?_ ?_
 ·intro x _; simp [goodNames,asg]
 ·simp only [go_sem]
 intro i hi
 simp only [go_sem,kSum]
 have hw:IntKind.i64.wrap (n * 4294967296) = n * 4294967296:=wrap_in (by unfold inR; omega)
 refine ⟨fun h => ⟨by omega,h,hX i (by omega),fun z hz z1 hz1 z2 hz2 => ?_⟩,fun h => ?_⟩
 ·have hi':i < m:=by omega
  have hx:=hX i hi'
  have key:withS (X i,E i) n = true ↔ (nWh (X i,E i)).2 = false ∧ ¬ z2 < z1:=by
   rw [hw] at hz2
   have hwr:=whV_rg hx
   unfold rg at hwr
   have e0:(nWh (X i,E i)).1 = whV (X i):=rfl
   have e1:(nWh (X i,E i)).2 = whF (X i) (E i):=rfl
   rw [e0] at hz hz1
   rw [wrap_in (by unfold inR; omega)] at hz
   unfold withS
   rw [e1]
   cases hf:whF (X i) (E i) with
   | true => simp
   | false =>
    have hne:¬ X i = -9223372036854775808:=by
     intro e; unfold whF at hf; simp [e] at hf
    have ev:whV (X i) = X i:=by unfold whV; rw [if_neg hne]
    rw [ev] at hz hz1
    simp only [Bool.not_false,Bool.true_and,decide_eq_true_eq,true_and]
    omega
  refine ⟨fun hb => ?_,fun hb z3 hz3 => ⟨i + 1,⟨by omega,fun j hj => ?_⟩,by omega,by rw [hz3,wrap_in (by unfold inR; omega)]; rfl⟩⟩
  ·refine (decide_eq_false fun hc => ?_).symm
   have:=key.1 (hc i hi')
   rcases hb with hb | hb
   ·rw [this.1] at hb; cases hb
   ·exact this.2 hb
  ·by_cases e:j = i
   ·subst e; exact key.2 hb
   ·exact hi.2 j (by omega)
 ·exact (decide_eq_true fun j hj => hi.2 j (by omega)).symm
theorem dec_lt1 {p:Nat → Bool}:decide (∀ i:Nat,i < 1 → p i = true) = p 0:=by
 cases h:p 0
 ·refine decide_eq_false fun hc => ?_
  rw [hc 0 (by omega)] at h; cases h
 ·refine decide_eq_true fun i hi => ?_
  have:i = 0:=by omega
  subst this; exact h
theorem dec_lt2 {p:Nat → Bool}:decide (∀ i:Nat,i < 2 → p i = true) = (p 0 && p 1):=by
 cases h:p 0
 ·refine decide_eq_false fun hc => ?_
  rw [hc 0 (by omega)] at h; cases h
 ·cases h1:p 1
  ·refine decide_eq_false fun hc => ?_
   rw [hc 1 (by omega)] at h1; cases h1
  ·refine decide_eq_true fun i hi => ?_
   match i with
   | 0 => exact h
   | 1 => exact h1
   | i + 2 => omega
theorem konw123:ConOK Tryz.prog 45 kw123:=ConOK.go (G:=[(68,kSum)]) (H:=[]) (.cons konS179 .nil) Tryz.func45 fun l ob rr hc hob => by
 unfold kw123 at hc
 split at hc
 ·rename_i n g
  cases hc
  have hg:nums 1 g:=hob _ (by simp)
  refine ⟨[.v (.int .i64 n),.ro 1 2 fun i => [i64 (gx g 0 i),bo (gb g 1 i)]],fun w I vs h => ?_,by kernel_rfl,?_⟩
  ·exact Rs_two (fun v hv => hv) (fun v hv => ro_alike (fun i hi => (hg i hi).1) hv) h
  ·have:=vc45 1 (by omega) n (hob _ (by simp)) (gx g 0) (gb g 1) fun i hi => (hg i hi).2
   rw [dec_lt1] at this
   exact this
 ·rename_i n g
  cases hc
  have hg:nums 2 g:=hob _ (by simp)
  refine ⟨[.v (.int .i64 n),.ro 2 2 fun i => [i64 (gx g 0 i),bo (gb g 1 i)]],fun w I vs h => ?_,by kernel_rfl,?_⟩
  ·exact Rs_two (fun v hv => hv) (fun v hv => ro_alike (fun i hi => (hg i hi).1) hv) h
  ·have:=vc45 2 (by omega) n (hob _ (by simp)) (gx g 0) (gb g 1) fun i hi => (hg i hi).2
   rw [dec_lt2] at this
   exact this
 ·cases hc
def pshS (b:Bd) (p j:V2):Bd:=if !mvS b || b.fa then b else
 let c:Bd:={ b with v:=limV (vAdd b.v (vScale j b.m)),w:=limS (nAdd b.w (nMul b.i (vCross (vSub p b.pl) j))) 64 }
 if b.sl then wakS c else c
def kw115:MCon:=mB fun b rest => match rest with
 | [.agg [.v (.int .i64 x),.v (.bool e),.v (.int .i64 y),.v (.bool f)],.agg [.v (.int .i64 z),.v (.bool g),.v (.int .i64 u),.v (.bool h)]] => some ([inB b,inR x,inR y,inR z,inR u],pshS b ((x,e),(y,f)) ((z,g),(u,h)))
 | _ => none
theorem konw115:MConOK Tryz.prog 42 kw115:=MConOK.mB (G:=[(55,kw26),(86,kw175),(85,k250),(47,k129),(44,k169),(43,k130),(54,kw120),(88,kw153),(87,kw176l),(53,.wr kw134)]) (H:=[(2,⟨[(13,.made 12)],[]⟩),(3,⟨[(20,.slot 0)],[]⟩),(4,⟨[(12,.slot 0)],[]⟩)]) (.cons konw26 (.cons konw175 (.cons kon250 (.cons kon129 (.cons kon169 (.cons kon130 (.cons konw120 (.cons konw153 (.cons konw176l (.mcons konw134 .nil)))))))))) Tryz.func42 fun b rest ob r hc hob => by
 split at hc
 ·rename_i x e y f z g u h
  cases hc
  refine ⟨by simp [clean],by kernel_rfl,fun fam f' i hi hsz hg hk => bodyM_go (rs:=[]) rfl rfl ?_⟩
  have hb:inB b:=hob _ (by simp)
  have h1:inR x:=hob _ (by simp)
  have h2:inR y:=hob _ (by simp)
  have h3:inR z:=hob _ (by simp)
  have h4:inR u:=hob _ (by simp)
  obtain ⟨b1,b2,b3,b4,b5,b6,b7,b8,b9,b10,b11,b12,b13,b14,b15,b16⟩:=hb
  simp only [bodyC,go_sem,kw26,kw175,k250,k129,k169,k130,kw120,kw153,kw176l,kw134,cB_eq,cBR_eq,bodyD_lit,gx_pts0,gx_pts1,etaN,etaV,bd_eta,mB_ptr,mbP_some,stepC_mbQ,hi,hg,hk,← hsz,b1,b2,b3,b4,b6,b7,b8,b9,b10,b11,b12,b13,b14,b15,b16,vecs_rows,gx4_1,gx4_2,gx4_3,gx4_4,gb4_1,gb4_2,gb4_3,gb4_4,nums_rows,gx_rows1,gx_rows2,gb_rows1,gb_rows2,iMul,iAdd,iDot,iVCross,iVSub1,iVSub2,iVAdd1,iVAdd2,iScale1,iScale2,h1,h2,h3,h4]
  intro z1 hz1
  subst hz1
  simp only [true_and,implies_true]
  have hc0:∀ v:V2,∀ w:Nb,inR v.1.1 → inR v.2.1 → inR w.1 → inB { b with v:=v,w:=w }:=fun v w q1 q2 q3 => inB_push (hob _ (by simp)) q1 q2 q3
  refine ⟨fun hh => ?_,fun hh => ⟨fun hs b' hb' => ⟨hc0 _ _ (of_eq_true (iLim (of_eq_true iVAdd1))) (of_eq_true (iLim (of_eq_true iVAdd2))) (of_eq_true (iLim (of_eq_true iAdd))),?_⟩,fun hs => ?_⟩⟩
  ·have e:pshS b ((x,e),(y,f)) ((z,g),(u,h)) = b:=if_pos (by simpa using hh)
   rw [e,bodyR]; rfl
  ·have e:pshS b ((x,e),(y,f)) ((z,g),(u,h)) = b':=by
    rw [hb']
    unfold pshS
    rw [if_neg (by simp [hh]),if_pos hs]
    rfl
   rw [e,bodyR]; rfl
  ·have e:pshS b ((x,e),(y,f)) ((z,g),(u,h)) = { b with v:=limV (vAdd b.v (vScale ((z,g),(u,h)) b.m)),w:=limS (nAdd b.w (nMul b.i (vCross (vSub ((x,e),(y,f)) b.pl) ((z,g),(u,h))))) 64 }:=by
    unfold pshS
    rw [if_neg (by simp [hh]),if_neg (by simp [hs])]
   rw [e,bodyR]; rfl
 ·cases hc
theorem iTurn1 {k:Nb} {v:V2}:inR (vTurn k v).1.1 = True:=iMul
theorem iTurn2 {k:Nb} {v:V2}:inR (vTurn k v).2.1 = True:=iMul
attribute [go_sem] iTurn1 iTurn2
theorem spots_can {n:Nat} {X Y:Nat → Int}:spots n (fun j => [i64 (X j),i64 (Y j)]) = (∀ j,j < n → inR (X j) ∧ inR (Y j)):=propext ⟨fun h j hj => (h j hj).2,fun h j hj => ⟨rfl,h j hj⟩⟩
theorem tmod_turn {v:Int}:-26986075409 < v.tmod 26986075409 ∧ v.tmod 26986075409 < 26986075409:=by
 have h1:=Int.tmod_lt_of_pos v (show (0:Int) < 26986075409 by decide)
 rcases Int.le_total 0 v with h | h
 ·have:=Int.tmod_nonneg 26986075409 h; omega
 ·have e:v.tmod 26986075409 = -((-v).tmod 26986075409):=by rw [Int.neg_tmod,Int.neg_neg]
  have:=Int.tmod_lt_of_pos (-v) (show (0:Int) < 26986075409 by decide)
  omega
def c244:Con
 | [.agg [.v (.int .i64 v),.v (.bool f)]] => some ([inR v],.agg [i64 (wpV (whV v)),bo (whF v f)])
 | _ => none
theorem con244:ConOK Tryz.prog 244 c244:=ConOK.of (G:=[(89,c89)]) (H:=[]) (.cons con89 .nil) Tryz.func244 fun l ob rr hc hob => by
 unfold c244 at hc
 split at hc
 ·rename_i v f
  cases hc
  have h_0:inR v:=hob _ (by simp)
  refine ⟨by kernel_rfl,fnVC_go (rs:=[.cell 2 27]) rfl rfl ?_⟩
  simp only [go_sem,c89,iMul,iDiv,iInt,iAdd,iSub,iRat,iDot,iHyp,iSq,iNeg,iPos,iAbs,iMx,iMn,iCl,iWh,iLoc1,iLoc2,iVAdd1,iVAdd2,iVSub1,iVSub2,iScale1,iScale2,iVDot,iVCross,iLen,iOf1,iOf2,iUnit1,iUnit2,h_0]
  intro z hz z1 hz1 z2 hz2
  subst hz hz1
  have hb:-26986075409 < z2 ∧ z2 < 26986075409:=by rw [hz2]; exact tmod_turn
  have e:wpV (whV v) = if 13493037704 < z2 then z2 - 26986075409 else if z2 < -13493037704 then z2 + 26986075409 else z2:=by rw [hz2]; rfl
  rw [e]
  refine ⟨fun h z hz => ?_,fun h => ⟨fun h3 z hz => ?_,fun h3 => ?_⟩⟩
  ·rw [hz,wrap_in (by unfold inR; omega),if_pos h]
  ·rw [hz,wrap_in (by unfold inR; omega),if_neg h,if_pos h3]
  ·rw [if_neg h,if_neg h3]
 ·cases hc
def c117:Con
 | [.v (.int .i64 v)] => some ([inR v],.agg [i64 (whV v),bo (whF v false)])
 | _ => none
theorem con117:ConOK Tryz.prog 117 c117:=ConOK.of (G:=[(89,c89)]) (H:=[]) (.cons con89 .nil) Tryz.func117 fun l ob rr hc hob => by
 unfold c117 at hc
 split at hc
 ·rename_i v
  cases hc
  have h_0:inR v:=hob _ (by simp)
  refine ⟨by kernel_rfl,fnVC_go (rs:=[.cell 2 27]) rfl rfl ?_⟩
  simp only [go_sem,c89,iMul,iDiv,iInt,iAdd,iSub,iRat,iDot,iHyp,iSq,iNeg,iPos,iAbs,iMx,iMn,iCl,iWh,iLoc1,iLoc2,iVAdd1,iVAdd2,iVSub1,iVSub2,iScale1,iScale2,iVDot,iVCross,iLen,iOf1,iOf2,iUnit1,iUnit2,h_0]
  simp only [forall_eq]
 ·cases hc
theorem byt116:bytesT Tryz.prog 116 = 16:=by kernel_rfl
theorem vc63 (k r w t:Int) (n:Nat) (X Y:Nat → Int) (hn:n ≤ 1000):fnVC Tryz.prog [] [] Tryz.f63 [shapeA k r w t n fun i => [i64 (X i),i64 (Y i)]] (· = shapeA k r w t n fun i => [i64 (X i),i64 (Y i)]):=by
 refine fnVC_go (rs:=[.cell 2 32]) rfl rfl ?_
 simp only [go_sem]
 exact ⟨fun _ _ => rfl,by rw [byt116]; omega,by omega⟩
def c63:Con
 | [.agg [.v (.int .i64 k),.v (.int .i64 r),.v (.int .i64 w),.v (.int .i64 t),.ro n 2 g]] => some ([spots n g,n ≤ 1000],.agg [i64 k,i64 r,i64 w,i64 t,.ro n 2 fun i => [i64 (gx g 0 i),i64 (gx g 1 i)]])
 | _ => none
theorem con63:ConOK Tryz.prog 63 c63:=ConOK.go (G:=[]) (H:=[]) .nil Tryz.func63 fun l ob rr hc hob => by
 unfold c63 at hc
 split at hc
 ·rename_i k r w t n g
  cases hc
  have h_0:spots n g:=hob _ (by simp)
  have h_1:n ≤ 1000:=hob _ (by simp)
  exact ⟨[shapeA k r w t n fun i => [i64 (gx g 0 i),i64 (gx g 1 i)]],fun w I vs h => Rs_one (Rs_shape h_0) h,by kernel_rfl,vc63 k r w t n _ _ h_1⟩
 ·cases hc
def kb84:Con:=cB fun b rest => match rest with
 | [] => some ([inB b,b.n ≤ 1000],boA b)
 | _ => none
theorem konb84:ConOK Tryz.prog 84 kb84:=ConOK.cB (G:=[(63,c63)]) (H:=[]) (.cons con63 .nil) Tryz.func84 fun b rest ob r hc hob => by
 split at hc
 ·skip
  cases hc
  have h_0:inB b:=hob _ (by simp)
  have h_1:b.n ≤ 1000:=hob _ (by simp)
  obtain ⟨b1,b2,b3,b4,b5,b6,b7,b8,b9,b10,b11,b12,b13,b14,b15,b16⟩:=h_0
  have hb:inB b:=hob _ (by simp)
  refine ⟨by kernel_rfl,fnVC_go (rs:=[.cell 2 40]) rfl rfl ?_⟩
  simp only [bodyC,go_sem,c63,cB_eq,cBR_eq,bodyD_lit,gx_pts0,gx_pts1,spots_can,etaN,etaV,bd_eta,b1,b2,b3,b4,b6,b7,b8,b9,b10,b11,b12,b13,b14,b15,b16,hb,h_1]
  simp only [forall_eq]
  exact ⟨b5,rfl⟩
 ·cases hc
def kb28:Con:=cB fun b rest => match rest with
 | [] => some ([inB b,b.n ≤ 1000],boA b)
 | _ => none
theorem konb28:ConOK Tryz.prog 28 kb28:=ConOK.cB (G:=[(69,c69)]) (H:=[]) (.cons con69 .nil) Tryz.func28 fun b rest ob r hc hob => by
 split at hc
 ·skip
  cases hc
  have h_0:inB b:=hob _ (by simp)
  have h_1:b.n ≤ 1000:=hob _ (by simp)
  obtain ⟨b1,b2,b3,b4,b5,b6,b7,b8,b9,b10,b11,b12,b13,b14,b15,b16⟩:=h_0
  have hb:inB b:=hob _ (by simp)
  refine ⟨by kernel_rfl,fnVC_go (rs:=[.cell 2 40]) rfl rfl ?_⟩
  simp only [bodyC,go_sem,c69,cB_eq,cBR_eq,bodyD_lit,gx_pts0,gx_pts1,spots_can,etaN,etaV,bd_eta,b1,b2,b3,b4,b6,b7,b8,b9,b10,b11,b12,b13,b14,b15,b16,hb,h_1]
  exact ⟨b5,rfl⟩
 ·cases hc
def spdS (b:Bd) (p:V2):V2:=vAdd b.v (vTurn b.w (vSub p b.pl))
def hftS (b:Bd) (p n:V2):Nb:=nAdd b.m (nMul b.i (nMul (vCross (vSub p b.pl) n) (vCross (vSub p b.pl) n)))
def kb169:Con:=cBR fun b rest => match rest with
 | [.agg [.v (.int .i64 x),.v (.bool e),.v (.int .i64 y),.v (.bool f)]] => some ([inB b,inR x,inR y],veA (spdS b ((x,e),(y,f))))
 | _ => none
theorem konb169:ConOK Tryz.prog 169 kb169:=ConOK.cBR (G:=[(86,kw175),(246,kw218),(43,k130)]) (H:=[(1,⟨[(16,.slot 4)],[]⟩)]) (.cons konw175 (.cons konw218 (.cons kon130 .nil))) Tryz.func169 fun b rest ob r hc hob => by
 split at hc
 ·rename_i x e y f
  cases hc
  have h_0:inB b:=hob _ (by simp)
  have h_1:inR x:=hob _ (by simp)
  have h_2:inR y:=hob _ (by simp)
  obtain ⟨b1,b2,b3,b4,b5,b6,b7,b8,b9,b10,b11,b12,b13,b14,b15,b16⟩:=h_0
  have hb:inB b:=hob _ (by simp)
  refine ⟨by kernel_rfl,fnVC_go (rs:=[.cell 4 29]) rfl rfl ?_⟩
  simp only [bodyC,go_sem,kw175,kw218,k130,cB_eq,cBR_eq,bodyD_lit,gx_pts0,gx_pts1,spots_can,etaN,etaV,bd_eta,b1,b2,b3,b4,b6,b7,b8,b9,b10,b11,b12,b13,b14,b15,b16,hb,h_1,h_2]
  rfl
 ·cases hc
def kb173:Con:=cBR fun b rest => match rest with
 | [.agg [.v (.int .i64 x),.v (.bool e),.v (.int .i64 y),.v (.bool f)],.agg [.v (.int .i64 z),.v (.bool g),.v (.int .i64 u),.v (.bool h)]] => some ([inB b,inR x,inR y,inR z,inR u],nbA (hftS b ((x,e),(y,f)) ((z,g),(u,h))))
 | _ => none
theorem konb173:ConOK Tryz.prog 173 kb173:=ConOK.cBR (G:=[(86,kw175),(85,k250),(47,k129),(88,kw153)]) (H:=[(1,⟨[(6,.made 5)],[]⟩),(2,⟨[(17,.slot 6)],[]⟩)]) (.cons konw175 (.cons kon250 (.cons kon129 (.cons konw153 .nil)))) Tryz.func173 fun b rest ob r hc hob => by
 split at hc
 ·rename_i x e y f z g u h
  cases hc
  have h_0:inB b:=hob _ (by simp)
  have h_1:inR x:=hob _ (by simp)
  have h_2:inR y:=hob _ (by simp)
  have h_3:inR z:=hob _ (by simp)
  have h_4:inR u:=hob _ (by simp)
  obtain ⟨b1,b2,b3,b4,b5,b6,b7,b8,b9,b10,b11,b12,b13,b14,b15,b16⟩:=h_0
  have hb:inB b:=hob _ (by simp)
  refine ⟨by kernel_rfl,fnVC_go (rs:=[.cell 6 27]) rfl rfl ?_⟩
  simp only [bodyC,go_sem,kw175,k250,k129,kw153,cB_eq,cBR_eq,bodyD_lit,gx_pts0,gx_pts1,spots_can,etaN,etaV,bd_eta,b1,b2,b3,b4,b6,b7,b8,b9,b10,b11,b12,b13,b14,b15,b16,hb,h_1,h_2,h_3,h_4]
  rfl
 ·cases hc
def c164:Con
 | [.agg [.v (.int .i64 v),.v (.bool f)]] => some ([inR v],.agg [i64 (snV v f),bo (snF v f)])
 | _ => none
theorem con164:ConOK Tryz.prog 164 c164:=ConOK.of (G:=[(244,c244),(47,k129),(103,k127),(78,k168),(112,k179),(88,kw153),(102,k171)]) (H:=[(6,⟨[(4,.made 2),(5,.made 3)],[(1,[.made 2])]⟩),(11,⟨[(12,.slot 4)],[]⟩),(14,⟨[(4,.slot 2)],[]⟩)]) (.cons con244 (.cons kon129 (.cons kon127 (.cons kon168 (.cons kon179 (.cons konw153 (.cons kon171 .nil))))))) Tryz.func164 fun l ob rr hc hob => by
 unfold c164 at hc
 split at hc
 ·rename_i v f
  cases hc
  have h_0:inR v:=hob _ (by simp)
  refine ⟨by kernel_rfl,fnVC_go (rs:=[.cell 2 27]) rfl rfl ?_⟩
  simp only [go_sem,c244,k129,k127,k168,k179,kw153,k171,iMul,iDiv,iInt,iAdd,iSub,iRat,iDot,iHyp,iSq,iNeg,iPos,iAbs,iMx,iMn,iCl,iWh,iLoc1,iLoc2,iVAdd1,iVAdd2,iVSub1,iVSub2,iScale1,iScale2,iVDot,iVCross,iLen,iOf1,iOf2,iUnit1,iUnit2,h_0]
  intro z hz z1 hz1
  have hw:=wpV_le (v:=whV v)
  rw [← hz] at hw
  obtain ⟨y,hy⟩:∃ y:Nb,y = snY v f:=⟨_,rfl⟩
  have y2:z1 = y.2:=by rw [hy]; exact hz1
  have yq:y.1 = qtV z:=by rw [hy,hz]; rfl
  have yi:inR y.1:=by rw [yq]; unfold qtV inR; (repeat' split) <;> omega
  have ev:snV v f = max (-4294967296) (min (whV (snS y 8).1) 4294967296):=by rw [hy]; rfl
  have ef:snF v f = whF (snS y 8).1 (snS y 8).2:=by rw [hy]; rfl
  rw [ev,ef]
  clear ev ef hy hz hz1
  refine ⟨fun h z2 hz2 => ?_,fun h => ⟨fun h2 z3 hz3 => ?_,fun h2 => ?_⟩⟩
  ·have e:z2 = y.1:=by rw [hz2,wrap_in (by unfold inR; omega),yq]; unfold qtV; rw [if_pos h,if_neg (by omega)]
   subst e
   subst y2
   refine loopC_go (fun (k:Nat) => k ≤ 8) (fun k => 8 - k) (fun k => [(28,i64 (k:Int))]) (fun k => [(18,fam1 27 2 [i64 (snS y k).1,bo (snS y k).2] none),(17,fam1 27 2 [i64 (snT y k).1,bo (snT y k).2] none)]) [4,1,0] [29,30,6,31,32,33,7,34,35,36,37,38,39,40,41,42,43,44,45,46,47,48,49,28] 0 (by kernel_rfl) ?_ (by omega) ?_ ?_
   ·intro x _; simp [goodNames,asg]
   ·simp only [go_sem,snT,snS]
   intro k hk
   simp only [go_sem,c244,k129,k127,k168,k179,kw153,k171]
   refine ⟨fun hk8 => ?_,fun hk8 => ?_⟩
   ·have n1:0 ≤ 2 * ((k:Int) + 1) * (2 * ((k:Int) + 1) + 1):=Int.mul_nonneg (by omega) (by omega)
    have n2:2 * ((k:Int) + 1) * (2 * ((k:Int) + 1) + 1) ≤ 16 * 17:=Int.mul_le_mul (by omega) (by omega) (by omega) (by omega)
    have w0:IntKind.i64.wrap ((k:Int) + 1) = (k:Int) + 1:=wrap_in (by unfold inR; omega)
    have w1:IntKind.i64.wrap (2 * ((k:Int) + 1)) = 2 * ((k:Int) + 1):=wrap_in (by unfold inR; omega)
    have w2:IntKind.i64.wrap (2 * ((k:Int) + 1) + 1) = 2 * ((k:Int) + 1) + 1:=wrap_in (by unfold inR; omega)
    have w3:IntKind.i64.wrap (2 * ((k:Int) + 1) * (2 * ((k:Int) + 1) + 1)) = 2 * ((k:Int) + 1) * (2 * ((k:Int) + 1) + 1):=wrap_in (by unfold inR; omega)
    simp only [forall_eq,w0,w1,w2,w3]
    exact ⟨snT_in yi k,yi,yi,by unfold inR; omega,snS_in yi k,k + 1,by omega,by omega,rfl,⟨rfl,rfl⟩,rfl,rfl⟩
   ·have e8:k = 8:=by omega
    subst e8
    refine ⟨snS_in yi 8,agg2 (i64_eq ?_) (bo_eq ?_)⟩
    ·unfold nCl
     have c1:whV (nInt (-1)).1 = -4294967296:=by decide
     have c2:whV (nInt 1).1 = 4294967296:=by decide
     simp only [c1,c2]
    ·unfold nCl
     have c1:whF (nInt (-1)).1 (nInt (-1)).2 = false:=by decide
     have c2:whF (nInt 1).1 (nInt 1).2 = false:=by decide
     simp only [c1,c2,Bool.or_false,Bool.false_or]
  ·have e:z3 = y.1:=by rw [hz3,wrap_in (by unfold inR; omega),yq]; unfold qtV; rw [if_neg h,if_pos h2]
   subst e
   subst y2
   refine loopC_go (fun (k:Nat) => k ≤ 8) (fun k => 8 - k) (fun k => [(28,i64 (k:Int))]) (fun k => [(22,fam1 27 2 [i64 (snS y k).1,bo (snS y k).2] none),(21,fam1 27 2 [i64 (snT y k).1,bo (snT y k).2] none)]) [4,1,0] [29,30,6,31,32,33,7,34,35,36,37,38,39,40,41,42,43,44,45,46,47,48,49,28] 0 (by kernel_rfl) ?_ (by omega) ?_ ?_
   ·intro x _; simp [goodNames,asg]
   ·simp only [go_sem,snT,snS]
   intro k hk
   simp only [go_sem,c244,k129,k127,k168,k179,kw153,k171]
   refine ⟨fun hk8 => ?_,fun hk8 => ?_⟩
   ·have n1:0 ≤ 2 * ((k:Int) + 1) * (2 * ((k:Int) + 1) + 1):=Int.mul_nonneg (by omega) (by omega)
    have n2:2 * ((k:Int) + 1) * (2 * ((k:Int) + 1) + 1) ≤ 16 * 17:=Int.mul_le_mul (by omega) (by omega) (by omega) (by omega)
    have w0:IntKind.i64.wrap ((k:Int) + 1) = (k:Int) + 1:=wrap_in (by unfold inR; omega)
    have w1:IntKind.i64.wrap (2 * ((k:Int) + 1)) = 2 * ((k:Int) + 1):=wrap_in (by unfold inR; omega)
    have w2:IntKind.i64.wrap (2 * ((k:Int) + 1) + 1) = 2 * ((k:Int) + 1) + 1:=wrap_in (by unfold inR; omega)
    have w3:IntKind.i64.wrap (2 * ((k:Int) + 1) * (2 * ((k:Int) + 1) + 1)) = 2 * ((k:Int) + 1) * (2 * ((k:Int) + 1) + 1):=wrap_in (by unfold inR; omega)
    simp only [forall_eq,w0,w1,w2,w3]
    exact ⟨snT_in yi k,yi,yi,by unfold inR; omega,snS_in yi k,k + 1,by omega,by omega,rfl,⟨rfl,rfl⟩,rfl,rfl⟩
   ·have e8:k = 8:=by omega
    subst e8
    refine ⟨snS_in yi 8,agg2 (i64_eq ?_) (bo_eq ?_)⟩
    ·unfold nCl
     have c1:whV (nInt (-1)).1 = -4294967296:=by decide
     have c2:whV (nInt 1).1 = 4294967296:=by decide
     simp only [c1,c2]
    ·unfold nCl
     have c1:whF (nInt (-1)).1 (nInt (-1)).2 = false:=by decide
     have c2:whF (nInt 1).1 (nInt 1).2 = false:=by decide
     simp only [c1,c2,Bool.or_false,Bool.false_or]
  ·have e:z = y.1:=by rw [yq]; unfold qtV; rw [if_neg h,if_neg h2]
   subst e
   subst y2
   refine loopC_go (fun (k:Nat) => k ≤ 8) (fun k => 8 - k) (fun k => [(28,i64 (k:Int))]) (fun k => [(17,fam1 27 2 [i64 (snS y k).1,bo (snS y k).2] none),(16,fam1 27 2 [i64 (snT y k).1,bo (snT y k).2] none)]) [4,1,0] [29,30,6,31,32,33,7,34,35,36,37,38,39,40,41,42,43,44,45,46,47,48,49,28] 0 (by kernel_rfl) ?_ (by omega) ?_ ?_
   ·intro x _; simp [goodNames,asg]
   ·simp only [go_sem,snT,snS]
   intro k hk
   simp only [go_sem,c244,k129,k127,k168,k179,kw153,k171]
   refine ⟨fun hk8 => ?_,fun hk8 => ?_⟩
   ·have n1:0 ≤ 2 * ((k:Int) + 1) * (2 * ((k:Int) + 1) + 1):=Int.mul_nonneg (by omega) (by omega)
    have n2:2 * ((k:Int) + 1) * (2 * ((k:Int) + 1) + 1) ≤ 16 * 17:=Int.mul_le_mul (by omega) (by omega) (by omega) (by omega)
    have w0:IntKind.i64.wrap ((k:Int) + 1) = (k:Int) + 1:=wrap_in (by unfold inR; omega)
    have w1:IntKind.i64.wrap (2 * ((k:Int) + 1)) = 2 * ((k:Int) + 1):=wrap_in (by unfold inR; omega)
    have w2:IntKind.i64.wrap (2 * ((k:Int) + 1) + 1) = 2 * ((k:Int) + 1) + 1:=wrap_in (by unfold inR; omega)
    have w3:IntKind.i64.wrap (2 * ((k:Int) + 1) * (2 * ((k:Int) + 1) + 1)) = 2 * ((k:Int) + 1) * (2 * ((k:Int) + 1) + 1):=wrap_in (by unfold inR; omega)
    simp only [forall_eq,w0,w1,w2,w3]
    exact ⟨snT_in yi k,yi,yi,by unfold inR; omega,snS_in yi k,k + 1,by omega,by omega,rfl,⟨rfl,rfl⟩,rfl,rfl⟩
   ·have e8:k = 8:=by omega
    subst e8
    refine ⟨snS_in yi 8,agg2 (i64_eq ?_) (bo_eq ?_)⟩
    ·unfold nCl
     have c1:whV (nInt (-1)).1 = -4294967296:=by decide
     have c2:whV (nInt 1).1 = 4294967296:=by decide
     simp only [c1,c2]
    ·unfold nCl
     have c1:whF (nInt (-1)).1 (nInt (-1)).2 = false:=by decide
     have c2:whF (nInt 1).1 (nInt 1).2 = false:=by decide
     simp only [c1,c2,Bool.or_false,Bool.false_or]
 ·cases hc
def c163:Con
 | [.agg [.v (.int .i64 v),.v (.bool f)]] => some ([inR v],.agg [i64 (csV v f),bo (csF v f)])
 | _ => none
theorem con163:ConOK Tryz.prog 163 c163:=ConOK.of (G:=[(244,c244),(117,c117),(88,kw153),(164,c164)]) (H:=[]) (.cons con244 (.cons con117 (.cons konw153 (.cons con164 .nil)))) Tryz.func163 fun l ob rr hc hob => by
 unfold c163 at hc
 split at hc
 ·rename_i v f
  cases hc
  have h_0:inR v:=hob _ (by simp)
  refine ⟨by kernel_rfl,fnVC_go (rs:=[.cell 2 27]) rfl rfl ?_⟩
  simp only [go_sem,c244,c117,kw153,c164,iMul,iDiv,iInt,iAdd,iSub,iRat,iDot,iHyp,iSq,iNeg,iPos,iAbs,iMx,iMn,iCl,iWh,iLoc1,iLoc2,iVAdd1,iVAdd2,iVSub1,iVSub2,iScale1,iScale2,iVDot,iVCross,iLen,iOf1,iOf2,iUnit1,iUnit2,h_0]
  have c1:whV 6746518852 = 6746518852:=by decide
  have c2:whF 6746518852 false = false:=by decide
  have hw:=wpV_le (v:=whV v)
  simp only [forall_eq,c1,c2]
  exact ⟨by unfold inR; omega,by unfold inR; omega,by unfold inR; omega,by first | trivial | rfl⟩
 ·cases hc
def kq186:Con
 | [.agg [.v (.int .i64 v),.v (.bool f)]] => some ([inR v],veA ((csV v f,csF v f),(snV v f,snF v f)))
 | _ => none
theorem konq186:ConOK Tryz.prog 95 kq186:=ConOK.of (G:=[(163,c163),(164,c164)]) (H:=[(1,⟨[(5,.slot 2)],[]⟩)]) (.cons con163 (.cons con164 .nil)) Tryz.func95 fun l ob rr hc hob => by
 unfold kq186 at hc
 split at hc
 ·rename_i v f
  cases hc
  have h_0:inR v:=hob _ (by simp)
  refine ⟨by kernel_rfl,fnVC_go (rs:=[.cell 2 34]) rfl rfl ?_⟩
  simp only [go_sem,c163,c164,iMul,iDiv,iInt,iAdd,iSub,iRat,iDot,iHyp,iSq,iNeg,iPos,iAbs,iMx,iMn,iCl,iWh,iLoc1,iLoc2,iVAdd1,iVAdd2,iVSub1,iVSub2,iScale1,iScale2,iVDot,iVCross,iLen,iOf1,iOf2,iUnit1,iUnit2,h_0]
  simp only [forall_eq]
  rfl
 ·cases hc
def vCom (r s:V2):V2:=if (nHyp (nDot r.1 s.1 (nNeg r.2) s.2) (nDot r.2 s.1 r.1 s.2)).1 = 0 then (nDot r.1 s.1 (nNeg r.2) s.2,nDot r.2 s.1 r.1 s.2) else (nDiv (nDot r.1 s.1 (nNeg r.2) s.2) (nHyp (nDot r.1 s.1 (nNeg r.2) s.2) (nDot r.2 s.1 r.1 s.2)),nDiv (nDot r.2 s.1 r.1 s.2) (nHyp (nDot r.1 s.1 (nNeg r.2) s.2) (nDot r.2 s.1 r.1 s.2)))
def kq185:Con
 | [.agg [.v (.int .i64 x),.v (.bool e),.v (.int .i64 y),.v (.bool f)],.agg [.v (.int .i64 z),.v (.bool g),.v (.int .i64 u),.v (.bool h)]] => some ([inR x,inR y,inR z,inR u],veA (vCom ((x,e),(y,f)) ((z,g),(u,h))))
 | _ => none
theorem konq185:ConOK Tryz.prog 94 kq185:=ConOK.of (G:=[(112,k179),(129,k125),(162,k213),(78,k168)]) (H:=[(1,⟨[(21,.made 20)],[]⟩),(4,⟨[(9,.slot 5),(11,.slot 5)],[]⟩)]) (.cons kon179 (.cons kon125 (.cons kon213 (.cons kon168 .nil)))) Tryz.func94 fun l ob rr hc hob => by
 unfold kq185 at hc
 split at hc
 ·rename_i x e y f z g u h
  cases hc
  have h_0:inR x:=hob _ (by simp)
  have h_1:inR y:=hob _ (by simp)
  have h_2:inR z:=hob _ (by simp)
  have h_3:inR u:=hob _ (by simp)
  refine ⟨by kernel_rfl,fnVC_go (rs:=[.cell 4 34]) rfl rfl ?_⟩
  simp only [go_sem,k179,k125,k213,k168,iMul,iDiv,iInt,iAdd,iSub,iRat,iDot,iHyp,iSq,iNeg,iPos,iAbs,iMx,iMn,iCl,iWh,iLoc1,iLoc2,iVAdd1,iVAdd2,iVSub1,iVSub2,iScale1,iScale2,iVDot,iVCross,iLen,iOf1,iOf2,iUnit1,iUnit2,h_0,h_1,h_2,h_3]
  refine ⟨fun h => ?_,fun h => ?_⟩
  ·unfold vCom; rw [if_neg (by simpa using h)]; rfl
  ·unfold vCom; rw [if_pos (by simpa using h)]; rfl
 ·cases hc
def spiS (r:V2) (w:Nb):V2:=vCom ((csV w.1 w.2,csF w.1 w.2),(snV w.1 w.2,snF w.1 w.2)) r
def kq126:Con
 | [.agg [.v (.int .i64 x),.v (.bool e),.v (.int .i64 y),.v (.bool f)],.agg [.v (.int .i64 z),.v (.bool g)]] => some ([inR x,inR y,inR z],veA (spiS ((x,e),(y,f)) (z,g)))
 | _ => none
theorem konq126:ConOK Tryz.prog 48 kq126:=ConOK.of (G:=[(95,kq186),(94,kq185)]) (H:=[(1,⟨[(4,.slot 4)],[]⟩)]) (.cons konq186 (.cons konq185 .nil)) Tryz.func48 fun l ob rr hc hob => by
 unfold kq126 at hc
 split at hc
 ·rename_i x e y f z g
  cases hc
  have h_0:inR x:=hob _ (by simp)
  have h_1:inR y:=hob _ (by simp)
  have h_2:inR z:=hob _ (by simp)
  refine ⟨by kernel_rfl,fnVC_go (rs:=[.cell 4 34]) rfl rfl ?_⟩
  simp only [go_sem,kq186,kq185,iMul,iDiv,iInt,iAdd,iSub,iRat,iDot,iHyp,iSq,iNeg,iPos,iAbs,iMx,iMn,iCl,iWh,iLoc1,iLoc2,iVAdd1,iVAdd2,iVSub1,iVSub2,iScale1,iScale2,iVDot,iVCross,iLen,iOf1,iOf2,iUnit1,iUnit2,h_0,h_1,h_2]
  exact ⟨rg_inR snV_rg,rg_inR snV_rg,rfl⟩
 ·cases hc
def onF:List AV → Option (List Prop × List AV)
 | [.agg l] => some ([l = bodyC (bodyD l),inB (bodyD l),(bodyD l).n ≤ 1000],bodyC (bodyD l))
 | _ => none
def mNon:MCon:=mcN 96 onF
theorem mNon_eq {key:Nat} {m:Mem} {l:List AV}:mNon key m [.agg l] = some ⟨[l = bodyC (bodyD l),inB (bodyD l),(bodyD l).n ≤ 1000],.bx key 0,.many [] (some (fam1 96 27 (bodyC (bodyD l)) none))⟩:=(rfl)
theorem con41m:MConOK Tryz.prog 41 mNon:=MConOK.mcN (G:=[(84,kb84)]) (H:=[]) (.cons konb84 .nil) Tryz.func41 fun es ob cs hF hob => by
 unfold onF at hF
 split at hF
 ·rename_i l
  cases hF
  have e:l = bodyC (bodyD l):=hob _ (by simp)
  have h:inB (bodyD l):=hob _ (by simp)
  have hn:(bodyD l).n ≤ 1000:=hob _ (by simp)
  generalize bodyD l = b at *
  subst e
  refine ⟨by simp [clean_body],by simp [bodyC,cleanCs,cleanC],by kernel_rfl,bodyM_go (rs:=[.tmp 2]) rfl rfl ?_⟩
  obtain ⟨b1,b2,b3,b4,b5,b6,b7,b8,b9,b10,b11,b12,b13,b14,b15,b16⟩:=id h
  simp only [bodyC,go_sem,kb84,cB_eq,bodyD_lit,gx_pts0,gx_pts1,etaN,etaV,bd_eta,h,hn]
  simp only [forall_eq]
  exact ⟨5,rfl,if_pos rfl⟩
 ·cases hF
def pulS (b:Bd) (g:V2) (t:Nb):Bd:=if idS b then b else { b with v:=limV (vAdd b.v (vScale g t)) }
def goS (b:Bd) (t:Nb):Bd:=if idS b then b else
 if (withS (vAdd b.pl (vScale b.v t)).1 4096 && withS (vAdd b.pl (vScale b.v t)).2 4096) then
  (if (nMul b.w t).1 = 0 then { b with pl:=vAdd b.pl (vScale b.v t) } else { b with pl:=vAdd b.pl (vScale b.v t),rot:=spiS b.rot (nMul b.w t) })
 else { rstS b with fa:=true,st:=0 }
def kb10:Con:=cB fun b rest => match rest with
 | [.agg [.v (.int .i64 x),.v (.bool e),.v (.int .i64 y),.v (.bool f)],.agg [.v (.int .i64 z),.v (.bool g),.v (.int .i64 u),.v (.bool h)]] => some ([inB b,b.n ≤ 1000,inR x,inR y,inR z,inR u],boA (pshS b ((x,e),(y,f)) ((z,g),(u,h))))
 | _ => none
theorem konb10:ConOK Tryz.prog 10 kb10:=ConOK.cB (G:=[(41,.wr mNon),(42,.wr kw115)]) (H:=[]) (.mcons con41m (.mcons konw115 .nil)) Tryz.func10 fun b rest ob r hc hob => by
 split at hc
 ·rename_i x e y f z g u h
  cases hc
  have h_0:inB b:=hob _ (by simp)
  have h_1:b.n ≤ 1000:=hob _ (by simp)
  have h_2:inR x:=hob _ (by simp)
  have h_3:inR y:=hob _ (by simp)
  have h_4:inR z:=hob _ (by simp)
  have h_5:inR u:=hob _ (by simp)
  obtain ⟨b1,b2,b3,b4,b5,b6,b7,b8,b9,b10,b11,b12,b13,b14,b15,b16⟩:=h_0
  have hb:inB b:=hob _ (by simp)
  refine ⟨by kernel_rfl,fnVC_go (rs:=[.cell 6 40]) rfl rfl ?_⟩
  simp only [bodyC,go_sem,kw115,cB_eq,cBR_eq,bodyD_lit,gx_pts0,gx_pts1,spots_can,etaN,etaV,bd_eta,b1,b2,b3,b4,b6,b7,b8,b9,b10,b11,b12,b13,b14,b15,b16,hb,h_1,h_2,h_3,h_4,h_5,mNon_eq,mB_bx,mbB_some,stepC_mbQ]
  intro c hc0
  rw [← hc0]; rfl
 ·cases hc
def kb14:Con:=cB fun b rest => match rest with
 | [.agg [.v (.int .i64 x),.v (.bool e),.v (.int .i64 y),.v (.bool f)],.agg [.v (.int .i64 z),.v (.bool g)]] => some ([inB b,b.n ≤ 1000,inR x,inR y,inR z],boA (pulS b ((x,e),(y,f)) (z,g)))
 | _ => none
theorem konb14:ConOK Tryz.prog 14 kb14:=ConOK.cB (G:=[(41,.wr mNon),(15,kw67),(44,k169),(43,k130),(54,kw120)]) (H:=[(3,⟨[(12,.slot 7)],[]⟩)]) (.mcons con41m (.cons konw67 (.cons kon169 (.cons kon130 (.cons konw120 .nil))))) Tryz.func14 fun b rest ob r hc hob => by
 split at hc
 ·rename_i x e y f z g
  cases hc
  have h_0:inB b:=hob _ (by simp)
  have h_1:b.n ≤ 1000:=hob _ (by simp)
  have h_2:inR x:=hob _ (by simp)
  have h_3:inR y:=hob _ (by simp)
  have h_4:inR z:=hob _ (by simp)
  obtain ⟨b1,b2,b3,b4,b5,b6,b7,b8,b9,b10,b11,b12,b13,b14,b15,b16⟩:=h_0
  have hb:inB b:=hob _ (by simp)
  refine ⟨by kernel_rfl,fnVC_go (rs:=[.cell 6 40]) rfl rfl ?_⟩
  simp only [bodyC,go_sem,kw67,k169,k130,kw120,cB_eq,cBR_eq,bodyD_lit,gx_pts0,gx_pts1,spots_can,etaN,etaV,bd_eta,b1,b2,b3,b4,b6,b7,b8,b9,b10,b11,b12,b13,b14,b15,b16,hb,h_1,h_2,h_3,h_4,mNon_eq,mB_bx,mbB_some,stepC_mbQ]
  simp only [forall_eq]
  refine ⟨fun hh => ?_,fun hh => ?_⟩
  ·unfold pulS; rw [if_neg (by simp [hh])]; rfl
  ·unfold pulS; rw [if_pos hh]; rfl
 ·cases hc
def kb11:Con:=cB fun b rest => match rest with
 | [.agg [.v (.int .i64 z),.v (.bool g)]] => some ([inB b,b.n ≤ 1000,inR z],boA (goS b (z,g)))
 | _ => none
theorem konb11:ConOK Tryz.prog 11 kb11:=ConOK.cB (G:=[(41,.wr mNon),(15,kw67),(44,k169),(43,k130),(45,kw123),(46,.wr kw124),(47,k129),(48,kq126)]) (H:=[(4,⟨[(10,.made 9)],[]⟩)]) (.mcons con41m (.cons konw67 (.cons kon169 (.cons kon130 (.cons konw123 (.mcons konw124 (.cons kon129 (.cons konq126 .nil)))))))) Tryz.func11 fun b rest ob r hc hob => by
 split at hc
 ·rename_i z g
  cases hc
  have h_0:inB b:=hob _ (by simp)
  have h_1:b.n ≤ 1000:=hob _ (by simp)
  have h_2:inR z:=hob _ (by simp)
  obtain ⟨b1,b2,b3,b4,b5,b6,b7,b8,b9,b10,b11,b12,b13,b14,b15,b16⟩:=h_0
  have hb:inB b:=hob _ (by simp)
  refine ⟨by kernel_rfl,fnVC_go (rs:=[.cell 4 40]) rfl rfl ?_⟩
  simp only [bodyC,go_sem,kw67,k169,k130,kw123,kw124,k129,kq126,cB_eq,cBR_eq,bodyD_lit,gx_pts0,gx_pts1,spots_can,etaN,etaV,bd_eta,b1,b2,b3,b4,b6,b7,b8,b9,b10,b11,b12,b13,b14,b15,b16,hb,h_1,h_2,mNon_eq,mB_bx,mbB_some,stepC_mbQ]
  simp only [forall_eq]
  refine ⟨fun h1 => ?_,fun h1 => ⟨fun h2 => ?_,fun h2 => ⟨fun h3 => ?_,fun h3 => ?_⟩⟩⟩
  ·unfold goS; rw [if_pos h1]; rfl
  ·unfold goS; rw [if_neg (by simp [h1]),if_neg (by rw [h2]; simp)]; rfl
  ·unfold goS; rw [if_neg (by simp [h1]),if_pos h2,if_neg (by simpa using h3)]; rfl
  ·unfold goS; rw [if_neg (by simp [h1]),if_pos h2,if_pos (by simpa using h3)]; rfl
 ·cases hc
def kb13:Con:=cB fun b rest => match rest with
 | [] => some ([inB b,b.n ≤ 1000],boA (wakS b))
 | _ => none
theorem konb13:ConOK Tryz.prog 13 kb13:=ConOK.cB (G:=[(41,.wr mNon),(53,.wr kw134)]) (H:=[]) (.mcons con41m (.mcons konw134 .nil)) Tryz.func13 fun b rest ob r hc hob => by
 split at hc
 ·skip
  cases hc
  have h_0:inB b:=hob _ (by simp)
  have h_1:b.n ≤ 1000:=hob _ (by simp)
  obtain ⟨b1,b2,b3,b4,b5,b6,b7,b8,b9,b10,b11,b12,b13,b14,b15,b16⟩:=h_0
  have hb:inB b:=hob _ (by simp)
  refine ⟨by kernel_rfl,fnVC_go (rs:=[.cell 2 40]) rfl rfl ?_⟩
  simp only [bodyC,go_sem,kw134,cB_eq,cBR_eq,bodyD_lit,gx_pts0,gx_pts1,spots_can,etaN,etaV,bd_eta,b1,b2,b3,b4,b6,b7,b8,b9,b10,b11,b12,b13,b14,b15,b16,hb,h_1,mNon_eq,mB_bx,mbB_some,stepC_mbQ]
  intro c hc0
  rw [← hc0]; rfl
 ·cases hc
theorem nums3_rows {a b c:Int} {e f g:Bool}:nums 3 (rowsOf 2 [i64 a,bo e,i64 b,bo f,i64 c,bo g]) = (inR a ∧ inR b ∧ inR c):=by
 apply propext
 constructor
 ·intro h; exact ⟨(h 0 (by omega)).2,(h 1 (by omega)).2,(h 2 (by omega)).2⟩
 ·rintro ⟨h1,h2,h3⟩ i hi
  match i with
  | 0 => exact ⟨rfl,h1⟩
  | 1 => exact ⟨rfl,h2⟩
  | 2 => exact ⟨rfl,h3⟩
  | j + 3 => omega
def kMx3:Con
 | [.ro 3 2 g] => some ([nums 3 g],nbA (moV (-1) 3 g,wfS 3 g))
 | _ => none
theorem konX129:ConOK Tryz.prog 49 kMx3:=fun l ob r he hob => by
 unfold kMx3 at he
 split at he
 ·rename_i g
  cases he
  exact con49 [.ro 3 2 g] _ _ rfl (owe2 (hob _ (by simp)) (by omega))
 ·cases he
def fstS (b:Bd):Int:=moV (-1) 3 (rowsOf 2 [i64 (nAbs b.v.1).1,bo (nAbs b.v.1).2,i64 (nAbs b.v.2).1,bo (nAbs b.v.2).2,i64 (nAbs b.w).1,bo (nAbs b.w).2])
def resS (b:Bd):Bd:=if idS b then b else if 0 < cmpS (whV (fstS b)) (whV (nRat 1 16).1) then { b with st:=0 } else if min b.st 29 + 1 = 30 then { rstS b with st:=30 } else { b with st:=min b.st 29 + 1 }
def kb12:Con:=cB fun b rest => match rest with
 | [] => some ([inB b,b.n ≤ 1000],boA (resS b))
 | _ => none
theorem konb12:ConOK Tryz.prog 12 kb12:=ConOK.cB (G:=[(41,.wr mNon),(15,kw67),(50,k126),(49,kMx3),(52,k132),(51,c51),(46,.wr kw124)]) (H:=[(4,⟨[(14,.made 13)],[]⟩)]) (.mcons con41m (.cons konw67 (.cons kon126 (.cons konX129 (.cons kon132 (.cons con51 (.mcons konw124 .nil))))))) Tryz.func12 fun b rest ob r hc hob => by
 split at hc
 ·skip
  cases hc
  have h_0:inB b:=hob _ (by simp)
  have h_1:b.n ≤ 1000:=hob _ (by simp)
  obtain ⟨b1,b2,b3,b4,b5,b6,b7,b8,b9,b10,b11,b12,b13,b14,b15,b16⟩:=h_0
  have hb:inB b:=hob _ (by simp)
  refine ⟨by kernel_rfl,fnVC_go (rs:=[.cell 2 40]) rfl rfl ?_⟩
  simp only [bodyC,go_sem,kw67,k126,kMx3,k132,c51,kw124,cB_eq,cBR_eq,bodyD_lit,gx_pts0,gx_pts1,spots_can,etaN,etaV,bd_eta,b1,b2,b3,b4,b6,b7,b8,b9,b10,b11,b12,b13,b14,b15,b16,hb,h_1,mNon_eq,mB_bx,mbB_some,stepC_mbQ]
  simp only [forall_eq]
  have hw:IntKind.i64.wrap (min b.st 29 + 1) = min b.st 29 + 1:=wrap_in (by unfold inR at *; omega)
  refine ⟨fun h1 => ?_,fun h1 => ⟨?_,by unfold inR; omega,fun h2 => ?_,fun h2 => ⟨fun h3 => ?_,fun h3 => ?_⟩⟩⟩
  ·unfold resS; rw [if_pos h1]; rfl
  ·exact of_eq_true (nums3_rows.trans (eq_true ⟨of_eq_true (iAbs b10),of_eq_true (iAbs b11),of_eq_true (iAbs b12)⟩))
  ·have h2:0 < cmpS (whV (fstS b)) (whV (nRat 1 16).1):=h2
   have e1:resS b = { b with st:=0 }:=by unfold resS; rw [if_neg (by simp [h1]),if_pos h2]
   rw [e1]; rfl
  ·rw [hw] at h3
   have h3:min b.st 29 + 1 = 30:=by simpa using h3
   have h2:¬ 0 < cmpS (whV (fstS b)) (whV (nRat 1 16).1):=h2
   have e1:resS b = { rstS b with st:=30 }:=by unfold resS; rw [if_neg (by simp [h1]),if_neg h2,if_pos (by omega)]
   have e2:min b.st 29 + 1 = 30:=by omega
   rw [e1,hw,e2]; rfl
  ·rw [hw] at h3
   have h3:¬ min b.st 29 + 1 = 30:=by simpa using h3
   have h2:¬ 0 < cmpS (whV (fstS b)) (whV (nRat 1 16).1):=h2
   have e1:resS b = { b with st:=min b.st 29 + 1 }:=by unfold resS; rw [if_neg (by simp [h1]),if_neg h2,if_neg (by omega)]
   rw [e1,hw]; rfl
 ·cases hc
theorem aEq27w {a0 b0:Int} {a1 b1:Bool}:aEq Tryz.prog 27 (.agg [i64 a0,bo a1]) (.agg [i64 b0,bo b1]) = some ((a0 == b0) && ((a1 == b1) && true)):=by kernel_rfl
theorem eq27w {xo yo:Operand} {neg:Bool} {a0 b0:Int} {a1 b1:Bool}:eqE Tryz.prog neg 27 xo yo (.agg [i64 a0,bo a1]) (.agg [i64 b0,bo b1]) = some ⟨[],.v (.bool (negV neg ((a0 == b0) && ((a1 == b1) && true)))),.none⟩:=eqE_agg aEq27w
attribute [go_sem] eq27w
theorem aEq29w {a0 b0:Int} {a1 b1:Bool} {a2 b2:Int} {a3 b3:Bool}:aEq Tryz.prog 29 (.agg [i64 a0,bo a1,i64 a2,bo a3]) (.agg [i64 b0,bo b1,i64 b2,bo b3]) = some (((a0 == b0) && ((a1 == b1) && true)) && (((a2 == b2) && ((a3 == b3) && true)) && true)):=by kernel_rfl
theorem eq29w {xo yo:Operand} {neg:Bool} {a0 b0:Int} {a1 b1:Bool} {a2 b2:Int} {a3 b3:Bool}:eqE Tryz.prog neg 29 xo yo (.agg [i64 a0,bo a1,i64 a2,bo a3]) (.agg [i64 b0,bo b1,i64 b2,bo b3]) = some ⟨[],.v (.bool (negV neg (((a0 == b0) && ((a1 == b1) && true)) && (((a2 == b2) && ((a3 == b3) && true)) && true)))),.none⟩:=eqE_agg aEq29w
attribute [go_sem] eq29w
theorem aEq36w {a0 b0:Int} {a1 b1:Bool} {a2 b2:Int} {a3 b3:Bool} {a4 b4:Int} {a5 b5:Bool} {a6 b6:Int} {a7 b7:Bool}:aEq Tryz.prog 36 (.agg [i64 a0,bo a1,i64 a2,bo a3,i64 a4,bo a5,i64 a6,bo a7]) (.agg [i64 b0,bo b1,i64 b2,bo b3,i64 b4,bo b5,i64 b6,bo b7]) = some ((((a0 == b0) && ((a1 == b1) && true)) && (((a2 == b2) && ((a3 == b3) && true)) && true)) && ((((a4 == b4) && ((a5 == b5) && true)) && (((a6 == b6) && ((a7 == b7) && true)) && true)) && true)):=by kernel_rfl
theorem eq36w {xo yo:Operand} {neg:Bool} {a0 b0:Int} {a1 b1:Bool} {a2 b2:Int} {a3 b3:Bool} {a4 b4:Int} {a5 b5:Bool} {a6 b6:Int} {a7 b7:Bool}:eqE Tryz.prog neg 36 xo yo (.agg [i64 a0,bo a1,i64 a2,bo a3,i64 a4,bo a5,i64 a6,bo a7]) (.agg [i64 b0,bo b1,i64 b2,bo b3,i64 b4,bo b5,i64 b6,bo b7]) = some ⟨[],.v (.bool (negV neg ((((a0 == b0) && ((a1 == b1) && true)) && (((a2 == b2) && ((a3 == b3) && true)) && true)) && ((((a4 == b4) && ((a5 == b5) && true)) && (((a6 == b6) && ((a7 == b7) && true)) && true)) && true)))),.none⟩:=eqE_agg aEq36w
attribute [go_sem] eq36w
theorem aEq38w {a0 b0:Int} {a1 b1:Bool} {a2 b2:Int} {a3 b3:Bool}:aEq Tryz.prog 38 (.agg [i64 a0,bo a1,i64 a2,bo a3]) (.agg [i64 b0,bo b1,i64 b2,bo b3]) = some (((a0 == b0) && ((a1 == b1) && true)) && (((a2 == b2) && ((a3 == b3) && true)) && true)):=by kernel_rfl
theorem eq38w {xo yo:Operand} {neg:Bool} {a0 b0:Int} {a1 b1:Bool} {a2 b2:Int} {a3 b3:Bool}:eqE Tryz.prog neg 38 xo yo (.agg [i64 a0,bo a1,i64 a2,bo a3]) (.agg [i64 b0,bo b1,i64 b2,bo b3]) = some ⟨[],.v (.bool (negV neg (((a0 == b0) && ((a1 == b1) && true)) && (((a2 == b2) && ((a3 == b3) && true)) && true)))),.none⟩:=eqE_agg aEq38w
attribute [go_sem] eq38w
theorem aEq87w {a0 b0:Int} {a1 b1:Bool} {a2 b2:Int} {a3 b3:Bool} {a4 b4:Int} {a5 b5:Bool}:aEq Tryz.prog 87 (.agg [i64 a0,bo a1,i64 a2,bo a3,i64 a4,bo a5]) (.agg [i64 b0,bo b1,i64 b2,bo b3,i64 b4,bo b5]) = some ((((a0 == b0) && ((a1 == b1) && true)) && (((a2 == b2) && ((a3 == b3) && true)) && true)) && (((a4 == b4) && ((a5 == b5) && true)) && true)):=by kernel_rfl
theorem eq87w {xo yo:Operand} {neg:Bool} {a0 b0:Int} {a1 b1:Bool} {a2 b2:Int} {a3 b3:Bool} {a4 b4:Int} {a5 b5:Bool}:eqE Tryz.prog neg 87 xo yo (.agg [i64 a0,bo a1,i64 a2,bo a3,i64 a4,bo a5]) (.agg [i64 b0,bo b1,i64 b2,bo b3,i64 b4,bo b5]) = some ⟨[],.v (.bool (negV neg ((((a0 == b0) && ((a1 == b1) && true)) && (((a2 == b2) && ((a3 == b3) && true)) && true)) && (((a4 == b4) && ((a5 == b5) && true)) && true)))),.none⟩:=eqE_agg aEq87w
attribute [go_sem] eq87w
theorem aEq53w {a0 b0:Int} {a1 b1:Bool} {a2 b2:Int} {a3 b3:Bool}:aEq Tryz.prog 53 (.agg [i64 a0,bo a1,i64 a2,bo a3]) (.agg [i64 b0,bo b1,i64 b2,bo b3]) = some (((a0 == b0) && ((a1 == b1) && true)) && (((a2 == b2) && ((a3 == b3) && true)) && true)):=by kernel_rfl
theorem eq53w {xo yo:Operand} {neg:Bool} {a0 b0:Int} {a1 b1:Bool} {a2 b2:Int} {a3 b3:Bool}:eqE Tryz.prog neg 53 xo yo (.agg [i64 a0,bo a1,i64 a2,bo a3]) (.agg [i64 b0,bo b1,i64 b2,bo b3]) = some ⟨[],.v (.bool (negV neg (((a0 == b0) && ((a1 == b1) && true)) && (((a2 == b2) && ((a3 == b3) && true)) && true)))),.none⟩:=eqE_agg aEq53w
attribute [go_sem] eq53w
def cjS (n:Int) (k a b:Int) (p q:V2) (l:Nb):Int:=
 if k ≠ 1 ∧ k ≠ 2 ∧ k ≠ 3 then 8 else
 if (a < 0 ∨ n ≤ a) ∨ (k ≠ 1 ∧ (b < 0 ∨ n ≤ b ∨ a = b)) then 3 else
 if (withS p.1 32 && withS p.2 32) = false ∨ (if k = 1 then (withS q.1 4096 && withS q.2 4096) = false else (withS q.1 32 && withS q.2 32) = false) then 3 else
 if k = 2 ∧ (withS l 8192 = false ∨ l.1 < 0) then 3 else
 if (k = 1 ∧ b ≠ 0) ∨ (k ≠ 2 ∧ ¬ (l.1 = 0 ∧ l.2 = false)) then 4 else 0
def kj51:Con
 | [.v (.int .i64 n),.agg [.v (.int .i64 k),.v (.int .i64 a),.v (.int .i64 b),.v (.int .i64 x),.v (.bool e),.v (.int .i64 y),.v (.bool f),.v (.int .i64 z),.v (.bool g),.v (.int .i64 u),.v (.bool h),.v (.int .i64 l),.v (.bool m)]] => some ([inR n,inR x,inR y,inR z,inR u,inR l],i64 (cjS n k a b ((x,e),(y,f)) ((z,g),(u,h)) (l,m)))
 | _ => none
theorem konj51:ConOK Tryz.prog 36 kj51:=ConOK.of (G:=[(45,kw123)]) (H:=[]) (.cons konw123 .nil) Tryz.func36 fun l ob rr hc hob => by
 unfold kj51 at hc
 split at hc
 ·rename_i n k a b x e y f z g u h l m
  cases hc
  have h_0:inR n:=hob _ (by simp)
  have h_1:inR x:=hob _ (by simp)
  have h_2:inR y:=hob _ (by simp)
  have h_3:inR z:=hob _ (by simp)
  have h_4:inR u:=hob _ (by simp)
  have h_5:inR l:=hob _ (by simp)
  refine ⟨by kernel_rfl,fnVC_go (rs:=[.tmp 4]) rfl rfl ?_⟩
  simp only [go_sem,kw123,iMul,iDiv,iInt,iAdd,iSub,iRat,iDot,iHyp,iSq,iNeg,iPos,iAbs,iMx,iMn,iCl,iWh,iLoc1,iLoc2,iVAdd1,iVAdd2,iVSub1,iVSub2,iScale1,iScale2,iVDot,iVCross,iLen,iOf1,iOf2,iUnit1,iUnit2,h_0,h_1,h_2,h_3,h_4,h_5]
  unfold cjS
  simp only [forall_eq]
  generalize (withS (x,e) 32 && withS (y,f) 32) = w1
  generalize (withS (z,g) 4096 && withS (u,h) 4096) = w3
  generalize (withS (z,g) 32 && withS (u,h) 32) = w5
  generalize withS (l,m) 8192 = w7
  clear hob h_0 h_1 h_2 h_3 h_4 h_5
  repeat' (first | intro _ | apply And.intro)
  all_goals grind
 ·cases hc
section
variable {P:Program} {G:Ctx} {H:Hots} {K0:AEx → St → Prop} {hot:Option Hot} {ops:Array Oper} {d:Option Tmp} {rest:List Oper} {i:Nat} {st:List Fr} {t:Slots} {m:Mem} {nx:Nat} {o:List Prop} {u:Upd} {b:Bd} {c:Bool}
theorem bindC_cboA:bindC P G H K0 hot ops d rest i st t m nx o u (condV c (bnd (boA b))) = (∀ b',b' = b → bindC P G H K0 hot ops d rest i st t m nx o u (condV c (.agg (bodyC b')))):=by
 apply propext
 constructor
 ·rintro h b' rfl; exact h
 ·intro h; exact h b rfl
end
attribute [go_sem] bindC_cboA
theorem inB_wak {b:Bd} (h:inB b):inB (wakS b):=by
 unfold wakS
 split
 ·obtain ⟨b1,b2,b3,b4,b5,b6,b7,b8,b9,b10,b11,b12,b13,b14,b15,b16⟩:=h
  exact ⟨b1,b2,b3,b4,b5,b6,b7,b8,b9,b10,b11,b12,b13,b14,of_eq_true inR_0,b16⟩
 ·exact h
theorem inB_psh {b:Bd} {p j:V2} (h:inB b):inB (pshS b p j):=by
 unfold pshS
 split
 ·exact h
 ·have:=inB_push h (v:=limV (vAdd b.v (vScale j b.m))) (w:=limS (nAdd b.w (nMul b.i (vCross (vSub p b.pl) j))) 64) (of_eq_true (iLim (of_eq_true iVAdd1))) (of_eq_true (iLim (of_eq_true iVAdd2))) (of_eq_true (iLim (of_eq_true iAdd)))
  dsimp only
  split
  ·exact inB_wak this
  ·exact this
def rndB (x:Int) (m i:Nb):Bd:=⟨1,256,0,0,0,fun _ => 0,fun _ => 0,((x,false),(0,false)),((4294967296,false),(0,false)),((0,false),(0,false)),(0,false),m,i,0,false,false,1⟩
theorem alk_body0 {l1:List AV} {X Y:Nat → Int} {c0 c1 c2 c3:AV}:alk (.agg (c0 :: c1 :: c2 :: c3 :: ptsA 0 X Y :: l1)) (.agg (c0 :: c1 :: c2 :: c3 :: .v (.slice none 0 0) :: l1)):=fun w ρ v hR => by
 cases hR with
 | agg hl hh =>
  refine .agg hl fun j x y h3 h4 => ?_
  match j with
  | 4 =>
   simp at h3; subst h3
   exact alk_nil _ _ _ (hh 4 _ y rfl h4)
  | 0 => exact hh 0 x y h3 h4
  | 1 => exact hh 1 x y h3 h4
  | 2 => exact hh 2 x y h3 h4
  | 3 => exact hh 3 x y h3 h4
  | j + 5 => exact hh (j + 5) x y h3 h4
def kw72:Con
 | [.v (.int .i64 x),.agg [.v (.int .i64 m),.v (.bool e),.v (.int .i64 i),.v (.bool f)]] => some ([],boA (rndB x (m,e) (i,f)))
 | _ => none
theorem konw72:ConOK Tryz.prog 34 kw72:=ConOK.goR (G:=[(18,kw55)]) (H:=[(1,⟨[(9,.slot 4)],[]⟩)]) (.cons konw55 .nil) Tryz.func34 fun l ob rr hc hob => by
 unfold kw72 at hc
 split at hc
 ·rename_i x m e i f
  cases hc
  refine ⟨_,fun w I vs h => h,by kernel_rfl,fnVC_go (rs:=[.cell 4 40]) rfl rfl ?_⟩
  simp only [go_sem,kw55,forall_eq]
  exact alk_body0
 ·cases hc
def c20:Con
 | [] => some ([],bo true)
 | _ => none
theorem con20:ConOK Tryz.prog 20 c20:=ConOK.of (G:=[(18,kw55),(34,kw72),(10,kb10),(36,kj51)]) (H:=[]) (.cons konw55 (.cons konw72 (.cons konb10 (.cons konj51 .nil)))) Tryz.func20 fun l ob rr hc hob => by
 unfold c20 at hc
 split at hc
 ·skip
  cases hc
  refine ⟨by kernel_rfl,fnVC_go (rs:=[.tmp 0]) rfl rfl ?_⟩
  simp only [go_sem,kw55,kw72,kb10,kj51,iMul,iDiv,iInt,iAdd,iSub,iRat,iDot,iHyp,iSq,iNeg,iPos,iAbs,iMx,iMn,iCl,iWh,iLoc1,iLoc2,iVAdd1,iVAdd2,iVSub1,iVSub2,iScale1,iScale2,iVDot,iVCross,iLen,iOf1,iOf2,iUnit1,iUnit2,bodyC,cB_eq,cBR_eq,bodyD_lit,gx_pts0,gx_pts1,spots_can,etaN,etaV,bd_eta]
  simp only [forall_eq]
  have e1:(pshS (rndB 0 (4294967296,false) (4294967296,false)) ((0,false),4294967296,false) ((4294967296,false),0,false)).v = ((4294967296,false),(0,false)):=by kernel_rfl
  have e2:(pshS (rndB 0 (4294967296,false) (4294967296,false)) ((0,false),4294967296,false) ((4294967296,false),0,false)).w = (-4294967296,false):=by kernel_rfl
  have e3:cjS 1 4 0 0 ((0,false),0,false) ((0,false),0,false) (0,false) = 8:=by decide
  rw [e1,e2,e3]
  simp only [beq_self_eq_true,true_and,and_self,implies_true]
  exact ⟨⟨⟨by decide,by decide⟩,⟨by decide,by decide⟩,⟨by decide,by decide⟩,⟨by decide,by decide⟩,fun j hj => absurd hj (Nat.not_lt_zero j),⟨by decide,by decide⟩,⟨by decide,by decide⟩,⟨by decide,by decide⟩,⟨by decide,by decide⟩,⟨by decide,by decide⟩,⟨by decide,by decide⟩,⟨by decide,by decide⟩,⟨by decide,by decide⟩,⟨by decide,by decide⟩,⟨by decide,by decide⟩,⟨by decide,by decide⟩⟩,by decide,by unfold inR; omega,by unfold inR; omega,trivial⟩
 ·cases hc
theorem alk_shape {a b c d p q:AV} (h:alk p q):alk (.agg [a,b,c,d,p]) (.agg [a,b,c,d,q]):=fun w ρ v hR => by
 cases hR with
 | agg hl' hh' =>
  refine .agg hl' fun j x y h3 h4 => ?_
  match j with
  | 0 => exact hh' 0 x y h3 h4
  | 1 => exact hh' 1 x y h3 h4
  | 2 => exact hh' 2 x y h3 h4
  | 3 => exact hh' 3 x y h3 h4
  | 4 =>
   simp at h3; subst h3
   exact h _ _ _ (hh' 4 _ y rfl h4)
  | m + 5 => simp at h3
def piN:Nb:=(13493037704,false)
def crI (X Y:Nat → Int) (n i:Nat):Int:=IntKind.i64.wrap (X i * Y ((i + 1) % n) - Y i * X ((i + 1) % n))
def doI (X Y:Nat → Int) (i j:Nat):Int:=IntKind.i64.wrap (IntKind.i64.wrap (X i * X j) + IntKind.i64.wrap (Y i * Y j))
def wgA (X Y:Nat → Int) (n:Nat):Nat → Int
 | 0 => 0
 | i + 1 => IntKind.i64.wrap (wgA X Y n i + crI X Y n i)
def wgB (X Y:Nat → Int) (n:Nat):Nat → Int
 | 0 => 0
 | i + 1 => IntKind.i64.wrap (wgB X Y n i + IntKind.i64.wrap (crI X Y n i * IntKind.i64.wrap (IntKind.i64.wrap (doI X Y i i + doI X Y i ((i + 1) % n)) + doI X Y ((i + 1) % n) ((i + 1) % n))))
def wgM (k r w t:Int) (n:Nat) (X Y:Nat → Int) (d:Int):Nb × Nb:=
 if k = 1 then (nDiv (nDiv (nRat 65536 (IntKind.i64.wrap (r * r))) piN) (nInt d),nDiv (nDiv (nRat 8589934592 (IntKind.i64.wrap (IntKind.i64.wrap (r * r) * IntKind.i64.wrap (r * r)))) piN) (nInt d))
 else (nDiv (nRat 131072 (wgA (corX k w t X) (corY k w t Y) (corN k r w t n X Y) (corN k r w t n X Y))) (nInt d),nDiv (nRat 51539607552 (wgB (corX k w t X) (corY k w t Y) (corN k r w t n X Y) (corN k r w t n X Y))) (nInt d))
def wgE (k r w t:Int) (n:Nat) (X Y:Nat → Int) (d:Int):Int:=if chkS k r w t n X Y ≠ 0 then chkS k r w t n X Y else if d < 1 ∨ 1000 < d then 3 else 0
def wgS (k r w t:Int) (n:Nat) (X Y:Nat → Int) (d:Int):Nb × Nb:=if wgE k r w t n X Y d = 0 then wgM k r w t n X Y d else ((0,false),(0,false))
def wgV (m:Nb × Nb):AV:=.agg [i64 m.1.1,bo m.1.2,i64 m.2.1,bo m.2.2]
end Go.Ax
end