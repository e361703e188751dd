/-
  Contracts of functions that write rows, made to measure: one element that is pointed at; two of them; a table; a table and an element; new rows.
-/
import Derived.Test.YtafigekkhpepkaaGreatCM5
set_option linter.unusedVariables false
set_option linter.unusedSimpArgs false
section
namespace Go.Ax
def cleanC:AV→Bool
 | .v _ => true
 | .any => true
 | .ro _ _ _ => true
 | .rop _ => true
 | _ => false
theorem cleanC_ren {θ:Nat→Nat→Nat×Nat} {g:Nat→Nat→Prop} {B:Nat→Prop} {a:AV} (h:cleanC a = true) (d:Nat):renA θ d a = a∧kg g B d a:=by
 cases a <;> simp [cleanC] at h <;> (cases d <;> exact ⟨rfl,trivial⟩)
theorem cleanL_ren {θ:Nat→Nat→Nat×Nat} {g:Nat→Nat→Prop} {B:Nat→Prop}:∀ {l:List AV},(∀ c ∈ l,cleanC c = true)→l.map (renA θ 3) = l∧∀ c ∈ l,kg g B 3 c
 | [],_ => ⟨rfl,by simp⟩
 | a :: l,h => by
  obtain ⟨h1,h2⟩:=cleanC_ren (θ:=θ) (g:=g) (B:=B) (h a (by simp)) 3
  obtain ⟨h3,h4⟩:=cleanL_ren (θ:=θ) (g:=g) (B:=B) (l:=l) (fun c hc => h c (by simp [hc]))
  refine ⟨by rw [List.map_cons,h1,h3],fun c hc => ?_⟩
  rcases List.mem_cons.1 hc with e | hc
  ·rw [e]; exact h2
  ·exact h4 c hc
theorem map_id_of {f:AV→AV}:∀ {l:List AV},(∀ a ∈ l,f a = a)→l.map f = l
 | [],_ => rfl
 | a :: l,h => by rw [List.map_cons,h a (by simp),map_id_of fun b hb => h b (by simp [hb])]
theorem clean_ren {θ:Nat→Nat→Nat×Nat} {g:Nat→Nat→Prop} {B:Nat→Prop}:∀ (d:Nat) (a:AV),clean d a = true→renA θ d a = a∧kg g B d a
 | d,.v _,_ => by cases d <;> exact ⟨rfl,trivial⟩
 | d,.any,_ => by cases d <;> exact ⟨rfl,trivial⟩
 | d,.ro _ _ _,_ => by cases d <;> exact ⟨rfl,trivial⟩
 | d,.rop _,_ => by cases d <;> exact ⟨rfl,trivial⟩
 | d + 1,.agg cs,h => by
  simp only [clean,List.all_eq_true] at h
  refine ⟨?_,fun c hc => (clean_ren (θ:=θ) d c (h c hc)).2⟩
  simp only [renA]
  rw [map_id_of fun a ha => (clean_ren (g:=g) (B:=B) d a (h a ha)).1]
 | d + 1,.tup cs,h => by
  simp only [clean,List.all_eq_true] at h
  refine ⟨?_,fun c hc => (clean_ren (θ:=θ) d c (h c hc)).2⟩
  simp only [renA]
  rw [map_id_of fun a ha => (clean_ren (g:=g) (B:=B) d a (h a ha)).1]
 | d + 1,.fn f cs,h => by
  simp only [clean,List.all_eq_true] at h
  refine ⟨?_,fun c hc => (clean_ren (θ:=θ) d c (h c hc)).2⟩
  simp only [renA]
  rw [map_id_of fun a ha => (clean_ren (g:=g) (B:=B) d a (h a ha)).1]
 | d + 1,.iface t x,h => by
  simp only [clean] at h
  obtain ⟨h1,h2⟩:=clean_ren (θ:=θ) (g:=g) (B:=B) d x h
  exact ⟨by simp only [renA]; rw [h1],h2⟩
 | d + 1,.cond b x,h => by
  simp only [clean] at h
  obtain ⟨h1,h2⟩:=clean_ren (θ:=θ) (g:=g) (B:=B) d x h
  exact ⟨by simp only [renA]; rw [h1],h2⟩
 | 0,.agg _,h => by simp [clean] at h
 | 0,.tup _,h => by simp [clean] at h
 | 0,.fn _ _,h => by simp [clean] at h
 | 0,.iface _ _,h => by simp [clean] at h
 | 0,.cond _ _,h => by simp [clean] at h
 | 0,.bx _ _,h => by simp [clean] at h
 | 0,.ptr _ _ _ _ _,h => by simp [clean] at h
 | 0,.own _ _ _ _,h => by simp [clean] at h
 | 0,.vw _ _ _ _ _,h => by simp [clean] at h
 | d + 1,.bx _ _,h => by simp [clean] at h
 | d + 1,.ptr _ _ _ _ _,h => by simp [clean] at h
 | d + 1,.own _ _ _ _,h => by simp [clean] at h
 | d + 1,.vw _ _ _ _ _,h => by simp [clean] at h
theorem cleans_ren {θ:Nat→Nat→Nat×Nat} {g:Nat→Nat→Prop} {B:Nat→Prop} {l:List AV} (h:∀ a ∈ l,clean 3 a = true):l.map (renA θ 3) = l∧∀ a ∈ l,kg g B 3 a:=
 ⟨map_id_of fun a ha => (clean_ren (g:=g) (B:=B) 3 a (h a ha)).1,fun a ha => (clean_ren (θ:=θ) 3 a (h a ha)).2⟩
section
variable {P:Program} {G:Ctx} {H:Hots} {t:Slots} {m:Mem} {nx:Nat} {Q:AV→Mem→Prop} {rs:List ResultVar} {l:List AV} {a:AV}
def tupOf:List AV→AV
 | [a] => a
 | l => .tup l
theorem tupOf_nil:tupOf [] = .tup []:=(rfl)
theorem tupOf_one:tupOf [a] = a:=(rfl)
theorem tupOf_two {b:AV}:tupOf (a :: b :: l) = .tup (a :: b :: l):=(rfl)
def retML (P:Program) (t:Slots) (m:Mem) (Q:AV→Mem→Prop):List ResultVar→List AV→Prop
 | [],l => Q (tupOf l) m
 | r :: rs,l => match resE P t m r with
  | some e => conj e.ob (retML P t m Q rs (l ++ [e.val]))
  | none => False
def retMS (P:Program) (t:Slots) (m:Mem) (Q:AV→Mem→Prop) (rs:List ResultVar) (l:List AV) (x:Option Eff):Prop:=match x with
 | some e => conj e.ob (retML P t m Q rs (l ++ [e.val]))
 | none => False
theorem retML_nil:retML P t m Q [] l = Q (tupOf l) m:=(rfl)
theorem retML_cons {r:ResultVar}:retML P t m Q (r :: rs) l = retMS P t m Q rs l (resE P t m r):=(rfl)
theorem retMS_some {ob:List Prop} {u:Upd}:retMS P t m Q rs l (some ⟨ob,a,u⟩) = conj ob (retML P t m Q rs (l ++ [a])):=(rfl)
def endMR (P:Program) (rs:List ResultVar) (Q:AV→Mem→Prop) (e:AEx) (s:St):Prop:=match e with
 | .exit _ => False
 | _ => retML P s.t s.m Q rs []
theorem endMR_ret:endMR P rs Q .ret ⟨t,m,nx⟩ = retML P t m Q rs []:=(rfl)
theorem endMR_normal:endMR P rs Q .normal ⟨t,m,nx⟩ = retML P t m Q rs []:=(rfl)
theorem retML_sound {s:St}:∀ {rs:List ResultVar} {l:List AV},retML P s.t s.m Q rs l→∃ ob es,resList P s rs = some (ob,es)∧(∀ p ∈ ob,p)∧Q (tupOf (l ++ es)) s.m
 | [],l,h => ⟨[],[],rfl,by simp,by simpa [retML] using h⟩
 | r :: rs,l,h => by
  simp only [retML] at h
  split at h
  ·rename_i e he
   obtain ⟨ob,es,h1,h2,h3⟩:=retML_sound (rs:=rs) (conj_iff.1 h).2
   refine ⟨e.ob ++ ob,e.val :: es,?_,fun p hp => ?_,by simpa using h3⟩
   ·simp only [resList,resOf_E he,h1]
   ·rcases List.mem_append.1 hp with hp | hp
    ·exact (conj_iff.1 h).1 p hp
    ·exact h2 p hp
  ·exact h.elim
theorem endMR_sound {s:St} {fn:Func} (hr:fn.results.toList = rs) {e:AEx} (h:endMR P rs Q e s):endM P fn Q e s:=by
 have key:retML P s.t s.m Q rs []→match resAll P s fn.results.toList with
   | some (ob,a) => conj ob (Q a s.m)
   | none => False:=fun h => by
  obtain ⟨ob,es,h1,h2,h3⟩:=retML_sound h
  rw [hr]
  simp only [resAll,h1]
  rw [List.nil_append] at h3
  cases es with
  | nil => exact conj_iff.2 ⟨h2,h3⟩
  | cons a es => cases es with
   | nil => exact conj_iff.2 ⟨h2,h3⟩
   | cons b es => exact conj_iff.2 ⟨h2,h3⟩
 cases e with
 | exit j => exact h.elim
 | normal => exact key h
 | ret => exact key h
def bodyM (P:Program) (G:Ctx) (H:Hots) (fn:Func) (es:List AV) (m:Mem) (nx:Nat) (Q:AV→Mem→Prop):Prop:=∃ cd,fn.body = some cd∧awp P G H cd ⟨argSlots 0 es,m,nx⟩ (endM P fn Q)
theorem bodyM_go {fn:Func} {c:Code} {es:List AV} (hb:fn.body = some c) (hr:fn.results.toList = rs) (h:goC P G H (endMR P rs Q) c [] ⟨argSlots 0 es,m,nx⟩):bodyM P G H fn es m nx Q:=
 ⟨c,hb,awp_mono (fun e s h => endMR_sound hr h) h⟩
theorem bodyM.mono {fn:Func} {es:List AV} {Q':AV→Mem→Prop} (h:bodyM P G H fn es m nx Q) (hq:∀ a m,Q a m→Q' a m):bodyM P G H fn es m nx Q':=by
 obtain ⟨cd,h1,h2⟩:=h
 refine ⟨cd,h1,awp_mono (fun e s h => ?_) h2⟩
 cases e with
 | exit j => exact h
 | normal =>
  simp only [endM] at h ⊢
  split at h
  ·rename_i ob x hx; exact conj_mono (hq _ _) h
  ·exact h
 | ret =>
  simp only [endM] at h ⊢
  split at h
  ·rename_i ob x hx; exact conj_mono (hq _ _) h
  ·exact h
end
def alike (x y:Row):Prop:=y.n = x.n∧y.sz = x.sz∧y.ty = x.ty∧y.g = x.g∧∀ i,i < x.n→y.get i = x.get i
theorem alike.refl (x:Row):alike x x:=⟨rfl,rfl,rfl,rfl,fun _ _ => rfl⟩
def cleanCs:List AV→Bool
 | [] => true
 | a :: l => cleanC a && cleanCs l
theorem cleanCs_mem:∀ {l:List AV},cleanCs l = true→∀ c ∈ l,cleanC c = true
 | [],_,c,h => by cases h
 | a :: l,h,c,hc => by
  simp only [cleanCs,Bool.and_eq_true] at h
  rcases List.mem_cons.1 hc with e | hc
  ·rw [e]; exact h.1
  ·exact cleanCs_mem h.2 c hc
def selfC (r:Nat):AV→Bool
 | .ptr q _ _ _ _ => decide (q = r)
 | a => cleanC a
def bk:AV→AV
 | .ptr _ f i sz k => .ptr 0 f i sz k
 | a => a
def famBk (fam:Fam):Fam:=fun f => { fam f with get:=fun j => ((fam f).get j).map bk }
def famOK (r:Nat) (fam:Fam):Prop:=∀ f,(fam f).g = none∧∀ j,j < (fam f).n→∀ c ∈ (fam f).get j,selfC r c = true
theorem bk_clean {c:AV} (h:cleanC c = true):bk c = c:=by cases c <;> first | rfl | simp [cleanC] at h
theorem bks_clean:∀ {l:List AV},(∀ c ∈ l,cleanC c = true)→l.map bk = l
 | [],_ => rfl
 | a :: l,h => by rw [List.map_cons,bk_clean (h a (by simp)),bks_clean fun c hc => h c (by simp [hc])]
theorem selfC_ren {r:Nat} {θ:Nat→Nat→Nat×Nat} {g:Nat→Nat→Prop} {B:Nat→Prop} (hθ:∀ f,θ 0 f = (r,f)) (hg:∀ f,g 0 f) {c:AV} (h:selfC r c = true):renA θ 3 (bk c) = c∧kg g B 3 (bk c):=by
 cases c with
 | ptr q f i sz k =>
  simp only [selfC,decide_eq_true_eq] at h
  subst h
  refine ⟨?_,hg f⟩
  show AV.ptr (θ 0 f).1 (θ 0 f).2 i sz k = _
  rw [hθ]
 | v x => exact ⟨rfl,trivial⟩
 | any => exact ⟨rfl,trivial⟩
 | ro n sz get => exact ⟨rfl,trivial⟩
 | rop cs => exact ⟨rfl,trivial⟩
 | _ => simp [selfC,cleanC] at h
theorem rowRen_self {r:Nat} {θ:Nat→Nat→Nat×Nat} {g:Nat→Nat→Prop} {B:Nat→Prop} (hθ:∀ f,θ 0 f = (r,f)) (hg:∀ f,g 0 f) {x:Row} (h:∀ j,j < x.n→∀ c ∈ x.get j,selfC r c = true):rowRen θ g B { x with get:=fun j => (x.get j).map bk } x:=by
 refine ⟨rfl,rfl,rfl,rfl,fun j hj => ?_⟩
 have h1:=h j hj
 refine ⟨?_,fun c hc => ?_⟩
 ·dsimp only
  rw [List.map_map]
  exact (map_id_of fun a ha => (selfC_ren (g:=g) (B:=B) hθ hg (h1 a ha)).1).symm
 ·dsimp only at hc
  obtain ⟨c0,hc0,rfl⟩:=List.mem_map.1 hc
  exact (selfC_ren (θ:=θ) hθ hg (h1 c0 hc0)).2
theorem famBk_E {fam:Fam} {f i:Nat} {cs:List AV} (h:∀ c ∈ cs,cleanC c = true):famBk (famE fam f i cs) = famE (famBk fam) f i cs:=by
 funext f'
 unfold famBk famE
 by_cases e:f' = f
 ·subst e
  simp only [if_true]
  congr 1
  funext j
  by_cases e:j = i
  ·simp only [e,if_true]; exact bks_clean h
  ·simp [e]
 ·simp [e]
theorem famOK_E {r:Nat} {fam:Fam} {f i:Nat} {cs:List AV} (h:famOK r fam) (hc:∀ c ∈ cs,cleanC c = true):famOK r (famE fam f i cs):=fun f' => by
 refine ⟨by rw [famE_g]; exact (h f').1,fun j hj c hcm => ?_⟩
 rw [famE_n] at hj
 by_cases e:f' = f
 ·subst e
  simp only [famE,if_true] at hcm
  split at hcm
  ·have:=hc c hcm
   cases c <;> first | exact this | simp [cleanC] at this
  ·exact (h f').2 j hj c hcm
 ·rw [famE_off e] at hcm
  exact (h f').2 j hj c hcm
theorem famOK_bk {r:Nat} {fam:Fam} (h:famOK r fam):famOK 0 (famBk fam):=fun f => by
 refine ⟨(h f).1,fun j hj c hc => ?_⟩
 obtain ⟨c0,h0,rfl⟩:=List.mem_map.1 hc
 have:=(h f).2 j hj c0 h0
 cases c0 <;> first | rfl | exact this | simp [selfC,cleanC] at this
theorem rowRen_clean' {θ:Nat→Nat→Nat×Nat} {g:Nat→Nat→Prop} {B:Nat→Prop} {x0 x:Row} (h:alike x0 x) (hc:∀ j,j < x0.n→∀ c ∈ x0.get j,cleanC c = true):rowRen θ g B x0 x:=by
 obtain ⟨h1,h2,h3,h4,h5⟩:=h
 refine ⟨h1,h2,h3,h4,fun j hj => ?_⟩
 obtain ⟨k1,k2⟩:=cleanL_ren (θ:=θ) (g:=g) (B:=B) (hc j hj)
 exact ⟨by rw [k1]; exact h5 j hj,k2⟩
theorem look_one {k:Nat} {x:Fam}:look [(k,x)] k = some x:=by simp [look]
theorem thE_0 {r:Nat}:∀ f,thE [r] 0 f = (r,f):=fun f => rfl
theorem thL_0 {r key:Nat} {l:List Nat} {th:Nat→Nat→Nat}:∀ f,thL (r :: l) key th 0 f = (r,f):=fun f => by simp [thL]
theorem lowG_0:∀ f,lowG 1 0 f:=fun _ => Nat.zero_lt_one
theorem newG_0 {N:Nat} {σ:Nat→Option (Nat×Nat)} {th:Nat→Nat→Nat} (h:0 < N):∀ f,newG N σ th 0 f:=fun _ => .inl h
section
variable {P:Program} {G:Ctx} {H:Hots} {f:FuncId} {fn:Func}
theorem one_okG {r key:Nat} {fam fam' x0 y0:Fam} {m:Mem} {es es0:List AV} {val val0:AV} {ob:List Prop} (hl:look m r = some fam) (h1:∀ f,(fam f).g = none∧rowRen (thE [r]) (lowG 1) (lowB 1) (x0 f) (fam f))
  (h2:∀ th σ f,rowRen (thL [r] key th) (newG 1 σ th) (newB 1 σ) (y0 f) (fam' f)∧(y0 f).g≠some false) (ha:es = es0.map (renA (thE [r]) 3)) (hak:∀ a ∈ es0,kg (lowG 1) (lowB 1) 3 a)
  (hfn:funcOK P H fn es0.length = true) (hv:∀ th:Nat→Nat→Nat,∀ σ:Nat→Option (Nat×Nat),val = renA (thL [r] key th) 3 val0∧kg (newG 1 σ th) (newB 1 σ) 3 val0)
  (hb:bodyM P G H fn es0 [(0,x0)] 1 fun a m1 => a = val0∧look m1 0 = some y0) :
  ∃ ks m0 as0,Entry ks m m0 es as0∧funcOK P H fn as0.length = true∧bodyM P G H fn as0 m0 ks.length fun a m1 => ∃ σ th ys nw,(⟨ob,val,.many [(r,fam')] none⟩:Eff).u = .many (ks.zip ys) nw∧Leave key ks σ th m1 a ys nw val:=by
 refine ⟨[r],[(0,x0)],es0,⟨by simp,ha,hak,fun j hj => ?_,fun q x hq => ?_⟩,hfn,hb.mono fun a m1 ⟨q1,q2⟩ => ?_⟩
 ·have:j = 0:=by simp at hj; omega
  subst this
  exact ⟨_,fam,look_one,hl,h1⟩
 ·by_cases e:q = 0
  ·subst e; simp
  ·simp [look,Ne.symm e] at hq
 ·obtain ⟨v1,v2⟩:=hv (fun _ _ => 0) (fun _ => none)
  refine ⟨fun _ => none,fun _ _ => 0,[fam'],none,rfl,⟨fun f r g h => by simp at h,by rw [q1]; exact v1,by rw [q1]; exact v2,rfl,fun j hj => ?_,fun _ => rfl⟩⟩
  have:j = 0:=by simp at hj; omega
  subst this
  exact ⟨_,_,q2,rfl,h2 _ _⟩
theorem one_ok {r key:Nat} {fam fam':Fam} {m:Mem} {es es0:List AV} {val val0:AV} {ob:List Prop} (hl:look m r = some fam) (h1:famOK r fam) (h2:famOK r fam') (ha:es = es0.map (renA (thE [r]) 3)) (hak:∀ a ∈ es0,kg (lowG 1) (lowB 1) 3 a)
  (hfn:funcOK P H fn es0.length = true) (hv:∀ th:Nat→Nat→Nat,∀ σ:Nat→Option (Nat×Nat),val = renA (thL [r] key th) 3 val0∧kg (newG 1 σ th) (newB 1 σ) 3 val0)
  (hb:bodyM P G H fn es0 [(0,famBk fam)] 1 fun a m1 => a = val0∧look m1 0 = some (famBk fam')) :
  ∃ ks m0 as0,Entry ks m m0 es as0∧funcOK P H fn as0.length = true∧bodyM P G H fn as0 m0 ks.length fun a m1 => ∃ σ th ys nw,(⟨ob,val,.many [(r,fam')] none⟩:Eff).u = .many (ks.zip ys) nw∧Leave key ks σ th m1 a ys nw val:=
 one_okG hl (fun f => ⟨(h1 f).1,rowRen_self thE_0 lowG_0 (h1 f).2⟩) (fun th σ f => ⟨rowRen_self thL_0 (newG_0 (by simp)) (h2 f).2,by show (fam' f).g≠_; rw [(h2 f).1]; simp⟩) ha hak hfn hv hb
def mcP (sz:Nat) (F:List AV→List AV→Option (List Prop×AV×List AV)):MCon:=fun key m es => match es with
 | .ptr r f i sz' 0 :: rest => match look m r with
  | some fam => match F ((fam f).get i) rest with
   | some (ob,val,cs) => some ⟨(i < (fam f).n) :: (sz' = sz) :: (sz = (fam f).sz) :: (cleanCs ((fam f).get i) = true) :: famOK r fam :: ob,val,.many [(r,famE fam f i cs)] none⟩
   | none => none
  | none => none
 | _ => none
def wb1 (fam:Fam) (cs:List AV):Fam:=fun f => if f = 0 then { fam 0 with get:=fun _ => cs } else fam f
def mc1 (sz:Nat) (F:List AV→List AV→Option (List Prop×AV×List AV)):MCon:=fun key m es => match es with
 | .bx r 0 :: rest => match look m r with
  | some fam => match F ((fam 0).get 0) rest with
   | some (ob,val,cs) => some ⟨((fam 0).n = 1) :: (sz = (fam 0).sz) :: (cleanCs ((fam 0).get 0) = true) :: famOK r fam :: ob,val,.many [(r,wb1 fam cs)] none⟩
   | none => none
  | none => none
 | es => mcP sz F key m es
def OneOK (P:Program) (G:Ctx) (H:Hots) (fn:Func) (sz:Nat) (F:List AV→List AV→Option (List Prop×AV×List AV)):Prop:=
 ∀ cells rest ob val cs,F cells rest = some (ob,val,cs)→(∀ p ∈ ob,p)→(∀ a ∈ rest,clean 3 a = true)∧clean 3 val = true∧(∀ c ∈ cs,cleanC c = true)∧funcOK P H fn (rest.length + 1) = true ∧
  ∀ (fam:Fam) (f i:Nat),i < (fam f).n→sz = (fam f).sz→(∀ f,(fam f).g = none)→famOK 0 fam→bodyM P G H fn (.ptr 0 f i sz 0 :: rest) [(0,famE fam f i cells)] 1 fun a m1 => a = val∧look m1 0 = some (famE fam f i cs)
theorem MConOK.mcP (hG:CtxOK P G) (hf:P.funcs[f]? = some fn) {sz:Nat} {F:List AV→List AV→Option (List Prop×AV×List AV)} (h:OneOK P G H fn sz F):MConOK P f (mcP sz F):=by
 refine MConOK.of (H:=H) hG hf fun key m es e hc hob => ?_
 unfold Ax.mcP at hc
 split at hc
 ·rename_i r f' i sz' rest
  split at hc
  ·rename_i fam hl
   split at hc
   ·rename_i ob val cs hF
    cases hc
    have hi:i < (fam f').n:=hob _ (by simp)
    have hsz':sz' = sz:=hob _ (by simp)
    have hsz:sz = (fam f').sz:=hob _ (by simp)
    have hcl:cleanCs ((fam f').get i) = true:=hob _ (by simp)
    have hok:famOK r fam:=hob _ (by simp)
    subst hsz'
    obtain ⟨h1,h2,h3,h4,h5⟩:=h _ _ _ _ _ hF fun p hp => hob p (by simp [hp])
    obtain ⟨a1,a2⟩:=cleans_ren (θ:=thE [r]) (g:=lowG 1) (B:=lowB 1) h1
    refine one_ok hl hok (famOK_E hok h3) (es0:=.ptr 0 f' i sz' 0 :: rest) (val0:=val) ?_ ?_ h4 (fun th σ => ?_) ?_
    ·rw [List.map_cons,a1]; rfl
    ·intro a ha
     rcases List.mem_cons.1 ha with e | ha
     ·rw [e]; exact Nat.zero_lt_one
     ·exact a2 a ha
    ·obtain ⟨b1,b2⟩:=clean_ren (θ:=thL [r] key th) (g:=newG 1 σ th) (B:=newB 1 σ) 3 val h2
     exact ⟨b1.symm,b2⟩
    ·have e1:famBk fam = famE (famBk fam) f' i ((fam f').get i):=by
      have:=famBk_E (fam:=fam) (f:=f') (i:=i) (cleanCs_mem hcl)
      rw [famE_self] at this
      exact this
     rw [e1,famBk_E h3]
     exact h5 (famBk fam) f' i hi hsz (fun f => (hok f).1) (famOK_bk hok)
   ·cases hc
  ·cases hc
 ·cases hc
theorem MConOK.mc1 (hG:CtxOK P G) (hf:P.funcs[f]? = some fn) {sz:Nat} {F:List AV→List AV→Option (List Prop×AV×List AV)} (h:OneOK P G H fn sz F):MConOK P f (mc1 sz F):=by
 intro w0 ρ m m' D w key es vs e hR hk hm hRs hc hob hmany
 unfold Ax.mc1 at hc
 split at hc
 ·rename_i r rest
  split at hc
  ·rename_i fam hl
   split at hc
   ·rename_i ob val cs hF
    cases hc
    have hn:(fam 0).n = 1:=hob _ (by simp)
    have hsz:sz = (fam 0).sz:=hob _ (by simp)
    have hcl:cleanCs ((fam 0).get 0) = true:=hob _ (by simp)
    have hok:famOK r fam:=hob _ (by simp)
    have hRs':Rs w ρ (.ptr r 0 0 sz 0 :: rest) vs:=by
     obtain ⟨x,xs,rfl,h1,h2⟩:=hRs.inv
     refine .cons ?_ h2
     cases h1 with
     | bx hd =>
      have:R w ρ (.ptr r 0 0 sz 0) (.pointer (some ⟨ρ.blk r 0,0 * sz + 0,none⟩)):=.ptr hd
      rw [Nat.zero_mul] at this
      exact this
    have:=MConOK.mcP hG hf h w0 ρ m m' D w key _ vs ⟨(0 < (fam 0).n) :: (sz = sz) :: (sz = (fam 0).sz) :: (cleanCs ((fam 0).get 0) = true) :: famOK r fam :: ob,val,.many [(r,famE fam 0 0 cs)] none⟩ hR hk hm hRs'
     (by simp only [Ax.mcP,hl,hF]) (fun p hp => by
      simp only [List.mem_cons] at hp
      rcases hp with rfl | rfl | rfl | rfl | rfl | hp
      ·omega
      ·trivial
      ·exact hsz
      ·exact hcl
      ·exact hok
      ·exact hob p (by simp [hp])) ⟨_,_,rfl⟩
    refine this.mono fun v w' ⟨ρ',p1,p2,p3,p4⟩ => ⟨ρ',p1,?_,p3,p4⟩
    have p2:Rel w0 ρ' (setRow r (famE fam 0 0 cs) m) (fun r => D r∨r = key) w':=p2
    refine Rel.alike p2 fun f => ?_
    by_cases e:f = 0
    ·subst e
     refine ⟨rfl,rfl,rfl,rfl,fun i hi => ?_⟩
     rw [famE_n,hn] at hi
     have:i = 0:=by omega
     subst this
     rw [famE_get]; rfl
    ·unfold wb1
     rw [if_neg e,famE_off e]
     exact ⟨rfl,rfl,rfl,rfl,fun _ _ => rfl⟩
   ·cases hc
  ·cases hc
 ·exact MConOK.mcP hG hf h w0 ρ m m' D w key es vs e hR hk hm hRs hc hob hmany
def mcPP (sz:Nat) (F:List AV→List AV→List AV→Option (List Prop×AV×List AV×List AV)):MCon:=fun key m es => match es with
 | .ptr r f i sz1 0 :: .ptr r' f' i' sz2 0 :: rest => match look m r with
  | some fam => match F ((fam f).get i) ((fam f').get i') rest with
   | some (ob,val,cs,cs') => some ⟨(r' = r) :: (f≠f') :: (i < (fam f).n) :: (i' < (fam f').n) :: (sz1 = sz) :: (sz2 = sz) :: (sz = (fam f).sz) :: (sz = (fam f').sz) :: (cleanCs ((fam f).get i) = true) :: (cleanCs ((fam f').get i') = true) :: famOK r fam :: ob,val,.many [(r,famE (famE fam f i cs) f' i' cs')] none⟩
   | none => none
  | none => none
 | _ => none
def TwoOK (P:Program) (G:Ctx) (H:Hots) (fn:Func) (sz:Nat) (F:List AV→List AV→List AV→Option (List Prop×AV×List AV×List AV)):Prop:=
 ∀ c1 c2 rest ob val cs cs',F c1 c2 rest = some (ob,val,cs,cs')→(∀ p ∈ ob,p)→(∀ a ∈ rest,clean 3 a = true)∧clean 3 val = true∧(∀ c ∈ cs,cleanC c = true)∧(∀ c ∈ cs',cleanC c = true)∧funcOK P H fn (rest.length + 2) = true ∧
  ∀ (fam:Fam) (f i f' i':Nat),f≠f'→i < (fam f).n→i' < (fam f').n→sz = (fam f).sz→sz = (fam f').sz→(∀ f,(fam f).g = none)→famOK 0 fam →
   bodyM P G H fn (.ptr 0 f i sz 0 :: .ptr 0 f' i' sz 0 :: rest) [(0,famE (famE fam f i c1) f' i' c2)] 1 fun a m1 => a = val∧look m1 0 = some (famE (famE fam f i cs) f' i' cs')
theorem MConOK.mcPP (hG:CtxOK P G) (hf:P.funcs[f]? = some fn) {sz:Nat} {F:List AV→List AV→List AV→Option (List Prop×AV×List AV×List AV)} (h:TwoOK P G H fn sz F):MConOK P f (mcPP sz F):=by
 refine MConOK.of (H:=H) hG hf fun key m es e hc hob => ?_
 unfold Ax.mcPP at hc
 split at hc
 ·rename_i r f1 i1 s1 r' f2 i2 s2 rest
  split at hc
  ·rename_i fam hl
   split at hc
   ·rename_i ob val cs cs' hF
    cases hc
    have hr:r' = r:=hob _ (by simp)
    have hne:f1≠f2:=hob _ (by simp)
    have hi:i1 < (fam f1).n:=hob _ (by simp)
    have hi':i2 < (fam f2).n:=hob _ (by simp)
    have hs1:s1 = sz:=hob _ (by simp)
    have hs2:s2 = sz:=hob _ (by simp)
    have hz1:sz = (fam f1).sz:=hob _ (by simp)
    have hz2:sz = (fam f2).sz:=hob _ (by simp)
    have hc1:cleanCs ((fam f1).get i1) = true:=hob _ (by simp)
    have hc2:cleanCs ((fam f2).get i2) = true:=hob _ (by simp)
    have hok:famOK r fam:=hob _ (by simp)
    subst hr hs1 hs2
    obtain ⟨h1,h2,h3,h3',h4,h5⟩:=h _ _ _ _ _ _ _ hF fun p hp => hob p (by simp [hp])
    obtain ⟨a1,a2⟩:=cleans_ren (θ:=thE [r']) (g:=lowG 1) (B:=lowB 1) h1
    refine one_ok hl hok (famOK_E (famOK_E hok h3) h3') (es0:=.ptr 0 f1 i1 s2 0 :: .ptr 0 f2 i2 s2 0 :: rest) (val0:=val) ?_ ?_ h4 (fun th σ => ?_) ?_
    ·rw [List.map_cons,List.map_cons,a1]; rfl
    ·intro a ha
     rcases List.mem_cons.1 ha with e | ha
     ·rw [e]; exact Nat.zero_lt_one
     ·rcases List.mem_cons.1 ha with e | ha
      ·rw [e]; exact Nat.zero_lt_one
      ·exact a2 a ha
    ·obtain ⟨b1,b2⟩:=clean_ren (θ:=thL [r'] key th) (g:=newG 1 σ th) (B:=newB 1 σ) 3 val h2
     exact ⟨b1.symm,b2⟩
    ·have e1:famBk fam = famE (famE (famBk fam) f1 i1 ((fam f1).get i1)) f2 i2 ((fam f2).get i2):=by
      have k1:=famBk_E (fam:=fam) (f:=f1) (i:=i1) (cleanCs_mem hc1)
      rw [famE_self] at k1
      have k2:=famBk_E (fam:=fam) (f:=f2) (i:=i2) (cleanCs_mem hc2)
      rw [famE_self] at k2
      rw [← k1,← k2]
     rw [e1,famBk_E h3',famBk_E h3]
     exact h5 (famBk fam) f1 i1 f2 i2 hne hi hi' hz1 hz2 (fun f => (hok f).1) (famOK_bk hok)
   ·cases hc
  ·cases hc
 ·cases hc
def tabOK (K N sz:Nat) (tp ty:TypeId) (fam:Fam):Prop:=(∀ f,alike (famT K N sz tp ty (fun i => (fam (i + 1)).get 0) f) (fam f))∧∀ i,i < N→cleanCs ((fam (i + 1)).get 0) = true
theorem rowRen_T {θ:Nat→Nat→Nat×Nat} {g:Nat→Nat→Prop} {B:Nat→Prop} {K N sz:Nat} {tp ty:TypeId} {get:Nat→List AV} (hθ:∀ f,θ 0 f = (K,f)) (hg:∀ f,g 0 f) (hc:∀ i,i < N→cleanCs (get i) = true) (f:Nat) :
  rowRen θ g B (famT 0 N sz tp ty get f) (famT K N sz tp ty get f):=by
 cases f with
 | zero =>
  refine ⟨rfl,rfl,rfl,rfl,fun j hj => ⟨?_,fun c hc => ?_⟩⟩
  ·show [AV.ptr K (j + 1) 0 sz 0] = [AV.ptr (θ 0 (j + 1)).1 (θ 0 (j + 1)).2 0 sz 0]
   rw [hθ]
  ·simp only [famT,List.mem_singleton] at hc
   rw [hc]; exact hg _
 | succ f =>
  refine rowRen_clean' ⟨rfl,rfl,rfl,rfl,fun _ _ => rfl⟩ fun j hj c hcm => ?_
  simp only [famT] at hj hcm
  split at hj
  ·rename_i hf
   have:j = 0:=by omega
   subst this
   exact cleanCs_mem (hc f hf) c (by simpa using hcm)
  ·omega
theorem rowRen_alike {θ:Nat→Nat→Nat×Nat} {g:Nat→Nat→Prop} {B:Nat→Prop} {x0 x y:Row} (h:rowRen θ g B x0 x) (k:alike x y):rowRen θ g B x0 y:=by
 obtain ⟨h1,h2,h3,h4,h5⟩:=h
 obtain ⟨k1,k2,k3,k4,k5⟩:=k
 refine ⟨k1.trans h1,k2.trans h2,k3.trans h3,k4.trans h4,fun j hj => ?_⟩
 obtain ⟨a,b⟩:=h5 j hj
 exact ⟨(k5 j (by omega)).trans a,b⟩
theorem famT_g {K N sz:Nat} {tp ty:TypeId} {get:Nat→List AV} {f:Nat}:(famT K N sz tp ty get f).g = none:=by cases f <;> rfl
theorem tabOK_in {K N sz:Nat} {tp ty:TypeId} {fam:Fam} (h:tabOK K N sz tp ty fam) (f:Nat):(fam f).g = none∧rowRen (thE [K]) (lowG 1) (lowB 1) (famT 0 N sz tp ty (fun i => (fam (i + 1)).get 0) f) (fam f):=
 ⟨(h.1 f).2.2.2.1.trans famT_g,rowRen_alike (rowRen_T thE_0 lowG_0 h.2 f) (h.1 f)⟩
def mcT (sz:Nat) (tp ty:TypeId) (F:Nat→(Nat→List AV)→List AV→Option (List Prop×AV×(Nat→List AV))):MCon:=fun key m es => match es with
 | .own K 0 N 1 :: rest => match look m K with
  | some fam => match F N (fun i => (fam (i + 1)).get 0) rest with
   | some (ob,val,get') => some ⟨tabOK K N sz tp ty fam :: ob,val,.many [(K,famT K N sz tp ty get')] none⟩
   | none => none
  | none => none
 | _ => none
def TabOK (P:Program) (G:Ctx) (H:Hots) (fn:Func) (sz:Nat) (tp ty:TypeId) (F:Nat→(Nat→List AV)→List AV→Option (List Prop×AV×(Nat→List AV))):Prop:=
 ∀ N get rest ob val get',F N get rest = some (ob,val,get')→(∀ p ∈ ob,p)→(∀ i,i < N→cleanCs (get i) = true)→(∀ a ∈ rest,clean 3 a = true)∧clean 3 val = true∧(∀ i,i < N→cleanCs (get' i) = true)∧funcOK P H fn (rest.length + 1) = true ∧
  bodyM P G H fn (.own 0 0 N 1 :: rest) [(0,famT 0 N sz tp ty get)] 1 fun a m1 => a = val∧look m1 0 = some (famT 0 N sz tp ty get')
theorem MConOK.mcT (hG:CtxOK P G) (hf:P.funcs[f]? = some fn) {sz:Nat} {tp ty:TypeId} {F:Nat→(Nat→List AV)→List AV→Option (List Prop×AV×(Nat→List AV))} (h:TabOK P G H fn sz tp ty F):MConOK P f (mcT sz tp ty F):=by
 refine MConOK.of (H:=H) hG hf fun key m es e hc hob => ?_
 unfold Ax.mcT at hc
 split at hc
 ·rename_i K N rest
  split at hc
  ·rename_i fam hl
   split at hc
   ·rename_i ob val get' hF
    cases hc
    have hok:tabOK K N sz tp ty fam:=hob _ (by simp)
    obtain ⟨h1,h2,h3,h4,h5⟩:=h _ _ _ _ _ _ hF (fun p hp => hob p (by simp [hp])) hok.2
    obtain ⟨a1,a2⟩:=cleans_ren (θ:=thE [K]) (g:=lowG 1) (B:=lowB 1) h1
    refine one_okG hl (tabOK_in hok) (fun th σ f => ⟨rowRen_T thL_0 (newG_0 (by simp)) h3 f,by rw [famT_g]; simp⟩) (es0:=.own 0 0 N 1 :: rest) (val0:=val) ?_ ?_ h4 (fun th σ => ?_) h5
    ·rw [List.map_cons,a1]; rfl
    ·intro a ha
     rcases List.mem_cons.1 ha with e | ha
     ·rw [e]; exact Nat.zero_lt_one
     ·exact a2 a ha
    ·obtain ⟨b1,b2⟩:=clean_ren (θ:=thL [K] key th) (g:=newG 1 σ th) (B:=newB 1 σ) 3 val h2
     exact ⟨b1.symm,b2⟩
   ·cases hc
  ·cases hc
 ·cases hc
def mcTL (sz:Nat) (tp ty tl:TypeId):MCon:=fun key m es => match es with
 | [.own K 0 N 1] => match look m K with
  | some fam => some ⟨[tabOK K N sz tp ty fam,N≤1000,∀ i,i < N→((fam (i + 1)).get 0).length = sz∧allCells ((fam (i + 1)).get 0) = true],.own key 0 N sz,.many [(K,famT K N sz tp ty fun i => (fam (i + 1)).get 0)] (some (famN N sz tl (fun i => (fam (i + 1)).get 0) none))⟩
  | none => none
 | _ => none
def TelOK (P:Program) (G:Ctx) (H:Hots) (fn:Func) (sz:Nat) (tp ty tl:TypeId):Prop:=
 ∀ N get,N≤1000→(∀ i,i < N→cleanCs (get i) = true)→(∀ i,i < N→(get i).length = sz∧allCells (get i) = true)→funcOK P H fn 1 = true ∧
  bodyM P G H fn [.own 0 0 N 1] [(0,famT 0 N sz tp ty get)] 1 fun a m1 => look m1 0 = some (famT 0 N sz tp ty get)∧∃ L get',1≤L∧a = .own L 0 N sz∧look m1 L = some (famN N sz tl get' none)∧∀ i,i < N→get' i = get i
def whole (K:Nat) (f:Nat):Option (Nat×Nat):=some (K,f)
def idTh (_ f:Nat):Nat:=f
theorem MConOK.mcTL (hG:CtxOK P G) (hf:P.funcs[f]? = some fn) {sz:Nat} {tp ty tl:TypeId} (h:TelOK P G H fn sz tp ty tl):MConOK P f (mcTL sz tp ty tl):=by
 refine MConOK.of (H:=H) hG hf fun key m es e hc hob => ?_
 unfold Ax.mcTL at hc
 split at hc
 ·rename_i K N
  split at hc
  ·rename_i fam hl
   cases hc
   have hok:tabOK K N sz tp ty fam:=hob _ (by simp)
   have hN:N≤1000:=hob _ (by simp)
   have hlen:∀ i,i < N→((fam (i + 1)).get 0).length = sz∧allCells ((fam (i + 1)).get 0) = true:=hob _ (by simp)
   obtain ⟨h1,h2⟩:=h N (fun i => (fam (i + 1)).get 0) hN hok.2 hlen
   refine ⟨[K],[(0,famT 0 N sz tp ty fun i => (fam (i + 1)).get 0)],[.own 0 0 N 1],⟨by simp,rfl,?_,?_,?_⟩,h1,h2.mono fun a m1 ⟨q1,L,get',q2,q3,q4,q5⟩ => ?_⟩
   ·intro a ha
    rw [List.mem_singleton] at ha
    rw [ha]; exact Nat.zero_lt_one
   ·intro j hj
    have:j = 0:=by simp at hj; omega
    subst this
    exact ⟨_,fam,look_one,hl,tabOK_in hok⟩
   ·intro q x hq
    by_cases e:q = 0
    ·subst e; simp
    ·simp [look,Ne.symm e] at hq
   ·refine ⟨whole L,idTh,[famT K N sz tp ty fun i => (fam (i + 1)).get 0],some _,rfl,⟨fun f r g h => ?_,?_,?_,rfl,fun j hj => ?_,fun f => ?_⟩⟩
    ·cases h; exact ⟨q2,rfl⟩
    ·rw [q3]
     show AV.own key 0 N sz = .own (thL [K] key idTh L 0).1 (thL [K] key idTh L 0).2 N sz
     unfold thL
     rw [if_neg (by simp; omega)]
     rfl
    ·rw [q3]; exact .inr rfl
    ·have:j = 0:=by simp at hj; omega
     subst this
     exact ⟨_,_,q1,rfl,fun f => ⟨rowRen_T thL_0 (newG_0 (by simp)) hok.2 f,by rw [famT_g]; simp⟩⟩
    ·refine ⟨_,q4,rowRen_clean' ?_ fun j hj c hc => ?_,?_⟩
     ·unfold famN
      by_cases e:f = 0
      ·subst e
       exact ⟨rfl,rfl,rfl,rfl,fun i hi => (q5 i hi).symm⟩
      ·simp only [e,if_false]
       exact .refl _
     ·unfold famN at hj hc
      by_cases e:f = 0
      ·subst e
       simp only [if_true] at hj hc
       rw [q5 j hj] at hc
       exact cleanCs_mem (hok.2 j hj) c hc
      ·simp [e] at hj
     ·unfold famN
      split <;> simp
  ·cases hc
 ·cases hc
theorem setRow_self {r:Nat} {x:Fam}:∀ {m:Mem},look m r = some x→setRow r x m = m
 | [],h => by simp [look] at h
 | (k,y) :: m,h => by
  unfold look at h
  unfold setRow
  split at h
  ·rename_i e; cases h; subst e; simp
  ·rename_i e; rw [if_neg e,setRow_self h]
def mcTR (sz:Nat) (tp ty tl:TypeId):MCon:=fun key m es => match es with
 | [.own K 0 N 1] => match look m K with
  | some fam => some ⟨[tabOK K N sz tp ty fam,N≤1000,∀ i,i < N→((fam (i + 1)).get 0).length = sz∧allCells ((fam (i + 1)).get 0) = true],.own key 0 N sz,.many [] (some (famN N sz tl (fun i => (fam (i + 1)).get 0) none))⟩
  | none => none
 | _ => none
theorem MConOK.mcTR {sz:Nat} {tp ty tl:TypeId} (h:MConOK P f (Ax.mcTL sz tp ty tl)):MConOK P f (Ax.mcTR sz tp ty tl):=by
 intro w0 ρ m m' D w key es vs e hR hk hm hRs hc hob hmany
 unfold Ax.mcTR at hc
 split at hc
 ·rename_i K N
  split at hc
  ·rename_i fam hl
   cases hc
   have:=h w0 ρ m m' D w key [.own K 0 N 1] vs ⟨[tabOK K N sz tp ty fam,N≤1000,∀ i,i < N→((fam (i + 1)).get 0).length = sz∧allCells ((fam (i + 1)).get 0) = true],.own key 0 N sz,.many [(K,famT K N sz tp ty fun i => (fam (i + 1)).get 0)] (some (famN N sz tl (fun i => (fam (i + 1)).get 0) none))⟩ hR hk hm hRs (by simp only [Ax.mcTL,hl]) hob ⟨_,_,rfl⟩
   refine this.mono fun v w' ⟨ρ',p1,p2,p3,p4⟩ => ⟨ρ',p1,?_,p3,p4⟩
   have hok:tabOK K N sz tp ty fam:=hob _ (by simp)
   have hKm:=hm _ _ hl
   have hne:K≠key:=fun e => hk (e ▸ hR.key _ _ hKm)
   have p2:Rel w0 ρ' (insRow key (famN N sz tl (fun i => (fam (i + 1)).get 0) none) (setRow K (famT K N sz tp ty fun i => (fam (i + 1)).get 0) m)) (fun r => D r∨r = key) w':=p2
   rw [← set_ins hne] at p2
   have p5:=Rel.alike p2 (y:=fam) (fun f => hok.1 f)
   rw [set_ins hne,setRow_self hKm] at p5
   exact p5
  ·cases hc
 ·cases hc
def mcN (ty:TypeId) (F:List AV→Option (List Prop×List AV)):MCon:=fun key m es => match F es with
 | some (ob,cs) => some ⟨ob,.bx key 0,.many [] (some (fam1 ty cs.length cs none))⟩
 | none => none
def NewOK (P:Program) (G:Ctx) (H:Hots) (fn:Func) (ty:TypeId) (F:List AV→Option (List Prop×List AV)):Prop:=
 ∀ es ob cs,F es = some (ob,cs)→(∀ p ∈ ob,p)→(∀ a ∈ es,clean 3 a = true)∧cleanCs cs = true∧funcOK P H fn es.length = true ∧
  bodyM P G H fn es [] 0 fun a m1 => ∃ L,a = .bx L 0∧look m1 L = some (fam1 ty cs.length cs none)
theorem MConOK.mcN (hG:CtxOK P G) (hf:P.funcs[f]? = some fn) {ty:TypeId} {F:List AV→Option (List Prop×List AV)} (h:NewOK P G H fn ty F):MConOK P f (mcN ty F):=by
 refine MConOK.of (H:=H) hG hf fun key m es e hc hob => ?_
 unfold Ax.mcN at hc
 split at hc
 ·rename_i ob cs hF
  cases hc
  obtain ⟨h1,h2,h3,h4⟩:=h _ _ _ hF fun p hp => hob p hp
  obtain ⟨a1,a2⟩:=cleans_ren (θ:=thE []) (g:=lowG 0) (B:=lowB 0) h1
  refine ⟨[],[],es,⟨by simp,a1.symm,a2,fun j hj => by simp at hj,fun q x hq => by simp [look] at hq⟩,h3,h4.mono fun a m1 ⟨L,q1,q2⟩ => ?_⟩
  refine ⟨whole L,idTh,[],some _,rfl,⟨fun f r g h => ?_,?_,?_,rfl,fun j hj => by simp at hj,fun f => ?_⟩⟩
  ·cases h; exact ⟨Nat.zero_le _,rfl⟩
  ·rw [q1]; rfl
  ·rw [q1]; exact .inr rfl
  ·refine ⟨_,q2,rowRen_clean' (.refl _) fun j hj c hc => ?_,?_⟩
   ·unfold fam1 at hj hc
    by_cases e:f = 0
    ·subst e
     exact cleanCs_mem h2 c (by simpa using hc)
    ·simp [e] at hj
   ·unfold fam1
    split <;> simp
 ·cases hc
def mcL (sz:Nat) (tp ty:TypeId) (F:List AV→Option (List Prop×Nat×(Nat→List AV))):MCon:=fun key m es => match F es with
 | some (ob,N,get) => some ⟨ob,.own key 0 N 1,.many [] (some (famT key N sz tp ty get))⟩
 | none => none
def LayOK (P:Program) (G:Ctx) (H:Hots) (fn:Func) (sz:Nat) (tp ty:TypeId) (F:List AV→Option (List Prop×Nat×(Nat→List AV))):Prop:=
 ∀ es ob N get,F es = some (ob,N,get)→(∀ p ∈ ob,p)→(∀ a ∈ es,clean 3 a = true)∧(∀ i,i < N→cleanCs (get i) = true)∧funcOK P H fn es.length = true ∧
  bodyM P G H fn es [] 0 fun a m1 => ∃ L get',a = .own L 0 N 1∧look m1 L = some (famT L N sz tp ty get')∧∀ i,i < N→get' i = get i
theorem MConOK.mcL (hG:CtxOK P G) (hf:P.funcs[f]? = some fn) {sz:Nat} {tp ty:TypeId} {F:List AV→Option (List Prop×Nat×(Nat→List AV))} (h:LayOK P G H fn sz tp ty F):MConOK P f (mcL sz tp ty F):=by
 refine MConOK.of (H:=H) hG hf fun key m es e hc hob => ?_
 unfold Ax.mcL at hc
 split at hc
 ·rename_i ob N get hF
  cases hc
  obtain ⟨h1,h2,h3,h4⟩:=h _ _ _ _ hF fun p hp => hob p hp
  obtain ⟨a1,a2⟩:=cleans_ren (θ:=thE []) (g:=lowG 0) (B:=lowB 0) h1
  refine ⟨[],[],es,⟨by simp,a1.symm,a2,fun j hj => by simp at hj,fun q x hq => by simp [look] at hq⟩,h3,h4.mono fun a m1 ⟨L,get',q1,q2,q3⟩ => ?_⟩
  refine ⟨whole L,idTh,[],some _,rfl,⟨fun f r g h => ?_,?_,?_,rfl,fun j hj => by simp at hj,fun f => ?_⟩⟩
  ·cases h; exact ⟨Nat.zero_le _,rfl⟩
  ·rw [q1]; rfl
  ·rw [q1]; exact .inr rfl
  ·refine ⟨_,q2,?_,by rw [famT_g]; simp⟩
   cases f with
   | zero =>
    refine ⟨rfl,rfl,rfl,rfl,fun j hj => ⟨rfl,fun c hc => ?_⟩⟩
    simp only [famT,List.mem_singleton] at hc
    rw [hc]; exact .inr rfl
   | succ f =>
    refine rowRen_clean' ⟨rfl,rfl,rfl,rfl,fun j hj => ?_⟩ fun j hj c hcm => ?_
    ·simp only [famT] at hj ⊢
     split at hj
     ·rename_i hf
      rw [q3 f hf]
     ·omega
    ·simp only [famT] at hj hcm
     split at hj
     ·rename_i hf
      have:j = 0:=by omega
      subst this
      simp only [if_true] at hcm
      rw [q3 f hf] at hcm
      exact cleanCs_mem (h2 f hf) c hcm
     ·omega
 ·cases hc
end
section
variable {K N sz n r f i:Nat} {tp ty:TypeId} {get:Nat→List AV} {cs l:List AV} {g:Option Bool} {a:AV}
theorem cleanCs_nil:cleanCs [] = true:=(rfl)
theorem cleanCs_v {x:Value}:cleanCs (.v x :: l) = cleanCs l:=by simp [cleanCs,cleanC]
theorem cleanCs_any:cleanCs (.any :: l) = cleanCs l:=by simp [cleanCs,cleanC]
theorem cleanCs_ro {q:Nat→List AV}:cleanCs (.ro n sz q :: l) = cleanCs l:=by simp [cleanCs,cleanC]
theorem cleanCs_rop:cleanCs (.rop cs :: l) = cleanCs l:=by simp [cleanCs,cleanC]
theorem self_of_clean {c:AV} (h:cleanC c = true):selfC r c = true:=by cases c <;> first | exact h | simp [cleanC] at h
theorem famOK_1 (h:cleanCs cs = true):famOK r (fam1 ty sz cs none) = True:=eq_true fun f => by
 unfold fam1
 by_cases e:f = 0
 ·subst e
  exact ⟨rfl,fun j _ c hc => self_of_clean (cleanCs_mem h c (by simpa using hc))⟩
 ·simp only [e,if_false]
  exact ⟨trivial,fun j hj => by omega⟩
theorem famOK_N (h:∀ i,i < n→cleanCs (get i) = true):famOK r (famN n sz ty get none) = True:=eq_true fun f => by
 unfold famN
 by_cases e:f = 0
 ·subst e
  exact ⟨rfl,fun j hj c hc => self_of_clean (cleanCs_mem (h j (by simpa using hj)) c (by simpa using hc))⟩
 ·simp only [e,if_false]
  exact ⟨trivial,fun j hj => by omega⟩
theorem famOK_T (h:∀ i,i < N→cleanCs (get i) = true):famOK K (famT K N sz tp ty get) = True:=eq_true fun f => by
 cases f with
 | zero =>
  refine ⟨rfl,fun j _ c hc => ?_⟩
  simp only [famT,List.mem_singleton] at hc
  rw [hc]; simp [selfC]
 | succ f =>
  refine ⟨rfl,fun j hj c hc => ?_⟩
  simp only [famT] at hj hc
  split at hj
  ·rename_i hf
   have:j = 0:=by omega
   subst this
   exact self_of_clean (cleanCs_mem (h f hf) c (by simpa using hc))
  ·omega
theorem tabOK_T (h:∀ i,i < N→cleanCs (get i) = true):tabOK K N sz tp ty (famT K N sz tp ty get) = True:=eq_true ⟨fun f => by
 cases f <;> exact ⟨rfl,rfl,rfl,rfl,fun _ _ => rfl⟩,h⟩
theorem famT_get:(famT K N sz tp ty get (i + 1)).get 0 = get i:=(rfl)
theorem famT_n:(famT K N sz tp ty get (i + 1)).n = if i < N then 1 else 0:=(rfl)
theorem famT_sz:(famT K N sz tp ty get (i + 1)).sz = sz:=(rfl)
theorem fam1_get:(fam1 ty sz cs g 0).get i = cs:=(rfl)
theorem fam1_n:(fam1 ty sz cs g 0).n = 1:=(rfl)
theorem fam1_sz:(fam1 ty sz cs g 0).sz = sz:=(rfl)
theorem famN_get:(famN n sz ty get g 0).get i = get i:=(rfl)
theorem famN_n:(famN n sz ty get g 0).n = n:=(rfl)
theorem famN_sz:(famN n sz ty get g 0).sz = sz:=(rfl)
theorem famOK_Es {fam:Fam} (h:famOK r fam) (hc:cleanCs cs = true):famOK r (famE fam f i cs) = True:=eq_true (famOK_E h (cleanCs_mem hc))
theorem wb1_1:wb1 (fam1 ty sz cs g) l = fam1 ty sz l g:=by
 funext f
 unfold wb1 fam1
 by_cases e:f = 0 <;> simp [e]
theorem wb1_N {get:Nat→List AV}:wb1 (famN 1 sz ty get g) l = famN 1 sz ty (fun _ => l) g:=by
 funext f
 unfold wb1 famN
 by_cases e:f = 0 <;> simp [e]
end
attribute [go_sem] cleanCs_nil cleanCs_v cleanCs_any cleanCs_ro cleanCs_rop famOK_1 famOK_N famOK_T famOK_Es famE_n famE_sz famE_g famE_get famE_twice tabOK_T famT_get famT_n famT_sz fam1_get fam1_n fam1_sz famN_get famN_n famN_sz wb1_1 wb1_N famE_T lt_ite tupOf_nil tupOf_one tupOf_two retML_nil retML_cons retMS_some endMR_ret endMR_normal
end Go.Ax
end
section
set_option maxHeartbeats 4000000
set_option maxRecDepth 100000
namespace Go.Ax
open Go.Proofs Go.Proofs.Tryz
def nWh (a:Nb):Nb:=(whV a.1,whF a.1 a.2)
theorem iWh {a:Nb} (h:inR a.1):inR (nWh a).1 = True:=inR_of (whV_rg h)
theorem sum1 {g:Nat→List AV} (h:nums 1 g):(nu (suS (wvS g) 1) (wfS 1 g):AV) = nbA (nWh (gx g 0 0,gb g 1 0)):=by
 have h0:=(h 0 (by omega)).2
 have e1:suS (wvS g) 1 = whV (gx g 0 0):=by simp [suS,wvS]
 have e2:wfS 1 g = whF (gx g 0 0) (gb g 1 0):=by simp [wfS,anyB]
 unfold nu nbA nWh
 rw [e1,e2,ftV_of (whV_rg h0),ftF_of (whV_rg h0)]
 rfl
theorem sum2' {g:Nat→List AV}:(nu (suS (wvS g) 2) (wfS 2 g):AV) = nbA (nAdd (gx g 0 0,gb g 1 0) (gx g 0 1,gb g 1 1)):=by
 have e1:suS (wvS g) 2 = whV (gx g 0 0) + whV (gx g 0 1):=by simp [suS,wvS]
 have e2:wfS 2 g = (whF (gx g 0 0) (gb g 1 0) || whF (gx g 0 1) (gb g 1 1)):=by simp [wfS,anyB]
 unfold nu nbA nAdd
 rw [e1,e2]
def kSum:Con
 | [.ro 1 2 g] => some ([nums 1 g],nbA (nWh (gx g 0 0,gb g 1 0)))
 | [.ro 2 2 g] => some ([nums 2 g],nbA (nAdd (gx g 0 0,gb g 1 0) (gx g 0 1,gb g 1 1)))
 | _ => none
theorem kSum_go {P:Program} {f:FuncId} {c:Con} (hc:ConOK P f c) (h:∀ n g,c [.ro n 2 g] = some ([nums n g,n≤1000],nu (suS (wvS g) n) (wfS n g))):ConOK P f kSum:=fun l ob r he hob => by
 unfold kSum at he
 split at he
 ·rename_i g
  cases he
  have hn:nums 1 g:=hob _ (by simp)
  have:=hc [.ro 1 2 g] _ _ (h 1 g) (owe2 hn (by omega))
  rw [sum1 hn] at this
  exact this
 ·rename_i g
  cases he
  have hn:nums 2 g:=hob _ (by simp)
  have:=hc [.ro 2 2 g] _ _ (h 2 g) (owe2 hn (by omega))
  rw [sum2'] at this
  exact this
 ·cases he
theorem konS179:ConOK prog 179 kSum:=kSum_go con179 fun _ _ => rfl
def kw153:Con
 | [.agg [.v (.int .i64 a),.v (.bool e)],.agg [.v (.int .i64 b),.v (.bool f)]] => some ([inR a,inR b],nbA (nAdd (a,e) (b,f)))
 | _ => none
theorem konw153:ConOK prog 153 kw153:=ConOK.of (G:=[(179,kSum)]) (H:=[]) (.cons konS179 .nil) func153 fun l ob rr hc hob => by
 unfold kw153 at hc
 split at hc
 ·rename_i a e b f
  cases hc
  have h_0:=ob0 hob
  have h_1:=ob1 hob
  refine ⟨by kernel_rfl,fnVC_go (rs:=[.cell 4 24]) rfl rfl ?_⟩
  simp only [go_sem,kSum,iMul,iDiv,iInt,iAdd,iSub,iRat,iDot,iHyp,iSq,iNeg,iPos,iAbs,iMx,iMn,iCl,iWh,iLoc1,iLoc2,iVAdd1,iVAdd2,iVSub1,iVSub2,iScale1,iScale2,iVDot,iVCross,iLen,iOf1,iOf2,iUnit1,iUnit2,h_0,h_1]
  rfl
 ·cases hc
def kw160p:Con
 | [.agg [.v (.int .i64 x),.v (.bool e),.v (.int .i64 y),.v (.bool f)]] => some ([inR x,inR y],veA (nNeg (y,f),nWh (x,e)))
 | _ => none
theorem konw160p:ConOK prog 160 kw160p:=ConOK.of (G:=[(164,k179),(179,kSum)]) (H:=[(1,⟨[(8,.slot 2)],[]⟩)]) (.cons kon179 (.cons konS179 .nil)) func160 fun l ob rr hc hob => by
 unfold kw160p at hc
 split at hc
 ·rename_i x e y f
  cases hc
  have h_0:=ob0 hob
  have h_1:=ob1 hob
  refine ⟨by kernel_rfl,fnVC_go (rs:=[.cell 2 26]) rfl rfl ?_⟩
  simp only [go_sem,k179,kSum,iMul,iDiv,iInt,iAdd,iSub,iRat,iDot,iHyp,iSq,iNeg,iPos,iAbs,iMx,iMn,iCl,iWh,iLoc1,iLoc2,iVAdd1,iVAdd2,iVSub1,iVSub2,iScale1,iScale2,iVDot,iVCross,iLen,iOf1,iOf2,iUnit1,iUnit2,h_0,h_1]
  rfl
 ·cases hc
def vPerp (v:V2):V2:=(nNeg v.2,nWh v.1)
def vTurn (k:Nb) (v:V2):V2:=vScale (vPerp v) k
def vOpp (v:V2):V2:=(nNeg v.1,nNeg v.2)
def kw218:Con
 | [.agg [.v (.int .i64 k),.v (.bool g)],.agg [.v (.int .i64 x),.v (.bool e),.v (.int .i64 y),.v (.bool f)]] => some ([inR k,inR x,inR y],veA (vTurn (k,g) ((x,e),(y,f))))
 | _ => none
theorem konw218:ConOK prog 218 kw218:=ConOK.of (G:=[(160,kw160p),(122,k169)]) (H:=[(1,⟨[(4,.slot 4)],[]⟩)]) (.cons konw160p (.cons kon169 .nil)) func218 fun l ob rr hc hob => by
 unfold kw218 at hc
 split at hc
 ·rename_i k g x e y f
  cases hc
  have h_0:=ob0 hob
  have h_1:=ob1 hob
  have h_2:=ob2 hob
  refine ⟨by kernel_rfl,fnVC_go (rs:=[.cell 4 26]) rfl rfl ?_⟩
  simp only [go_sem,kw160p,k169,iMul,iDiv,iInt,iAdd,iSub,iRat,iDot,iHyp,iSq,iNeg,iPos,iAbs,iMx,iMn,iCl,iWh,iLoc1,iLoc2,iVAdd1,iVAdd2,iVSub1,iVSub2,iScale1,iScale2,iVDot,iVCross,iLen,iOf1,iOf2,iUnit1,iUnit2,h_0,h_1,h_2]
  rfl
 ·cases hc
def kw252o:Con
 | [.agg [.v (.int .i64 x),.v (.bool e),.v (.int .i64 y),.v (.bool f)]] => some ([inR x,inR y],veA (vOpp ((x,e),(y,f))))
 | _ => none
theorem konw252o:ConOK prog 252 kw252o:=ConOK.of (G:=[(164,k179)]) (H:=[(1,⟨[(7,.slot 2)],[]⟩)]) (.cons kon179 .nil) func252 fun l ob rr hc hob => by
 unfold kw252o at hc
 split at hc
 ·rename_i x e y f
  cases hc
  have h_0:=ob0 hob
  have h_1:=ob1 hob
  refine ⟨by kernel_rfl,fnVC_go (rs:=[.cell 2 26]) rfl rfl ?_⟩
  simp only [go_sem,k179,iMul,iDiv,iInt,iAdd,iSub,iRat,iDot,iHyp,iSq,iNeg,iPos,iAbs,iMx,iMn,iCl,iWh,iLoc1,iLoc2,iVAdd1,iVAdd2,iVSub1,iVSub2,iScale1,iScale2,iVDot,iVCross,iLen,iOf1,iOf2,iUnit1,iUnit2,h_0,h_1]
  rfl
 ·cases hc
def limS (x:Nb) (n:Int):Nb:=((nCl x (nInt (-n)) (nInt n)).1,false)
def limV (v:V2):V2:=(limS v.1 256,limS v.2 256)
def kw177:Con
 | [.agg [.v (.int .i64 x),.v (.bool e)],.rop [.v (.int .i64 n)]] => some ([inR x,0≤n∧n≤65536],nbA (limS (x,e) n))
 | _ => none
theorem konw177:ConOK prog 177 kw177:=ConOK.of (G:=[(178,k127),(163,k171)]) (H:=[(1,⟨[(7,.slot 2)],[]⟩)]) (.cons kon127 (.cons kon171 .nil)) func177 fun l ob rr hc hob => by
 unfold kw177 at hc
 split at hc
 ·rename_i x e n
  cases hc
  have h_0:=ob0 hob
  have h_1:=ob1 hob
  refine ⟨by kernel_rfl,fnVC_go (rs:=[.cell 3 24]) rfl rfl ?_⟩
  simp only [go_sem,k127,k171,iMul,iDiv,iInt,iAdd,iSub,iRat,iDot,iHyp,iSq,iNeg,iPos,iAbs,iMx,iMn,iCl,iWh,iLoc1,iLoc2,iVAdd1,iVAdd2,iVSub1,iVSub2,iScale1,iScale2,iVDot,iVCross,iLen,iOf1,iOf2,iUnit1,iUnit2,h_0,h_1]
  intro z hz
  rw [wrap_in (inRo (by omega))] at hz
  subst hz
  have e:(0 - n) = -n:=by omega
  rw [e]
  exact ⟨inRo (by omega),inRo (by omega),rfl⟩
 ·cases hc
def kw239:Con
 | [.agg [.v (.int .i64 x),.v (.bool e)],.rop [.v (.int .i64 n)]] => some ([inR x,0≤n∧n≤65536],nbA (limS (x,e) n))
 | _ => none
theorem konw239:ConOK prog 239 kw239:=ConOK.of (G:=[(178,k127),(163,k171)]) (H:=[(1,⟨[(7,.slot 2)],[]⟩)]) (.cons kon127 (.cons kon171 .nil)) func239 fun l ob rr hc hob => by
 unfold kw239 at hc
 split at hc
 ·rename_i x e n
  cases hc
  have h_0:=ob0 hob
  have h_1:=ob1 hob
  refine ⟨by kernel_rfl,fnVC_go (rs:=[.cell 3 24]) rfl rfl ?_⟩
  simp only [go_sem,k127,k171,iMul,iDiv,iInt,iAdd,iSub,iRat,iDot,iHyp,iSq,iNeg,iPos,iAbs,iMx,iMn,iCl,iWh,iLoc1,iLoc2,iVAdd1,iVAdd2,iVSub1,iVSub2,iScale1,iScale2,iVDot,iVCross,iLen,iOf1,iOf2,iUnit1,iUnit2,h_0,h_1]
  intro z hz
  rw [wrap_in (inRo (by omega))] at hz
  subst hz
  have e:(0 - n) = -n:=by omega
  rw [e]
  exact ⟨inRo (by omega),inRo (by omega),rfl⟩
 ·cases hc
def kw120:Con
 | [.agg [.v (.int .i64 x),.v (.bool e),.v (.int .i64 y),.v (.bool f)],.v (.int .i64 n)] => some ([inR x,inR y,0≤n∧n≤65536],veA (limS (x,e) n,limS (y,f) n))
 | _ => none
theorem konw120:ConOK prog 120 kw120:=ConOK.of (G:=[(177,kw177)]) (H:=[(8,⟨[(16,.slot 7),(19,.slot 7)],[]⟩)]) (.cons konw177 .nil) func120 fun l ob rr hc hob => by
 unfold kw120 at hc
 split at hc
 ·rename_i x e y f n
  cases hc
  have h_0:=ob0 hob
  have h_1:=ob1 hob
  have h_2:=ob2 hob
  refine ⟨by kernel_rfl,fnVC_go (rs:=[.cell 4 26]) rfl rfl ?_⟩
  simp only [go_sem,kw177,iMul,iDiv,iInt,iAdd,iSub,iRat,iDot,iHyp,iSq,iNeg,iPos,iAbs,iMx,iMn,iCl,iWh,iLoc1,iLoc2,iVAdd1,iVAdd2,iVSub1,iVSub2,iScale1,iScale2,iVDot,iVCross,iLen,iOf1,iOf2,iUnit1,iUnit2,h_0,h_1,h_2]
  exact ⟨False.elim,fun _ => ⟨fun _ => rfl,fun h => by cases h⟩⟩
 ·cases hc
def kw176l:Con
 | [.agg [.v (.int .i64 x),.v (.bool e)],.v (.int .i64 n)] => some ([inR x,0≤n∧n≤65536],nbA (limS (x,e) n))
 | _ => none
theorem konw176l:ConOK prog 176 kw176l:=ConOK.of (G:=[(239,kw239)]) (H:=[(8,⟨[(16,.slot 7),(19,.slot 7)],[]⟩)]) (.cons konw239 .nil) func176 fun l ob rr hc hob => by
 unfold kw176l at hc
 split at hc
 ·rename_i x e n
  cases hc
  have h_0:=ob0 hob
  have h_1:=ob1 hob
  refine ⟨by kernel_rfl,fnVC_go (rs:=[.cell 4 24]) rfl rfl ?_⟩
  simp only [go_sem,kw239,iMul,iDiv,iInt,iAdd,iSub,iRat,iDot,iHyp,iSq,iNeg,iPos,iAbs,iMx,iMn,iCl,iWh,iLoc1,iLoc2,iVAdd1,iVAdd2,iVSub1,iVSub2,iScale1,iScale2,iVDot,iVCross,iLen,iOf1,iOf2,iUnit1,iUnit2,h_0,h_1]
  exact ⟨fun _ => rfl,fun h => by cases h⟩
 ·cases hc
def withS (a:Nb) (n:Int):Bool:=!whF a.1 a.2 && decide (-(n * 4294967296)≤a.1∧a.1≤n * 4294967296)
def kw55:Con
 | [] => some ([],.agg [i64 4294967296,bo false])
 | _ => none
theorem konw55:ConOK prog 55 kw55:=ConOK.of (G:=[]) (H:=[]) .nil func55 fun l ob rr hc hob => by
 unfold kw55 at hc
 split at hc
 ·skip
  cases hc
  refine ⟨by kernel_rfl,fnVC_go (rs:=[.cell 0 24]) rfl rfl ?_⟩
  simp only [go_sem,iMul,iDiv,iInt,iAdd,iSub,iRat,iDot,iHyp,iSq,iNeg,iPos,iAbs,iMx,iMn,iCl,iWh,iLoc1,iLoc2,iVAdd1,iVAdd2,iVSub1,iVSub2,iScale1,iScale2,iVDot,iVCross,iLen,iOf1,iOf2,iUnit1,iUnit2]
  skip
 ·cases hc
structure Bd where
 k:Int
 r:Int
 wd:Int
 ht:Int
 n:Nat
 X:Nat→Int
 Y:Nat→Int
 pl:V2
 rot:V2
 v:V2
 w:Nb
 m:Nb
 i:Nb
 st:Int
 sl:Bool
 fa:Bool
 ve:Int
abbrev ptsA (n:Nat) (X Y:Nat→Int):AV:=.ro n 2 fun j => [i64 (X j),i64 (Y j)]
def bodyC (b:Bd):List AV:=[i64 b.k,i64 b.r,i64 b.wd,i64 b.ht,ptsA b.n b.X b.Y,i64 b.pl.1.1,bo b.pl.1.2,i64 b.pl.2.1,bo b.pl.2.2,i64 b.rot.1.1,bo b.rot.1.2,i64 b.rot.2.1,bo b.rot.2.2,
 i64 b.v.1.1,bo b.v.1.2,i64 b.v.2.1,bo b.v.2.2,i64 b.w.1,bo b.w.2,i64 b.m.1,bo b.m.2,i64 b.i.1,bo b.i.2,i64 b.st,bo b.sl,bo b.fa,i64 b.ve]
def roN (cs:List AV) (k:Nat):Nat:=match cs[k]? with
 | some (.ro n _ _) => n
 | _ => 0
def roG (cs:List AV) (k:Nat):Nat→List AV:=match cs[k]? with
 | some (.ro _ _ g) => g
 | _ => fun _ => []
def bodyD (l:List AV):Bd:=
 ⟨gi l 0,gi l 1,gi l 2,gi l 3,roN l 4,gx (roG l 4) 0,gx (roG l 4) 1,((gi l 5,gib l 6),(gi l 7,gib l 8)),((gi l 9,gib l 10),(gi l 11,gib l 12)),((gi l 13,gib l 14),(gi l 15,gib l 16)),(gi l 17,gib l 18),(gi l 19,gib l 20),(gi l 21,gib l 22),gi l 23,gib l 24,gib l 25,gi l 26⟩
theorem bodyD_C (b:Bd):bodyD (bodyC b) = b:=rfl
section
variable {k r wd ht a1 a2 r1 r2 v1 v2 w m i st ve:Int} {n:Nat} {g:Nat→List AV} {f1 f2 s1 s2 u1 u2 fw fm fi sl fa:Bool}
theorem bodyD_lit:bodyD [i64 k,i64 r,i64 wd,i64 ht,.ro n 2 g,i64 a1,bo f1,i64 a2,bo f2,i64 r1,bo s1,i64 r2,bo s2,i64 v1,bo u1,i64 v2,bo u2,i64 w,bo fw,i64 m,bo fm,i64 i,bo fi,i64 st,bo sl,bo fa,i64 ve] =
 ⟨k,r,wd,ht,n,gx g 0,gx g 1,((a1,f1),(a2,f2)),((r1,s1),(r2,s2)),((v1,u1),(v2,u2)),(w,fw),(m,fm),(i,fi),st,sl,fa,ve⟩:=(rfl)
end
theorem gx_pts0 {X Y:Nat→Int}:gx (fun j => [i64 (X j),i64 (Y j)]) 0 = X:=(rfl)
theorem gx_pts1 {X Y:Nat→Int}:gx (fun j => [i64 (X j),i64 (Y j)]) 1 = Y:=(rfl)
theorem bd_eta {b:Bd}:(⟨b.k,b.r,b.wd,b.ht,b.n,b.X,b.Y,b.pl,b.rot,b.v,b.w,b.m,b.i,b.st,b.sl,b.fa,b.ve⟩:Bd) = b:=(rfl)
theorem cleanC_body {b:Bd}:∀ c ∈ bodyC b,cleanC c = true:=fun c hc => by
 simp only [bodyC,List.mem_cons,List.not_mem_nil,or_false] at hc
 rcases hc with h | h | h | h | h | h | h | h | h | h | h | h | h | h | h | h | h | h | h | h | h | h | h | h | h | h | h <;> (rw [h]; rfl)
theorem clean_body {b:Bd}:clean 3 (.agg (bodyC b)) = true:=(rfl)
theorem len_body {b:Bd}:(bodyC b).length = 27:=(rfl)
def inB (b:Bd):Prop:=inR b.k∧inR b.r∧inR b.wd∧inR b.ht∧(∀ j,j < b.n→inR (b.X j)∧inR (b.Y j))∧inR b.pl.1.1∧inR b.pl.2.1∧inR b.rot.1.1∧inR b.rot.2.1∧inR b.v.1.1∧inR b.v.2.1∧inR b.w.1∧inR b.m.1∧inR b.i.1∧inR b.st∧inR b.ve
def cB (F:Bd→List AV→Option (List Prop×AV)):Con
 | .agg l :: rest => match F (bodyD l) rest with
  | some (ob,r) => some ((l = bodyC (bodyD l)) :: ob,r)
  | none => none
 | _ => none
theorem cB_eq {F:Bd→List AV→Option (List Prop×AV)} {l rest:List AV}:cB F (.agg l :: rest) = (match F (bodyD l) rest with
  | some (ob,r) => some ((l = bodyC (bodyD l)) :: ob,r)
  | none => none):=(rfl)
theorem ConOK.cB {P:Program} {G:Ctx} {H:Hots} (hG:CtxOK P G) {f:FuncId} {fn:Func} (hf:P.funcs[f]? = some fn) {F:Bd→List AV→Option (List Prop×AV)}
  (h:∀ b rest ob r,F b rest = some (ob,r)→(∀ p ∈ ob,p)→funcOK P H fn (rest.length + 1) = true∧fnVC P G H fn (.agg (bodyC b) :: rest) (· = r)):ConOK P f (Ax.cB F):=ConOK.of hG hf fun l ob r hc hob => by
 unfold Ax.cB at hc
 split at hc
 ·rename_i l rest
  split at hc
  ·rename_i ob' r' hF
   cases hc
   have e:l = bodyC (bodyD l):=hob _ (by simp)
   obtain ⟨h1,h2⟩:=h _ _ _ _ hF fun p hp => hob p (by simp [hp])
   rw [← e] at h2
   exact ⟨h1,h2⟩
  ·cases hc
 ·cases hc
def cBR (F:Bd→List AV→Option (List Prop×AV)):Con
 | .rop l :: rest => match F (bodyD l) rest with
  | some (ob,r) => some ((l = bodyC (bodyD l)) :: ob,r)
  | none => none
 | _ => none
theorem cBR_eq {F:Bd→List AV→Option (List Prop×AV)} {l rest:List AV}:cBR F (.rop l :: rest) = (match F (bodyD l) rest with
  | some (ob,r) => some ((l = bodyC (bodyD l)) :: ob,r)
  | none => none):=(rfl)
theorem ConOK.cBR {P:Program} {G:Ctx} {H:Hots} (hG:CtxOK P G) {f:FuncId} {fn:Func} (hf:P.funcs[f]? = some fn) {F:Bd→List AV→Option (List Prop×AV)}
  (h:∀ b rest ob r,F b rest = some (ob,r)→(∀ p ∈ ob,p)→funcOK P H fn (rest.length + 1) = true∧fnVC P G H fn (.rop (bodyC b) :: rest) (· = r)):ConOK P f (Ax.cBR F):=ConOK.of hG hf fun l ob r hc hob => by
 unfold Ax.cBR at hc
 split at hc
 ·rename_i l rest
  split at hc
  ·rename_i ob' r' hF
   cases hc
   have e:l = bodyC (bodyD l):=hob _ (by simp)
   obtain ⟨h1,h2⟩:=h _ _ _ _ hF fun p hp => hob p (by simp [hp])
   rw [← e] at h2
   exact ⟨h1,h2⟩
  ·cases hc
 ·cases hc
def bodyR (b:Bd):List AV:=bodyC b
def mB (F:Bd→List AV→Option (List Prop×Bd)):MCon:=mc1 27 fun l rest => match F (bodyD l) rest with
 | some (ob,b) => some ((l = bodyC (bodyD l)) :: ob,.tup [],bodyC b)
 | none => none
theorem MConOK.mB {P:Program} {G:Ctx} {H:Hots} (hG:CtxOK P G) {f:FuncId} {fn:Func} (hf:P.funcs[f]? = some fn) {F:Bd→List AV→Option (List Prop×Bd)}
  (h:∀ b rest ob b',F b rest = some (ob,b')→(∀ p ∈ ob,p)→(∀ a ∈ rest,clean 3 a = true)∧funcOK P H fn (rest.length + 1) = true ∧
   ∀ (fam:Fam) (f i:Nat),i < (fam f).n→27 = (fam f).sz→(∀ f,(fam f).g = none)→famOK 0 fam→bodyM P G H fn (.ptr 0 f i 27 0 :: rest) [(0,famE fam f i (bodyC b))] 1 fun a m1 => a = .tup []∧look m1 0 = some (famE fam f i (bodyR b'))):MConOK P f (Ax.mB F):=by
 refine MConOK.mc1 (H:=H) hG hf fun cells rest ob val cs hF hob => ?_
 split at hF
 ·rename_i ob' b' hF'
  cases hF
  have e:cells = bodyC (bodyD cells):=hob _ (by simp)
  obtain ⟨h1,h2,h3⟩:=h _ _ _ _ hF' fun p hp => hob p (by simp [hp])
  refine ⟨h1,rfl,cleanC_body,h2,fun fam f i k1 k2 k3 k4 => ?_⟩
  have:=h3 fam f i k1 k2 k3 k4
  rw [← e] at this
  exact this
 ·cases hF
def mbQ (r:Nat) (fam fam':Bd→Fam) (pre:List Prop):Option (List Prop×Bd)→Option Eff
 | some (ob,b) => some ⟨pre ++ ob,.tup [],.many [(r,fam' b)] none⟩
 | none => none
def mbP (F:Bd→List AV→Option (List Prop×Bd)) (r f i sz:Nat) (rest:List AV):Option Fam→Option Eff
 | some fam => mbQ r (fun _ => fam) (fun b => famE fam f i (bodyC b)) [i < (fam f).n,sz = 27,27 = (fam f).sz,cleanCs ((fam f).get i) = true,famOK r fam,(fam f).get i = bodyC (bodyD ((fam f).get i))] (F (bodyD ((fam f).get i)) rest)
 | none => none
def mbB (F:Bd→List AV→Option (List Prop×Bd)) (r:Nat) (rest:List AV):Option Fam→Option Eff
 | some fam => mbQ r (fun _ => fam) (fun b => wb1 fam (bodyC b)) [(fam 0).n = 1,27 = (fam 0).sz,cleanCs ((fam 0).get 0) = true,famOK r fam,(fam 0).get 0 = bodyC (bodyD ((fam 0).get 0))] (F (bodyD ((fam 0).get 0)) rest)
 | none => none
theorem mbP_some {F:Bd→List AV→Option (List Prop×Bd)} {r f i sz:Nat} {rest:List AV} {fam:Fam}:mbP F r f i sz rest (some fam) = mbQ r (fun _ => fam) (fun b => famE fam f i (bodyC b)) [i < (fam f).n,sz = 27,27 = (fam f).sz,cleanCs ((fam f).get i) = true,famOK r fam,(fam f).get i = bodyC (bodyD ((fam f).get i))] (F (bodyD ((fam f).get i)) rest):=(rfl)
theorem mbB_some {F:Bd→List AV→Option (List Prop×Bd)} {r:Nat} {rest:List AV} {fam:Fam}:mbB F r rest (some fam) = mbQ r (fun _ => fam) (fun b => wb1 fam (bodyC b)) [(fam 0).n = 1,27 = (fam 0).sz,cleanCs ((fam 0).get 0) = true,famOK r fam,(fam 0).get 0 = bodyC (bodyD ((fam 0).get 0))] (F (bodyD ((fam 0).get 0)) rest):=(rfl)
theorem mB_ptr {F:Bd→List AV→Option (List Prop×Bd)} {key:Nat} {m:Mem} {r f i sz:Nat} {rest:List AV}:mB F key m (.ptr r f i sz 0 :: rest) = mbP F r f i sz rest (look m r):=by
 show (match look m r with
  | some fam => (match (match F (bodyD ((fam f).get i)) rest with
    | some (ob,b) => some (((fam f).get i = bodyC (bodyD ((fam f).get i))) :: ob,AV.tup [],bodyC b)
    | none => none) with
   | some (ob,val,cs) => some (⟨(i < (fam f).n) :: (sz = 27) :: (27 = (fam f).sz) :: (cleanCs ((fam f).get i) = true) :: famOK r fam :: ob,val,.many [(r,famE fam f i cs)] none⟩:Eff)
   | none => none)
  | none => none) = _
 generalize look m r = x
 cases x with
 | none => rfl
 | some fam =>
  unfold mbP
  dsimp only
  generalize F (bodyD ((fam f).get i)) rest = y
  cases y <;> rfl
theorem mB_bx {F:Bd→List AV→Option (List Prop×Bd)} {key:Nat} {m:Mem} {r:Nat} {rest:List AV}:mB F key m (.bx r 0 :: rest) = mbB F r rest (look m r):=by
 show (match look m r with
  | some fam => (match (match F (bodyD ((fam 0).get 0)) rest with
    | some (ob,b) => some (((fam 0).get 0 = bodyC (bodyD ((fam 0).get 0))) :: ob,AV.tup [],bodyC b)
    | none => none) with
   | some (ob,val,cs) => some (⟨((fam 0).n = 1) :: (27 = (fam 0).sz) :: (cleanCs ((fam 0).get 0) = true) :: famOK r fam :: ob,val,.many [(r,wb1 fam cs)] none⟩:Eff)
   | none => none)
  | none => none) = _
 generalize look m r = x
 cases x with
 | none => rfl
 | some fam =>
  unfold mbB
  dsimp only
  generalize F (bodyD ((fam 0).get 0)) rest = y
  cases y <;> rfl
section
variable {P:Program} {G:Ctx} {H:Hots} {K0:AEx→St→Prop} {hot:Option Hot} {ops:Array Oper} {d:Option Tmp} {rest:List Oper} {i:Nat} {st:List Fr} {t:Slots} {m:Mem} {nx r:Nat} {fam fam':Bd→Fam} {o pre ob:List Prop} {b:Bd}
theorem stepC_mbQ:stepC P G H K0 hot ops d rest i st t m nx (withOb o (bndE (aMut none (mbQ r fam fam' pre (some (ob,b)))))) = (∀ b',b' = b→stepC P G H K0 hot ops d rest i st t m nx (withOb o (some ⟨pre ++ ob,.tup [],.many [(r,fam' b')] none⟩))):=by
 rw [bndE_eq]
 apply propext
 constructor
 ·rintro h b' rfl; exact h
 ·intro h; exact h b rfl
end
theorem iLim {x:Nb} {n:Int} (h:inR x.1):inR (limS x n).1 = True:=by
 refine inR_of ?_
 have h1:=whV_rg h
 have h2:=whV_rg (rg_inR (ftV_rg (-n * 4294967296)))
 have h3:=whV_rg (rg_inR (ftV_rg (n * 4294967296)))
 unfold limS nCl nInt rg at *
 dsimp only
 omega
theorem inB_push {b:Bd} (h:inB b) {v:V2} {w:Nb} (h1:inR v.1.1) (h2:inR v.2.1) (h3:inR w.1):inB { b with v:=v,w:=w }:=by
 obtain ⟨b1,b2,b3,b4,b5,b6,b7,b8,b9,b10,b11,b12,b13,b14,b15,b16⟩:=h
 exact ⟨b1,b2,b3,b4,b5,b6,b7,b8,b9,h1,h2,h3,b13,b14,b15,b16⟩
def boA (b:Bd):AV:=.agg (bodyC b)
theorem plain_boA {b:Bd}:plain 3 (boA b) = false:=(rfl)
section
variable {P:Program} {G:Ctx} {H:Hots} {K0:AEx→St→Prop} {hot:Option Hot} {ops:Array Oper} {d:Option Tmp} {rest:List Oper} {i:Nat} {st:List Fr} {t:Slots} {m:Mem} {nx:Nat} {o:List Prop} {u:Upd} {b:Bd}
theorem bindC_bbx {r k:Nat}:bindC P G H K0 hot ops d rest i st t m nx o u (bnd (.bx r k)) = bindC P G H K0 hot ops d rest i st t m nx o u (.bx r k):=(rfl)
theorem bindC_bptr {r f j sz k:Nat}:bindC P G H K0 hot ops d rest i st t m nx o u (bnd (.ptr r f j sz k)) = bindC P G H K0 hot ops d rest i st t m nx o u (.ptr r f j sz k):=(rfl)
theorem bindC_bown {r f n sz:Nat}:bindC P G H K0 hot ops d rest i st t m nx o u (bnd (.own r f n sz)) = bindC P G H K0 hot ops d rest i st t m nx o u (.own r f n sz):=(rfl)
theorem bindC_bnilP {x:Option Addr}:bindC P G H K0 hot ops d rest i st t m nx o u (bnd (.v (.pointer x))) = bindC P G H K0 hot ops d rest i st t m nx o u (.v (.pointer x)):=(rfl)
theorem bindL_bx {tag:Bool} {l cs:List AV} {r k:Nat}:bindL P G H K0 hot ops d rest i st t m nx o u tag l (.bx r k :: cs) = bindL P G H K0 hot ops d rest i st t m nx o u tag (l ++ [.bx r k]) cs:=bindL_skip
theorem bindL_ptr {tag:Bool} {l cs:List AV} {r f j sz k:Nat}:bindL P G H K0 hot ops d rest i st t m nx o u tag l (.ptr r f j sz k :: cs) = bindL P G H K0 hot ops d rest i st t m nx o u tag (l ++ [.ptr r f j sz k]) cs:=bindL_skip
theorem bindL_own {tag:Bool} {l cs:List AV} {r f n sz:Nat}:bindL P G H K0 hot ops d rest i st t m nx o u tag l (.own r f n sz :: cs) = bindL P G H K0 hot ops d rest i st t m nx o u tag (l ++ [.own r f n sz]) cs:=bindL_skip
theorem bindL_nilP {tag:Bool} {l cs:List AV} {x:Option Addr}:bindL P G H K0 hot ops d rest i st t m nx o u tag l (.v (.pointer x) :: cs) = bindL P G H K0 hot ops d rest i st t m nx o u tag (l ++ [.v (.pointer x)]) cs:=bindL_skip
theorem bindC_boA:bindC P G H K0 hot ops d rest i st t m nx o u (bnd (boA b)) = (∀ b',b' = b→bindC P G H K0 hot ops d rest i st t m nx o u (.agg (bodyC b'))):=by
 apply propext
 constructor
 ·rintro h b' rfl; exact h
 ·intro h; exact h b rfl
end
attribute [go_sem] plain_boA bindC_boA bindC_bbx bindC_bptr bindC_bown bindC_bnilP bindL_bx bindL_ptr bindL_own bindL_nilP
def mvS (b:Bd):Bool:=!(b.m.1 == 0 && b.i.1 == 0)
def idS (b:Bd):Bool:=!mvS b || b.sl || b.fa
def kw26:Con:=cB fun b rest => match rest with
 | [] => some ([inR b.m.1,inR b.i.1],bo (mvS b))
 | _ => none
theorem konw26:ConOK prog 26 kw26:=ConOK.cB (G:=[]) (H:=[]) .nil func26 fun b rest ob r hc hob => by
 split at hc
 ·cases hc
  refine ⟨by kernel_rfl,fnVC_go (rs:=[.tmp 2]) rfl rfl ?_⟩
  simp only [bodyC,go_sem]
  unfold mvS
  cases h1:b.m.1 == 0 <;> cases h2:b.i.1 == 0 <;> simp_all [bne]
 ·cases hc
def kw67:Con:=cB fun b rest => match rest with
 | [] => some ([inR b.m.1,inR b.i.1],bo (idS b))
 | _ => none
theorem konw67:ConOK prog 67 kw67:=ConOK.cB (G:=[(26,kw26)]) (H:=[]) (.cons konw26 .nil) func67 fun b rest ob r hc hob => by
 split at hc
 ·cases hc
  refine ⟨by kernel_rfl,fnVC_go (rs:=[.tmp 2]) rfl rfl ?_⟩
  have h0:inR b.m.1:=hob _ (by simp)
  have h1:inR b.i.1:=hob _ (by simp)
  simp only [bodyC,go_sem,kw26,cB_eq,bodyD_lit,gx_pts0,gx_pts1,etaN,etaV,bd_eta,h0,h1]
  simp only [forall_eq,true_and]
  rfl
 ·cases hc
def kw175:Con:=cBR fun b rest => match rest with
 | [.agg [.v (.int .i64 x),.v (.bool e),.v (.int .i64 y),.v (.bool f)]] => some ([inR b.pl.1.1,inR b.pl.2.1,inR x,inR y],veA (vSub ((x,e),(y,f)) b.pl))
 | _ => none
theorem konw175:ConOK prog 175 kw175:=ConOK.cBR (G:=[(157,k172)]) (H:=[(1,⟨[(8,.slot 4)],[]⟩)]) (.cons kon172 .nil) func175 fun b rest ob r hc hob => by
 split at hc
 ·rename_i x e y f
  cases hc
  have h0:inR b.pl.1.1:=hob _ (by simp)
  have h1:inR b.pl.2.1:=hob _ (by simp)
  have h2:inR x:=hob _ (by simp)
  have h3:inR y:=hob _ (by simp)
  refine ⟨by kernel_rfl,fnVC_go (rs:=[.cell 4 26]) rfl rfl ?_⟩
  simp only [bodyC,go_sem,k172,h0,h1,h2,h3]
  rfl
 ·cases hc
def wakS (b:Bd):Bd:=if mvS b && !b.fa then { b with sl:=false,st:=0 } else b
def kw134:MCon:=mB fun b rest => match rest with
 | [] => some ([inB b],wakS b)
 | _ => none
theorem konw134:MConOK prog 134 kw134:=MConOK.mB (G:=[(26,kw26)]) (H:=[]) (.cons konw26 .nil) func134 fun b rest ob r hc hob => by
 split at hc
 ·cases hc
  refine ⟨by simp,by kernel_rfl,fun fam f i hi hsz hg hk => bodyM_go (rs:=[]) rfl rfl ?_⟩
  have hb:inB b:=hob _ (by simp)
  obtain ⟨b1,b2,b3,b4,b5,b6,b7,b8,b9,b10,b11,b12,b13,b14,b15,b16⟩:=hb
  simp only [bodyC,go_sem,kw26,cB_eq,bodyD_lit,gx_pts0,gx_pts1,etaN,etaV,bd_eta,hi,hg,hk,← hsz,b13,b14]
  simp only [forall_eq,true_and,implies_true]
  refine ⟨fun h => ?_,fun h => ?_⟩
  ·have e:wakS b = { b with sl:=false,st:=0 }:=if_pos (by simp [h])
   rw [e,bodyR]; rfl
  ·have e:wakS b = b:=if_neg (by simp only [h]; simp)
   rw [e,bodyR]; rfl
 ·cases hc
def shfS (b:Bd) (p:V2):Bd:=if !idS b && (withS p.1 4096 && withS p.2 4096) then { b with pl:=p } else b
def kw123:Con
 | [.v (.int .i64 n),.ro 1 2 g] => some ([nums 1 g,0≤n∧n≤65536],bo (withS (gx g 0 0,gb g 1 0) n))
 | [.v (.int .i64 n),.ro 2 2 g] => some ([nums 2 g,0≤n∧n≤65536],bo (withS (gx g 0 0,gb g 1 0) n && withS (gx g 0 1,gb g 1 1) n))
 | _ => none
theorem vc123 (m:Nat) (hm:m≤1000) (n:Int) (hn:0≤n∧n≤65536) (X:Nat→Int) (E:Nat→Bool) (hX:∀ i,i < m→inR (X i)):fnVC prog [(179,kSum)] [] Tryz.f123 [.v (.int .i64 n),.ro m 2 fun i => [i64 (X i),bo (E i)]] (· = bo (decide (∀ i,i < m→withS (X i,E i) n = true))):=by
 refine fnVC_go (rs:=[.tmp 4]) rfl rfl ?_
 simp only [go_sem,kSum]
 refine loopC_go (fun (i:Nat) => i≤m∧∀ j,j < i→withS (X j,E j) n = true) (fun i => m - i) (fun i => [(9,i64 (i:Int))]) (fun _ => []) [] [10,11,12,6,13,14,15,16,17,18,19,20,21,22,23,24,25,26,27,28,4,29,9] 0 (by kernel_rfl) ?_ ⟨Nat.zero_le _,fun j hj => by omega⟩ ?_ ?_
 ·intro x _; simp [goodNames,asg]
 ·simp only [go_sem]
 intro i hi
 simp only [go_sem,kSum]
 have hw:IntKind.i64.wrap (n * 4294967296) = n * 4294967296:=wrap_in (inRo (by omega))
 refine ⟨fun h => ⟨by omega,h,hX i (by omega),fun z hz z1 hz1 z2 hz2 => ?_⟩,fun h => ?_⟩
 ·have hi':i < m:=by omega
  have hx:=hX i hi'
  have key:withS (X i,E i) n = true ↔ (nWh (X i,E i)).2 = false∧¬ z2 < z1:=by
   rw [hw] at hz2
   have hwr:=whV_rg hx
   unfold rg at hwr
   have e0:(nWh (X i,E i)).1 = whV (X i):=rfl
   have e1:(nWh (X i,E i)).2 = whF (X i) (E i):=rfl
   rw [e0] at hz hz1
   rw [wrap_in (inRo (by omega))] at hz
   unfold withS
   rw [e1]
   cases hf:whF (X i) (E i) with
   | true => simp
   | false =>
    have hne:¬ X i = -9223372036854775808:=by
     intro e; unfold whF at hf; simp [e] at hf
    have ev:whV (X i) = X i:=by unfold whV; rw [if_neg hne]
    rw [ev] at hz hz1
    simp only [Bool.not_false,Bool.true_and,decide_eq_true_eq,true_and]
    omega
  refine ⟨fun hb => ?_,fun hb z3 hz3 => ⟨i + 1,⟨by omega,fun j hj => ?_⟩,by omega,by rw [hz3,wrap_in (inRo (by omega))]; rfl⟩⟩
  ·refine (decide_eq_false fun hc => ?_).symm
   have:=key.1 (hc i hi')
   rcases hb with hb | hb
   ·rw [this.1] at hb; cases hb
   ·exact this.2 hb
  ·by_cases e:j = i
   ·subst e; exact key.2 hb
   ·exact hi.2 j (by omega)
 ·exact (decide_eq_true fun j hj => hi.2 j (by omega)).symm
theorem dec_lt1 {p:Nat→Bool}:decide (∀ i:Nat,i < 1→p i = true) = p 0:=by
 cases h:p 0
 ·refine decide_eq_false fun hc => ?_
  rw [hc 0 (by omega)] at h; cases h
 ·refine decide_eq_true fun i hi => ?_
  have:i = 0:=by omega
  subst this; exact h
theorem dec_lt2 {p:Nat→Bool}:decide (∀ i:Nat,i < 2→p i = true) = (p 0 && p 1):=by
 cases h:p 0
 ·refine decide_eq_false fun hc => ?_
  rw [hc 0 (by omega)] at h; cases h
 ·cases h1:p 1
  ·refine decide_eq_false fun hc => ?_
   rw [hc 1 (by omega)] at h1; cases h1
  ·refine decide_eq_true fun i hi => ?_
   match i with
   | 0 => exact h
   | 1 => exact h1
   | i + 2 => omega
theorem konw123:ConOK prog 123 kw123:=ConOK.go (G:=[(179,kSum)]) (H:=[]) (.cons konS179 .nil) func123 fun l ob rr hc hob => by
 unfold kw123 at hc
 split at hc
 ·rename_i n g
  cases hc
  have hg:nums 1 g:=hob _ (by simp)
  refine ⟨[.v (.int .i64 n),.ro 1 2 fun i => [i64 (gx g 0 i),bo (gb g 1 i)]],fun w I vs h => ?_,by kernel_rfl,?_⟩
  ·exact Rs_two (fun v hv => hv) (fun v hv => ro_alike (fun i hi => (hg i hi).1) hv) h
  ·have:=vc123 1 (by omega) n (hob _ (by simp)) (gx g 0) (gb g 1) fun i hi => (hg i hi).2
   rw [dec_lt1] at this
   exact this
 ·rename_i n g
  cases hc
  have hg:nums 2 g:=hob _ (by simp)
  refine ⟨[.v (.int .i64 n),.ro 2 2 fun i => [i64 (gx g 0 i),bo (gb g 1 i)]],fun w I vs h => ?_,by kernel_rfl,?_⟩
  ·exact Rs_two (fun v hv => hv) (fun v hv => ro_alike (fun i hi => (hg i hi).1) hv) h
  ·have:=vc123 2 (by omega) n (hob _ (by simp)) (gx g 0) (gb g 1) fun i hi => (hg i hi).2
   rw [dec_lt2] at this
   exact this
 ·cases hc
def kw156:MCon:=mB fun b rest => match rest with
 | [.agg [.v (.int .i64 x),.v (.bool e),.v (.int .i64 y),.v (.bool f)]] => some ([inB b,inR x,inR y],shfS b ((x,e),(y,f)))
 | _ => none
theorem konw156:MConOK prog 156 kw156:=MConOK.mB (G:=[(67,kw67),(123,kw123)]) (H:=[]) (.cons konw67 (.cons konw123 .nil)) func156 fun b rest ob r hc hob => by
 split at hc
 ·rename_i x e y f
  cases hc
  refine ⟨by simp [clean],by kernel_rfl,fun fam f' i hi hsz hg hk => bodyM_go (rs:=[]) rfl rfl ?_⟩
  have hb:inB b:=hob _ (by simp)
  have h1:inR x:=hob _ (by simp)
  have h2:inR y:=hob _ (by simp)
  obtain ⟨b1,b2,b3,b4,b5,b6,b7,b8,b9,b10,b11,b12,b13,b14,b15,b16⟩:=hb
  simp only [bodyC,go_sem,kw67,kw123,cB_eq,bodyD_lit,gx_pts0,gx_pts1,etaN,etaV,bd_eta,hi,hg,hk,← hsz,b13,b14,nums_rows,gx_rows1,gx_rows2,gb_rows1,gb_rows2,h1,h2]
  simp only [forall_eq,true_and,implies_true]
  refine ⟨fun h => ?_,fun h => ?_⟩
  ·have e:shfS b ((x,e),(y,f)) = { b with pl:=((x,e),(y,f)) }:=if_pos (by simp [h])
   rw [e,bodyR]; rfl
  ·have e:shfS b ((x,e),(y,f)) = b:=if_neg (by rw [h]; simp)
   rw [e,bodyR]; rfl
 ·cases hc
def pshS (b:Bd) (p j:V2):Bd:=if !mvS b || b.fa then b else
 let c:Bd:={ b with v:=limV (vAdd b.v (vScale j b.m)),w:=limS (nAdd b.w (nMul b.i (vCross (vSub p b.pl) j))) 64 }
 if b.sl then wakS c else c
def kw115:MCon:=mB fun b rest => match rest with
 | [.agg [.v (.int .i64 x),.v (.bool e),.v (.int .i64 y),.v (.bool f)],.agg [.v (.int .i64 z),.v (.bool g),.v (.int .i64 u),.v (.bool h)]] => some ([inB b,inR x,inR y,inR z,inR u],pshS b ((x,e),(y,f)) ((z,g),(u,h)))
 | _ => none
theorem konw115:MConOK prog 115 kw115:=MConOK.mB (G:=[(26,kw26),(175,kw175),(174,k250),(125,k129),(122,k169),(121,k130),(120,kw120),(153,kw153),(176,kw176l),(134,.wr kw134)]) (H:=[(2,⟨[(13,.made 12)],[]⟩),(3,⟨[(20,.slot 0)],[]⟩),(4,⟨[(12,.slot 0)],[]⟩)]) (.cons konw26 (.cons konw175 (.cons kon250 (.cons kon129 (.cons kon169 (.cons kon130 (.cons konw120 (.cons konw153 (.cons konw176l (.mcons konw134 .nil)))))))))) func115 fun b rest ob r hc hob => by
 split at hc
 ·rename_i x e y f z g u h
  cases hc
  refine ⟨by simp [clean],by kernel_rfl,fun fam f' i hi hsz hg hk => bodyM_go (rs:=[]) rfl rfl ?_⟩
  have hb:inB b:=hob _ (by simp)
  have h1:inR x:=hob _ (by simp)
  have h2:inR y:=hob _ (by simp)
  have h3:inR z:=hob _ (by simp)
  have h4:inR u:=hob _ (by simp)
  obtain ⟨b1,b2,b3,b4,b5,b6,b7,b8,b9,b10,b11,b12,b13,b14,b15,b16⟩:=hb
  simp only [bodyC,go_sem,kw26,kw175,k250,k129,k169,k130,kw120,kw153,kw176l,kw134,cB_eq,cBR_eq,bodyD_lit,gx_pts0,gx_pts1,etaN,etaV,bd_eta,mB_ptr,mbP_some,stepC_mbQ,hi,hg,hk,← hsz,b1,b2,b3,b4,b6,b7,b8,b9,b10,b11,b12,b13,b14,b15,b16,vecs_rows,gx4_1,gx4_2,gx4_3,gx4_4,gb4_1,gb4_2,gb4_3,gb4_4,nums_rows,gx_rows1,gx_rows2,gb_rows1,gb_rows2,iMul,iAdd,iDot,iVCross,iVSub1,iVSub2,iVAdd1,iVAdd2,iScale1,iScale2,h1,h2,h3,h4]
  intro z1 hz1
  subst hz1
  simp only [true_and,implies_true]
  have hc0:∀ v:V2,∀ w:Nb,inR v.1.1→inR v.2.1→inR w.1→inB { b with v:=v,w:=w }:=fun v w q1 q2 q3 => inB_push (hob _ (by simp)) q1 q2 q3
  refine ⟨fun hh => ?_,fun hh => ⟨fun hs b' hb' => ⟨hc0 _ _ (of_eq_true (iLim (of_eq_true iVAdd1))) (of_eq_true (iLim (of_eq_true iVAdd2))) (of_eq_true (iLim (of_eq_true iAdd))),?_⟩,fun hs => ?_⟩⟩
  ·have e:pshS b ((x,e),(y,f)) ((z,g),(u,h)) = b:=if_pos (by simpa using hh)
   rw [e,bodyR]; rfl
  ·have e:pshS b ((x,e),(y,f)) ((z,g),(u,h)) = b':=by
    rw [hb']
    unfold pshS
    rw [if_neg (by simp [hh]),if_pos hs]
    rfl
   rw [e,bodyR]; rfl
  ·have e:pshS b ((x,e),(y,f)) ((z,g),(u,h)) = { b with v:=limV (vAdd b.v (vScale ((z,g),(u,h)) b.m)),w:=limS (nAdd b.w (nMul b.i (vCross (vSub ((x,e),(y,f)) b.pl) ((z,g),(u,h))))) 64 }:=by
    unfold pshS
    rw [if_neg (by simp [hh]),if_neg (by simp [hs])]
   rw [e,bodyR]; rfl
 ·cases hc
theorem iTurn1 {k:Nb} {v:V2}:inR (vTurn k v).1.1 = True:=iMul
theorem iTurn2 {k:Nb} {v:V2}:inR (vTurn k v).2.1 = True:=iMul
attribute [go_sem] iTurn1 iTurn2
theorem spots_can {n:Nat} {X Y:Nat→Int}:spots n (fun j => [i64 (X j),i64 (Y j)]) = (∀ j,j < n→inR (X j)∧inR (Y j)):=propext ⟨fun h j hj => (h j hj).2,fun h j hj => ⟨rfl,h j hj⟩⟩
theorem byt101:bytesT prog 101 = 16:=by kernel_rfl
theorem vc237 (k r w t:Int) (n:Nat) (X Y:Nat→Int) (hn:n≤1000):fnVC prog [] [] Tryz.f237 [shapeA k r w t n fun i => [i64 (X i),i64 (Y i)]] (· = shapeA k r w t n fun i => [i64 (X i),i64 (Y i)]):=by
 refine fnVC_go (rs:=[.cell 2 49]) rfl rfl ?_
 simp only [go_sem]
 exact ⟨fun _ _ => rfl,by rw [byt101]; omega,by omega⟩
def c237:Con
 | [.agg [.v (.int .i64 k),.v (.int .i64 r),.v (.int .i64 w),.v (.int .i64 t),.ro n 2 g]] => some ([spots n g,n≤1000],.agg [i64 k,i64 r,i64 w,i64 t,.ro n 2 fun i => [i64 (gx g 0 i),i64 (gx g 1 i)]])
 | _ => none
theorem con237:ConOK prog 237 c237:=ConOK.go (G:=[]) (H:=[]) .nil func237 fun l ob rr hc hob => by
 unfold c237 at hc
 split at hc
 ·rename_i k r w t n g
  cases hc
  have h_0:=ob0 hob
  have h_1:=ob1 hob
  exact ⟨[shapeA k r w t n fun i => [i64 (gx g 0 i),i64 (gx g 1 i)]],fun w I vs h => Rs_one (Rs_shape h_0) h,by kernel_rfl,vc237 k r w t n _ _ h_1⟩
 ·cases hc
theorem vc168 (k r w t:Int) (n:Nat) (X Y:Nat→Int) (hn:n≤1000):fnVC prog [] [] Tryz.f168 [shapeA k r w t n fun i => [i64 (X i),i64 (Y i)]] (· = shapeA k r w t n fun i => [i64 (X i),i64 (Y i)]):=by
 refine fnVC_go (rs:=[.cell 2 49]) rfl rfl ?_
 simp only [go_sem,Nat.zero_add,Nat.not_lt_zero,if_false,Nat.sub_zero]
 exact ⟨fun _ _ => rfl,by rw [byt101]; omega,by omega⟩
def c168:Con
 | [.agg [.v (.int .i64 k),.v (.int .i64 r),.v (.int .i64 w),.v (.int .i64 t),.ro n 2 g]] => some ([spots n g,n≤1000],.agg [i64 k,i64 r,i64 w,i64 t,.ro n 2 fun i => [i64 (gx g 0 i),i64 (gx g 1 i)]])
 | _ => none
theorem con168:ConOK prog 168 c168:=ConOK.go (G:=[]) (H:=[]) .nil func168 fun l ob rr hc hob => by
 unfold c168 at hc
 split at hc
 ·rename_i k r w t n g
  cases hc
  have h_0:=ob0 hob
  have h_1:=ob1 hob
  exact ⟨[shapeA k r w t n fun i => [i64 (gx g 0 i),i64 (gx g 1 i)]],fun w I vs h => Rs_one (Rs_shape h_0) h,by kernel_rfl,vc168 k r w t n _ _ h_1⟩
 ·cases hc
def kb173:Con:=cB fun b rest => match rest with
 | [] => some ([inB b,b.n≤1000],boA b)
 | _ => none
theorem konb173:ConOK prog 173 kb173:=ConOK.cB (G:=[(237,c237)]) (H:=[]) (.cons con237 .nil) func173 fun b rest ob r hc hob => by
 split at hc
 ·skip
  cases hc
  have h_0:=ob0 hob
  have h_1:=ob1 hob
  obtain ⟨b1,b2,b3,b4,b5,b6,b7,b8,b9,b10,b11,b12,b13,b14,b15,b16⟩:=h_0
  have hb:inB b:=hob _ (by simp)
  refine ⟨by kernel_rfl,fnVC_go (rs:=[.cell 2 57]) rfl rfl ?_⟩
  simp only [bodyC,go_sem,c237,cB_eq,cBR_eq,bodyD_lit,gx_pts0,gx_pts1,spots_can,etaN,etaV,bd_eta,b1,b2,b3,b4,b6,b7,b8,b9,b10,b11,b12,b13,b14,b15,b16,hb,h_1]
  simp only [forall_eq]
  exact ⟨b5,rfl⟩
 ·cases hc
def spdS (b:Bd) (p:V2):V2:=vAdd b.v (vTurn b.w (vSub p b.pl))
def hftS (b:Bd) (p n:V2):Nb:=nAdd b.m (nMul b.i (nMul (vCross (vSub p b.pl) n) (vCross (vSub p b.pl) n)))
def kb150:Con:=cBR fun b rest => match rest with
 | [.agg [.v (.int .i64 x),.v (.bool e),.v (.int .i64 y),.v (.bool f)]] => some ([inB b,inR x,inR y],veA (spdS b ((x,e),(y,f))))
 | _ => none
theorem konb150:ConOK prog 150 kb150:=ConOK.cBR (G:=[(175,kw175),(218,kw218),(121,k130)]) (H:=[(1,⟨[(16,.slot 4)],[]⟩)]) (.cons konw175 (.cons konw218 (.cons kon130 .nil))) func150 fun b rest ob r hc hob => by
 split at hc
 ·rename_i x e y f
  cases hc
  have h_0:=ob0 hob
  have h_1:=ob1 hob
  have h_2:=ob2 hob
  obtain ⟨b1,b2,b3,b4,b5,b6,b7,b8,b9,b10,b11,b12,b13,b14,b15,b16⟩:=h_0
  have hb:inB b:=hob _ (by simp)
  refine ⟨by kernel_rfl,fnVC_go (rs:=[.cell 4 26]) rfl rfl ?_⟩
  simp only [bodyC,go_sem,kw175,kw218,k130,cB_eq,cBR_eq,bodyD_lit,gx_pts0,gx_pts1,spots_can,etaN,etaV,bd_eta,b1,b2,b3,b4,b6,b7,b8,b9,b10,b11,b12,b13,b14,b15,b16,hb,h_1,h_2]
  rfl
 ·cases hc
def kb151:Con:=cBR fun b rest => match rest with
 | [.agg [.v (.int .i64 x),.v (.bool e),.v (.int .i64 y),.v (.bool f)],.agg [.v (.int .i64 z),.v (.bool g),.v (.int .i64 u),.v (.bool h)]] => some ([inB b,inR x,inR y,inR z,inR u],nbA (hftS b ((x,e),(y,f)) ((z,g),(u,h))))
 | _ => none
theorem konb151:ConOK prog 151 kb151:=ConOK.cBR (G:=[(175,kw175),(174,k250),(125,k129),(153,kw153)]) (H:=[(1,⟨[(6,.made 5)],[]⟩),(2,⟨[(17,.slot 6)],[]⟩)]) (.cons konw175 (.cons kon250 (.cons kon129 (.cons konw153 .nil)))) func151 fun b rest ob r hc hob => by
 split at hc
 ·rename_i x e y f z g u h
  cases hc
  have h_0:=ob0 hob
  have h_1:=ob1 hob
  have h_2:=ob2 hob
  have h_3:=ob3 hob
  have h_4:=ob4 hob
  obtain ⟨b1,b2,b3,b4,b5,b6,b7,b8,b9,b10,b11,b12,b13,b14,b15,b16⟩:=h_0
  have hb:inB b:=hob _ (by simp)
  refine ⟨by kernel_rfl,fnVC_go (rs:=[.cell 6 24]) rfl rfl ?_⟩
  simp only [bodyC,go_sem,kw175,k250,k129,kw153,cB_eq,cBR_eq,bodyD_lit,gx_pts0,gx_pts1,spots_can,etaN,etaV,bd_eta,b1,b2,b3,b4,b6,b7,b8,b9,b10,b11,b12,b13,b14,b15,b16,hb,h_1,h_2,h_3,h_4]
  rfl
 ·cases hc
end Go.Ax
end
section
set_option maxHeartbeats 4000000
set_option maxRecDepth 100000
namespace Go.Ax
open Go.Proofs Go.Proofs.Tryz
end Go.Ax
end
section
set_option maxHeartbeats 4000000
set_option maxRecDepth 100000
namespace Go.Ax
open Go.Proofs Go.Proofs.Tryz
def onF:List AV→Option (List Prop×List AV)
 | [.agg l] => some ([l = bodyC (bodyD l),inB (bodyD l),(bodyD l).n≤1000],bodyC (bodyD l))
 | _ => none
def mNon:MCon:=mcN 155 onF
theorem mNon_eq {key:Nat} {m:Mem} {l:List AV}:mNon key m [.agg l] = some ⟨[l = bodyC (bodyD l),inB (bodyD l),(bodyD l).n≤1000],.bx key 0,.many [] (some (fam1 155 27 (bodyC (bodyD l)) none))⟩:=(rfl)
theorem con114m:MConOK prog 114 mNon:=MConOK.mcN (G:=[(173,kb173)]) (H:=[]) (.cons konb173 .nil) func114 fun es ob cs hF hob => by
 unfold onF at hF
 split at hF
 ·rename_i l
  cases hF
  have e:l = bodyC (bodyD l):=hob _ (by simp)
  have h:inB (bodyD l):=hob _ (by simp)
  have hn:(bodyD l).n≤1000:=hob _ (by simp)
  generalize bodyD l = b at *
  subst e
  refine ⟨by simp [clean_body],by simp [bodyC,cleanCs,cleanC],by kernel_rfl,bodyM_go (rs:=[.tmp 2]) rfl rfl ?_⟩
  obtain ⟨b1,b2,b3,b4,b5,b6,b7,b8,b9,b10,b11,b12,b13,b14,b15,b16⟩:=id h
  simp only [bodyC,go_sem,kb173,cB_eq,bodyD_lit,gx_pts0,gx_pts1,etaN,etaV,bd_eta,h,hn]
  simp only [forall_eq]
  exact ⟨5,rfl,if_pos rfl⟩
 ·cases hF
def kb37:Con:=cB fun b rest => match rest with
 | [.agg [.v (.int .i64 x),.v (.bool e),.v (.int .i64 y),.v (.bool f)],.agg [.v (.int .i64 z),.v (.bool g),.v (.int .i64 u),.v (.bool h)]] => some ([inB b,b.n≤1000,inR x,inR y,inR z,inR u],boA (pshS b ((x,e),(y,f)) ((z,g),(u,h))))
 | _ => none
theorem konb37:ConOK prog 37 kb37:=ConOK.cB (G:=[(114,.wr mNon),(115,.wr kw115)]) (H:=[]) (.mcons con114m (.mcons konw115 .nil)) func37 fun b rest ob r hc hob => by
 split at hc
 ·rename_i x e y f z g u h
  cases hc
  have h_0:=ob0 hob
  have h_1:=ob1 hob
  have h_2:=ob2 hob
  have h_3:=ob3 hob
  have h_4:=ob4 hob
  have h_5:=ob5 hob
  obtain ⟨b1,b2,b3,b4,b5,b6,b7,b8,b9,b10,b11,b12,b13,b14,b15,b16⟩:=h_0
  have hb:inB b:=hob _ (by simp)
  refine ⟨by kernel_rfl,fnVC_go (rs:=[.cell 6 57]) rfl rfl ?_⟩
  simp only [bodyC,go_sem,kw115,cB_eq,cBR_eq,bodyD_lit,gx_pts0,gx_pts1,spots_can,etaN,etaV,bd_eta,b1,b2,b3,b4,b6,b7,b8,b9,b10,b11,b12,b13,b14,b15,b16,hb,h_1,h_2,h_3,h_4,h_5,mNon_eq,mB_bx,mbB_some,stepC_mbQ]
  intro c hc0
  rw [← hc0]; rfl
 ·cases hc
theorem aEq24 {a0 b0:Int} {a1 b1:Bool}:aEq prog 24 (.agg [i64 a0,bo a1]) (.agg [i64 b0,bo b1]) = some ((a0 == b0) && ((a1 == b1) && true)):=by kernel_rfl
theorem eq24 {xo yo:Operand} {neg:Bool} {a0 b0:Int} {a1 b1:Bool}:eqE prog neg 24 xo yo (.agg [i64 a0,bo a1]) (.agg [i64 b0,bo b1]) = some ⟨[],.v (.bool (negV neg ((a0 == b0) && ((a1 == b1) && true)))),.none⟩:=eqE_agg aEq24
attribute [go_sem] eq24
theorem aEq26 {a0 b0:Int} {a1 b1:Bool} {a2 b2:Int} {a3 b3:Bool}:aEq prog 26 (.agg [i64 a0,bo a1,i64 a2,bo a3]) (.agg [i64 b0,bo b1,i64 b2,bo b3]) = some (((a0 == b0) && ((a1 == b1) && true)) && (((a2 == b2) && ((a3 == b3) && true)) && true)):=by kernel_rfl
theorem eq26 {xo yo:Operand} {neg:Bool} {a0 b0:Int} {a1 b1:Bool} {a2 b2:Int} {a3 b3:Bool}:eqE prog neg 26 xo yo (.agg [i64 a0,bo a1,i64 a2,bo a3]) (.agg [i64 b0,bo b1,i64 b2,bo b3]) = some ⟨[],.v (.bool (negV neg (((a0 == b0) && ((a1 == b1) && true)) && (((a2 == b2) && ((a3 == b3) && true)) && true)))),.none⟩:=eqE_agg aEq26
attribute [go_sem] eq26
theorem aEq53 {a0 b0:Int} {a1 b1:Bool} {a2 b2:Int} {a3 b3:Bool} {a4 b4:Int} {a5 b5:Bool} {a6 b6:Int} {a7 b7:Bool}:aEq prog 53 (.agg [i64 a0,bo a1,i64 a2,bo a3,i64 a4,bo a5,i64 a6,bo a7]) (.agg [i64 b0,bo b1,i64 b2,bo b3,i64 b4,bo b5,i64 b6,bo b7]) = some ((((a0 == b0) && ((a1 == b1) && true)) && (((a2 == b2) && ((a3 == b3) && true)) && true)) && ((((a4 == b4) && ((a5 == b5) && true)) && (((a6 == b6) && ((a7 == b7) && true)) && true)) && true)):=by kernel_rfl
theorem eq53 {xo yo:Operand} {neg:Bool} {a0 b0:Int} {a1 b1:Bool} {a2 b2:Int} {a3 b3:Bool} {a4 b4:Int} {a5 b5:Bool} {a6 b6:Int} {a7 b7:Bool}:eqE prog neg 53 xo yo (.agg [i64 a0,bo a1,i64 a2,bo a3,i64 a4,bo a5,i64 a6,bo a7]) (.agg [i64 b0,bo b1,i64 b2,bo b3,i64 b4,bo b5,i64 b6,bo b7]) = some ⟨[],.v (.bool (negV neg ((((a0 == b0) && ((a1 == b1) && true)) && (((a2 == b2) && ((a3 == b3) && true)) && true)) && ((((a4 == b4) && ((a5 == b5) && true)) && (((a6 == b6) && ((a7 == b7) && true)) && true)) && true)))),.none⟩:=eqE_agg aEq53
attribute [go_sem] eq53
theorem aEq55 {a0 b0:Int} {a1 b1:Bool} {a2 b2:Int} {a3 b3:Bool}:aEq prog 55 (.agg [i64 a0,bo a1,i64 a2,bo a3]) (.agg [i64 b0,bo b1,i64 b2,bo b3]) = some (((a0 == b0) && ((a1 == b1) && true)) && (((a2 == b2) && ((a3 == b3) && true)) && true)):=by kernel_rfl
theorem eq55 {xo yo:Operand} {neg:Bool} {a0 b0:Int} {a1 b1:Bool} {a2 b2:Int} {a3 b3:Bool}:eqE prog neg 55 xo yo (.agg [i64 a0,bo a1,i64 a2,bo a3]) (.agg [i64 b0,bo b1,i64 b2,bo b3]) = some ⟨[],.v (.bool (negV neg (((a0 == b0) && ((a1 == b1) && true)) && (((a2 == b2) && ((a3 == b3) && true)) && true)))),.none⟩:=eqE_agg aEq55
attribute [go_sem] eq55
theorem aEq69 {a0 b0:Int} {a1 b1:Bool} {a2 b2:Int} {a3 b3:Bool} {a4 b4:Int} {a5 b5:Bool}:aEq prog 69 (.agg [i64 a0,bo a1,i64 a2,bo a3,i64 a4,bo a5]) (.agg [i64 b0,bo b1,i64 b2,bo b3,i64 b4,bo b5]) = some ((((a0 == b0) && ((a1 == b1) && true)) && (((a2 == b2) && ((a3 == b3) && true)) && true)) && (((a4 == b4) && ((a5 == b5) && true)) && true)):=by kernel_rfl
theorem eq69 {xo yo:Operand} {neg:Bool} {a0 b0:Int} {a1 b1:Bool} {a2 b2:Int} {a3 b3:Bool} {a4 b4:Int} {a5 b5:Bool}:eqE prog neg 69 xo yo (.agg [i64 a0,bo a1,i64 a2,bo a3,i64 a4,bo a5]) (.agg [i64 b0,bo b1,i64 b2,bo b3,i64 b4,bo b5]) = some ⟨[],.v (.bool (negV neg ((((a0 == b0) && ((a1 == b1) && true)) && (((a2 == b2) && ((a3 == b3) && true)) && true)) && (((a4 == b4) && ((a5 == b5) && true)) && true)))),.none⟩:=eqE_agg aEq69
attribute [go_sem] eq69
theorem aEq30 {a0 b0:Int} {a1 b1:Bool} {a2 b2:Int} {a3 b3:Bool}:aEq prog 30 (.agg [i64 a0,bo a1,i64 a2,bo a3]) (.agg [i64 b0,bo b1,i64 b2,bo b3]) = some (((a0 == b0) && ((a1 == b1) && true)) && (((a2 == b2) && ((a3 == b3) && true)) && true)):=by kernel_rfl
theorem eq30 {xo yo:Operand} {neg:Bool} {a0 b0:Int} {a1 b1:Bool} {a2 b2:Int} {a3 b3:Bool}:eqE prog neg 30 xo yo (.agg [i64 a0,bo a1,i64 a2,bo a3]) (.agg [i64 b0,bo b1,i64 b2,bo b3]) = some ⟨[],.v (.bool (negV neg (((a0 == b0) && ((a1 == b1) && true)) && (((a2 == b2) && ((a3 == b3) && true)) && true)))),.none⟩:=eqE_agg aEq30
attribute [go_sem] eq30
def cjS (n:Int) (k a b:Int) (p q:V2) (l:Nb):Int:=
 if k≠1∧k≠2∧k≠3 then 8 else
 if (a < 0∨n≤a)∨(k≠1∧(b < 0∨n≤b∨a = b)) then 3 else
 if (withS p.1 32 && withS p.2 32) = false∨(if k = 1 then (withS q.1 4096 && withS q.2 4096) = false else (withS q.1 32 && withS q.2 32) = false) then 3 else
 if k = 2∧(withS l 8192 = false∨l.1 < 0) then 3 else
 if (k = 1∧b≠0)∨(k≠2∧¬ (l.1 = 0∧l.2 = false)) then 4 else 0
def kj51:Con
 | [.v (.int .i64 n),.agg [.v (.int .i64 k),.v (.int .i64 a),.v (.int .i64 b),.v (.int .i64 x),.v (.bool e),.v (.int .i64 y),.v (.bool f),.v (.int .i64 z),.v (.bool g),.v (.int .i64 u),.v (.bool h),.v (.int .i64 l),.v (.bool m)]] => some ([inR n,inR x,inR y,inR z,inR u,inR l],i64 (cjS n k a b ((x,e),(y,f)) ((z,g),(u,h)) (l,m)))
 | _ => none
theorem konj51:ConOK prog 51 kj51:=ConOK.of (G:=[(123,kw123)]) (H:=[]) (.cons konw123 .nil) func51 fun l ob rr hc hob => by
 unfold kj51 at hc
 split at hc
 ·rename_i n k a b x e y f z g u h l m
  cases hc
  have h_0:=ob0 hob
  have h_1:=ob1 hob
  have h_2:=ob2 hob
  have h_3:=ob3 hob
  have h_4:=ob4 hob
  have h_5:=ob5 hob
  refine ⟨by kernel_rfl,fnVC_go (rs:=[.tmp 4]) rfl rfl ?_⟩
  simp only [go_sem,kw123,iMul,iDiv,iInt,iAdd,iSub,iRat,iDot,iHyp,iSq,iNeg,iPos,iAbs,iMx,iMn,iCl,iWh,iLoc1,iLoc2,iVAdd1,iVAdd2,iVSub1,iVSub2,iScale1,iScale2,iVDot,iVCross,iLen,iOf1,iOf2,iUnit1,iUnit2,h_0,h_1,h_2,h_3,h_4,h_5]
  unfold cjS
  simp only [forall_eq]
  generalize (withS (x,e) 32 && withS (y,f) 32) = w1
  generalize (withS (z,g) 4096 && withS (u,h) 4096) = w3
  generalize (withS (z,g) 32 && withS (u,h) 32) = w5
  generalize withS (l,m) 8192 = w7
  clear hob h_0 h_1 h_2 h_3 h_4 h_5
  repeat' (first | intro _ | apply And.intro)
  all_goals grind
 ·cases hc
section
variable {P:Program} {G:Ctx} {H:Hots} {K0:AEx→St→Prop} {hot:Option Hot} {ops:Array Oper} {d:Option Tmp} {rest:List Oper} {i:Nat} {st:List Fr} {t:Slots} {m:Mem} {nx:Nat} {o:List Prop} {u:Upd} {b:Bd} {c:Bool}
theorem bindC_cboA:bindC P G H K0 hot ops d rest i st t m nx o u (condV c (bnd (boA b))) = (∀ b',b' = b→bindC P G H K0 hot ops d rest i st t m nx o u (condV c (.agg (bodyC b')))):=by
 apply propext
 constructor
 ·rintro h b' rfl; exact h
 ·intro h; exact h b rfl
end
attribute [go_sem] bindC_cboA
theorem inB_wak {b:Bd} (h:inB b):inB (wakS b):=by
 unfold wakS
 split
 ·obtain ⟨b1,b2,b3,b4,b5,b6,b7,b8,b9,b10,b11,b12,b13,b14,b15,b16⟩:=h
  exact ⟨b1,b2,b3,b4,b5,b6,b7,b8,b9,b10,b11,b12,b13,b14,of_eq_true inR_0,b16⟩
 ·exact h
theorem inB_psh {b:Bd} {p j:V2} (h:inB b):inB (pshS b p j):=by
 unfold pshS
 split
 ·exact h
 ·have:=inB_push h (v:=limV (vAdd b.v (vScale j b.m))) (w:=limS (nAdd b.w (nMul b.i (vCross (vSub p b.pl) j))) 64) (of_eq_true (iLim (of_eq_true iVAdd1))) (of_eq_true (iLim (of_eq_true iVAdd2))) (of_eq_true (iLim (of_eq_true iAdd)))
  dsimp only
  split
  ·exact inB_wak this
  ·exact this
theorem wak_n {b:Bd}:(wakS b).n = b.n:=by unfold wakS; split <;> rfl
theorem psh_n {b:Bd} {p j:V2}:(pshS b p j).n = b.n:=by
 unfold pshS
 split
 ·rfl
 ·dsimp only
  split
  ·rw [wak_n]
  ·rfl
def rndB (x:Int) (m i:Nb):Bd:=⟨1,256,0,0,0,fun _ => 0,fun _ => 0,((x,false),(0,false)),((4294967296,false),(0,false)),((0,false),(0,false)),(0,false),m,i,0,false,false,1⟩
theorem alk_body0 {l1:List AV} {X Y:Nat→Int} {c0 c1 c2 c3:AV}:alk (.agg (c0 :: c1 :: c2 :: c3 :: ptsA 0 X Y :: l1)) (.agg (c0 :: c1 :: c2 :: c3 :: .v (.slice none 0 0) :: l1)):=fun w ρ v hR => by
 cases hR with
 | agg hl hh =>
  refine .agg hl fun j x y h3 h4 => ?_
  match j with
  | 4 =>
   simp at h3; subst h3
   exact alk_nil _ _ _ (hh 4 _ y rfl h4)
  | 0 => exact hh 0 x y h3 h4
  | 1 => exact hh 1 x y h3 h4
  | 2 => exact hh 2 x y h3 h4
  | 3 => exact hh 3 x y h3 h4
  | j + 5 => exact hh (j + 5) x y h3 h4
def kw72:Con
 | [.v (.int .i64 x),.agg [.v (.int .i64 m),.v (.bool e),.v (.int .i64 i),.v (.bool f)]] => some ([],boA (rndB x (m,e) (i,f)))
 | _ => none
theorem konw72:ConOK prog 72 kw72:=ConOK.goR (G:=[(55,kw55)]) (H:=[(1,⟨[(9,.slot 4)],[]⟩)]) (.cons konw55 .nil) func72 fun l ob rr hc hob => by
 unfold kw72 at hc
 split at hc
 ·rename_i x m e i f
  cases hc
  refine ⟨_,fun w I vs h => h,by kernel_rfl,fnVC_go (rs:=[.cell 4 57]) rfl rfl ?_⟩
  simp only [go_sem,kw55,forall_eq]
  exact alk_body0
 ·cases hc
def c15:Con
 | [] => some ([],bo true)
 | _ => none
theorem con15:ConOK prog 15 c15:=ConOK.of (G:=[(55,kw55),(72,kw72),(37,kb37),(51,kj51)]) (H:=[]) (.cons konw55 (.cons konw72 (.cons konb37 (.cons konj51 .nil)))) func15 fun l ob rr hc hob => by
 unfold c15 at hc
 split at hc
 ·skip
  cases hc
  refine ⟨by kernel_rfl,fnVC_go (rs:=[.tmp 0]) rfl rfl ?_⟩
  simp only [go_sem,kw55,kw72,kb37,kj51,iMul,iDiv,iInt,iAdd,iSub,iRat,iDot,iHyp,iSq,iNeg,iPos,iAbs,iMx,iMn,iCl,iWh,iLoc1,iLoc2,iVAdd1,iVAdd2,iVSub1,iVSub2,iScale1,iScale2,iVDot,iVCross,iLen,iOf1,iOf2,iUnit1,iUnit2,bodyC,cB_eq,cBR_eq,bodyD_lit,gx_pts0,gx_pts1,spots_can,etaN,etaV,bd_eta]
  simp only [forall_eq]
  have e1:(pshS (rndB 0 (4294967296,false) (4294967296,false)) ((0,false),4294967296,false) ((4294967296,false),0,false)).v = ((4294967296,false),(0,false)):=by kernel_rfl
  have e2:(pshS (rndB 0 (4294967296,false) (4294967296,false)) ((0,false),4294967296,false) ((4294967296,false),0,false)).w = (-4294967296,false):=by kernel_rfl
  have e3:cjS 1 4 0 0 ((0,false),0,false) ((0,false),0,false) (0,false) = 8:=by decide
  rw [e1,e2,e3]
  simp only [beq_self_eq_true,true_and,and_self,implies_true]
  exact ⟨⟨⟨by decide,by decide⟩,⟨by decide,by decide⟩,⟨by decide,by decide⟩,⟨by decide,by decide⟩,fun j hj => absurd hj (Nat.not_lt_zero j),⟨by decide,by decide⟩,⟨by decide,by decide⟩,⟨by decide,by decide⟩,⟨by decide,by decide⟩,⟨by decide,by decide⟩,⟨by decide,by decide⟩,⟨by decide,by decide⟩,⟨by decide,by decide⟩,⟨by decide,by decide⟩,⟨by decide,by decide⟩,⟨by decide,by decide⟩⟩,by decide,inRo (by omega),inRo (by omega),trivial⟩
 ·cases hc
theorem alk_shape {a b c d p q:AV} (h:alk p q):alk (.agg [a,b,c,d,p]) (.agg [a,b,c,d,q]):=fun w ρ v hR => by
 cases hR with
 | agg hl' hh' =>
  refine .agg hl' fun j x y h3 h4 => ?_
  match j with
  | 0 => exact hh' 0 x y h3 h4
  | 1 => exact hh' 1 x y h3 h4
  | 2 => exact hh' 2 x y h3 h4
  | 3 => exact hh' 3 x y h3 h4
  | 4 =>
   simp at h3; subst h3
   exact h _ _ _ (hh' 4 _ y rfl h4)
  | m + 5 => simp at h3
def mkW (a b:Int):Int:=if a.tmod 4≠0 then 16 + (16 + modS b 4081).tmod 600 else 16 + modS b 4081
def mkM (a b:Int):Int:=max 64 (mkW a b)
def mkK (a:Int):Int:=if modS a 5 = 0 then 1 else if modS a 5 = 1 then 2 else 3
def mkR (a b:Int):Int:=if modS a 5 = 0 then mkW b b else 0
def mkH (a b c:Int):Int:=if modS a 5 = 0 then 0 else if modS a 5 = 1 then mkW b c else 0
def mkN (a:Int):Nat:=if modS a 5 = 0 then 0 else if modS a 5 = 1 then 0 else if modS a 5 = 2 then 3 else if modS a 5 = 3 then 5 else 8
def mkP (a w t:Int):List AV:=
 if modS a 5 = 2 then [i64 (-w),i64 (-t),i64 w,i64 (-t),i64 0,i64 t]
 else if modS a 5 = 3 then [i64 ((-w).tdiv 2),i64 (-t),i64 (w.tdiv 2),i64 (-t),i64 w,i64 0,i64 0,i64 t,i64 (-w),i64 0]
 else [i64 w,i64 ((-w).tdiv 2),i64 w,i64 (w.tdiv 2),i64 (w.tdiv 2),i64 w,i64 ((-w).tdiv 2),i64 w,i64 (-w),i64 (w.tdiv 2),i64 (-w),i64 ((-w).tdiv 2),i64 ((-w).tdiv 2),i64 (-w),i64 (w.tdiv 2),i64 (-w)]
def mkX (a b c:Int) (i:Nat):Int:=gx (rowsOf 2 (mkP a (mkM b b) (mkM b c))) 0 i
def mkY (a b c:Int) (i:Nat):Int:=gx (rowsOf 2 (mkP a (mkM b b) (mkM b c))) 1 i
abbrev mkA (a b c:Int):AV:=.agg [i64 (mkK a),i64 (mkR a b),i64 (mkH a b b),i64 (mkH a b c),.ro (mkN a) 2 fun i => [i64 (mkX a b c i),i64 (mkY a b c i)]]
theorem modS_bd {n m:Int} (hm:0 < m):0≤modS n m∧modS n m < m:=by
 have h1:n.tmod m < m:=Int.tmod_lt_of_pos n hm
 have h2:-m < n.tmod m:=Int.lt_tmod_of_pos n hm
 unfold modS
 split <;> omega
theorem mkW_bd {a b:Int}:16≤mkW a b∧mkW a b≤4096:=by
 have h:=modS_bd (n:=b) (m:=4081) (by omega)
 have h1:(16 + modS b 4081).tmod 600 < 600:=Int.tmod_lt_of_pos _ (by omega)
 have h2:0≤(16 + modS b 4081).tmod 600:=Int.tmod_nonneg _ (by omega)
 unfold mkW
 split <;> omega
theorem mkM_bd {a b:Int}:64≤mkM a b∧mkM a b≤4096:=by
 have:=@mkW_bd a b
 unfold mkM
 omega
theorem wrW {b:Int}:IntKind.i64.wrap (16 + modS b 4081) = 16 + modS b 4081:=by
 have h:=modS_bd (n:=b) (m:=4081) (by omega)
 exact wrap_in (inRo (by omega))
theorem wrW2 {b:Int}:IntKind.i64.wrap (16 + (16 + modS b 4081).tmod 600) = 16 + (16 + modS b 4081).tmod 600:=by
 have h:=modS_bd (n:=b) (m:=4081) (by omega)
 have h1:(16 + modS b 4081).tmod 600 < 600:=Int.tmod_lt_of_pos _ (by omega)
 have h2:0≤(16 + modS b 4081).tmod 600:=Int.tmod_nonneg _ (by omega)
 exact wrap_in (inRo (by omega))
theorem wrM {a b:Int}:IntKind.i64.wrap (0 - mkM a b) = -mkM a b:=by
 have:=@mkM_bd a b
 rw [wrap_in (inRo (by omega)),Int.zero_sub]
theorem wrM2 {a b:Int}:IntKind.i64.wrap ((-mkM a b).tdiv 2) = (-mkM a b).tdiv 2:=by
 have:=@mkM_bd a b
 exact wrap_in (by rw [Int.neg_tdiv,Int.tdiv_eq_ediv_of_nonneg (by omega)]; unfold inR; omega)
theorem wrM3 {a b:Int}:IntKind.i64.wrap ((mkM a b).tdiv 2) = (mkM a b).tdiv 2:=by
 have:=@mkM_bd a b
 exact wrap_in (by rw [Int.tdiv_eq_ediv_of_nonneg (by omega)]; unfold inR; omega)
theorem mkM_eq {a b:Int}:max 64 (mkW a b) = mkM a b:=rfl
theorem vc97 (a b c d e f:Int) (ha:inR a) (hb:inR b) (hc:inR c):fnVC prog [(31,c31)] [] Tryz.f97 [.agg [i64 a,i64 b,i64 c,i64 d,i64 e,i64 f]] (alk (mkA a b c)):=by
 refine fnVC_go (rs:=[.cell 2 49]) rfl rfl ?_
 simp only [go_sem,c31]
 simp only [forall_eq]
 simp only [wrW,wrW2]
 refine ⟨hb,inRo (by omega),hc,inRo (by omega),fun h => ?_,fun h => ?_⟩
 ·have e:∀ v,16 + (16 + modS v 4081).tmod 600 = mkW b v:=fun v => by unfold mkW; rw [if_pos (by simpa using h)]
  simp only [e]
  simp only [mkM_eq,wrM,wrM2,wrM3]
  refine ⟨ha,inRo (by omega),fun h0 => ?_,fun h0 => ⟨fun h1 => ?_,fun h1 => ⟨fun h2 => ?_,fun h2 => ⟨fun h3 => ?_,fun h3 => ?_⟩⟩⟩⟩
  ·have k0:modS a 5 = 0:=by simpa using h0
   unfold mkA
   rw [show mkK a = 1 by unfold mkK; rw [if_pos k0],show mkR a b = mkW b b by unfold mkR; rw [if_pos k0],show mkH a b b = 0 by unfold mkH; rw [if_pos k0],show mkH a b c = 0 by unfold mkH; rw [if_pos k0],show mkN a = 0 by unfold mkN; rw [if_pos k0]]
   exact alk_shape alk_nil
  ·have k0:¬ modS a 5 = 0:=by simpa using h0
   have k1:modS a 5 = 1:=by simpa using h1
   unfold mkA
   rw [show mkK a = 2 by unfold mkK; rw [if_neg k0,if_pos k1],show mkR a b = 0 by unfold mkR; rw [if_neg k0],show mkH a b b = mkW b b by unfold mkH; rw [if_neg k0,if_pos k1],show mkH a b c = mkW b c by unfold mkH; rw [if_neg k0,if_pos k1],show mkN a = 0 by unfold mkN; rw [if_neg k0,if_pos k1]]
   exact alk_shape alk_nil
  ·have k0:¬ modS a 5 = 0:=by simpa using h0
   have k1:¬ modS a 5 = 1:=by simpa using h1
   have k2:modS a 5 = 2:=by simpa using h2
   unfold mkA
   rw [show mkK a = 3 by unfold mkK; rw [if_neg k0,if_neg k1],show mkR a b = 0 by unfold mkR; rw [if_neg k0],show mkH a b b = 0 by unfold mkH; rw [if_neg k0,if_neg k1],show mkH a b c = 0 by unfold mkH; rw [if_neg k0,if_neg k1],show mkN a = 3 by unfold mkN; rw [if_neg k0,if_neg k1,if_pos k2]]
   refine alk_shape (alk_ro fun i hi => ?_)
   unfold mkX mkY mkP
   rw [if_pos k2]
   match i with
   | 0 => rfl
   | 1 => rfl
   | 2 => rfl
   | q + 3 => omega
  ·have k0:¬ modS a 5 = 0:=by simpa using h0
   have k1:¬ modS a 5 = 1:=by simpa using h1
   have k2:¬ modS a 5 = 2:=by simpa using h2
   have k3:modS a 5 = 3:=by simpa using h3
   unfold mkA
   rw [show mkK a = 3 by unfold mkK; rw [if_neg k0,if_neg k1],show mkR a b = 0 by unfold mkR; rw [if_neg k0],show mkH a b b = 0 by unfold mkH; rw [if_neg k0,if_neg k1],show mkH a b c = 0 by unfold mkH; rw [if_neg k0,if_neg k1],show mkN a = 5 by unfold mkN; rw [if_neg k0,if_neg k1,if_neg k2,if_pos k3]]
   refine alk_shape (alk_ro fun i hi => ?_)
   unfold mkX mkY mkP
   rw [if_neg k2,if_pos k3]
   match i with
   | 0 => rfl
   | 1 => rfl
   | 2 => rfl
   | 3 => rfl
   | 4 => rfl
   | q + 5 => omega
  ·have k0:¬ modS a 5 = 0:=by simpa using h0
   have k1:¬ modS a 5 = 1:=by simpa using h1
   have k2:¬ modS a 5 = 2:=by simpa using h2
   have k3:¬ modS a 5 = 3:=by simpa using h3
   unfold mkA
   rw [show mkK a = 3 by unfold mkK; rw [if_neg k0,if_neg k1],show mkR a b = 0 by unfold mkR; rw [if_neg k0],show mkH a b b = 0 by unfold mkH; rw [if_neg k0,if_neg k1],show mkH a b c = 0 by unfold mkH; rw [if_neg k0,if_neg k1],show mkN a = 8 by unfold mkN; rw [if_neg k0,if_neg k1,if_neg k2,if_neg k3]]
   refine alk_shape (alk_ro fun i hi => ?_)
   unfold mkX mkY mkP
   rw [if_neg k2,if_neg k3]
   match i with
   | 0 => rfl
   | 1 => rfl
   | 2 => rfl
   | 3 => rfl
   | 4 => rfl
   | 5 => rfl
   | 6 => rfl
   | 7 => rfl
   | q + 8 => omega
 ·have e:∀ v,16 + modS v 4081 = mkW b v:=fun v => by unfold mkW; rw [if_neg (by simpa using h)]
  simp only [e]
  simp only [mkM_eq,wrM,wrM2,wrM3]
  refine ⟨ha,inRo (by omega),fun h0 => ?_,fun h0 => ⟨fun h1 => ?_,fun h1 => ⟨fun h2 => ?_,fun h2 => ⟨fun h3 => ?_,fun h3 => ?_⟩⟩⟩⟩
  ·have k0:modS a 5 = 0:=by simpa using h0
   unfold mkA
   rw [show mkK a = 1 by unfold mkK; rw [if_pos k0],show mkR a b = mkW b b by unfold mkR; rw [if_pos k0],show mkH a b b = 0 by unfold mkH; rw [if_pos k0],show mkH a b c = 0 by unfold mkH; rw [if_pos k0],show mkN a = 0 by unfold mkN; rw [if_pos k0]]
   exact alk_shape alk_nil
  ·have k0:¬ modS a 5 = 0:=by simpa using h0
   have k1:modS a 5 = 1:=by simpa using h1
   unfold mkA
   rw [show mkK a = 2 by unfold mkK; rw [if_neg k0,if_pos k1],show mkR a b = 0 by unfold mkR; rw [if_neg k0],show mkH a b b = mkW b b by unfold mkH; rw [if_neg k0,if_pos k1],show mkH a b c = mkW b c by unfold mkH; rw [if_neg k0,if_pos k1],show mkN a = 0 by unfold mkN; rw [if_neg k0,if_pos k1]]
   exact alk_shape alk_nil
  ·have k0:¬ modS a 5 = 0:=by simpa using h0
   have k1:¬ modS a 5 = 1:=by simpa using h1
   have k2:modS a 5 = 2:=by simpa using h2
   unfold mkA
   rw [show mkK a = 3 by unfold mkK; rw [if_neg k0,if_neg k1],show mkR a b = 0 by unfold mkR; rw [if_neg k0],show mkH a b b = 0 by unfold mkH; rw [if_neg k0,if_neg k1],show mkH a b c = 0 by unfold mkH; rw [if_neg k0,if_neg k1],show mkN a = 3 by unfold mkN; rw [if_neg k0,if_neg k1,if_pos k2]]
   refine alk_shape (alk_ro fun i hi => ?_)
   unfold mkX mkY mkP
   rw [if_pos k2]
   match i with
   | 0 => rfl
   | 1 => rfl
   | 2 => rfl
   | q + 3 => omega
  ·have k0:¬ modS a 5 = 0:=by simpa using h0
   have k1:¬ modS a 5 = 1:=by simpa using h1
   have k2:¬ modS a 5 = 2:=by simpa using h2
   have k3:modS a 5 = 3:=by simpa using h3
   unfold mkA
   rw [show mkK a = 3 by unfold mkK; rw [if_neg k0,if_neg k1],show mkR a b = 0 by unfold mkR; rw [if_neg k0],show mkH a b b = 0 by unfold mkH; rw [if_neg k0,if_neg k1],show mkH a b c = 0 by unfold mkH; rw [if_neg k0,if_neg k1],show mkN a = 5 by unfold mkN; rw [if_neg k0,if_neg k1,if_neg k2,if_pos k3]]
   refine alk_shape (alk_ro fun i hi => ?_)
   unfold mkX mkY mkP
   rw [if_neg k2,if_pos k3]
   match i with
   | 0 => rfl
   | 1 => rfl
   | 2 => rfl
   | 3 => rfl
   | 4 => rfl
   | q + 5 => omega
  ·have k0:¬ modS a 5 = 0:=by simpa using h0
   have k1:¬ modS a 5 = 1:=by simpa using h1
   have k2:¬ modS a 5 = 2:=by simpa using h2
   have k3:¬ modS a 5 = 3:=by simpa using h3
   unfold mkA
   rw [show mkK a = 3 by unfold mkK; rw [if_neg k0,if_neg k1],show mkR a b = 0 by unfold mkR; rw [if_neg k0],show mkH a b b = 0 by unfold mkH; rw [if_neg k0,if_neg k1],show mkH a b c = 0 by unfold mkH; rw [if_neg k0,if_neg k1],show mkN a = 8 by unfold mkN; rw [if_neg k0,if_neg k1,if_neg k2,if_neg k3]]
   refine alk_shape (alk_ro fun i hi => ?_)
   unfold mkX mkY mkP
   rw [if_neg k2,if_neg k3]
   match i with
   | 0 => rfl
   | 1 => rfl
   | 2 => rfl
   | 3 => rfl
   | 4 => rfl
   | 5 => rfl
   | 6 => rfl
   | 7 => rfl
   | q + 8 => omega
def c97:Con
 | [.agg [.v (.int .i64 a),.v (.int .i64 b),.v (.int .i64 c),.v (.int .i64 d),.v (.int .i64 e),.v (.int .i64 f)]] => some ([inR a,inR b,inR c],mkA a b c)
 | _ => none
theorem con97:ConOK prog 97 c97:=ConOK.goR (G:=[(31,c31)]) (H:=[]) (.cons con31 .nil) func97 fun l ob rr hc hob => by
 unfold c97 at hc
 split at hc
 ·rename_i a b c d e f
  cases hc
  exact ⟨_,fun w I vs h => h,by kernel_rfl,vc97 a b c d e f (hob _ (by simp)) (hob _ (by simp)) (hob _ (by simp))⟩
 ·cases hc
def foAt (x y s:Int):V2:=((x.tmod (s * 4294967296),false),(y.tmod (s * 4294967296),false))
def foRot (u:Int):V2:=((csV (u.tmod (8 * 4294967296)) false,csF (u.tmod (8 * 4294967296)) false),(snV (u.tmod (8 * 4294967296)) false,snF (u.tmod (8 * 4294967296)) false))
theorem tmod_inR {x s:Int} (h:1≤s∧s≤1000000):inR (x.tmod (s * 4294967296)):=by
 have h1:x.tmod (s * 4294967296) < s * 4294967296:=Int.tmod_lt_of_pos x (by omega)
 have h2:-(s * 4294967296) < x.tmod (s * 4294967296):=Int.lt_tmod_of_pos x (by omega)
 unfold inR
 omega
def c98:Con
 | [.agg [.v (.int .i64 a),.v (.int .i64 b),.v (.int .i64 c),.v (.int .i64 x),.v (.int .i64 y),.v (.int .i64 u)],.v (.int .i64 s)] => some ([inR x,inR y,inR u,1≤s∧s≤1000000],poseA (foAt x y s) (foRot u))
 | _ => none
theorem con98:ConOK prog 98 c98:=ConOK.of (G:=[(53,c53),(169,c169)]) (H:=[(1,⟨[(14,.slot 4)],[]⟩)]) (.cons con53 (.cons con169 .nil)) func98 fun l ob r hc hob => by
 unfold c98 at hc
 split at hc
 ·rename_i a b c x y u s
  cases hc
  have h_0:=ob0 hob
  have h_1:=ob1 hob
  have h_2:=ob2 hob
  have h_3:=ob3 hob
  refine ⟨by kernel_rfl,fnVC_go (rs:=[.cell 4 53]) rfl rfl ?_⟩
  simp only [go_sem,c53,c169]
  simp only [forall_eq]
  exact ⟨h_0,h_3,h_1,h_3,h_2,tmod_inR (by omega),rfl⟩
 ·cases hc
theorem mk_inR {a b c:Int} (i:Nat) (hi:i < mkN a):inR (mkX a b c i)∧inR (mkY a b c i):=by
 have b1:=@mkM_bd b b
 have b2:=@mkM_bd b c
 have t1:(mkM b b).tdiv 2 = mkM b b / 2:=Int.tdiv_eq_ediv_of_nonneg (by omega)
 have t2:(-mkM b b).tdiv 2 = -(mkM b b / 2):=by rw [Int.neg_tdiv,t1]
 unfold mkX mkY mkP
 unfold mkN at hi
 by_cases k0:modS a 5 = 0
 ·rw [if_pos k0] at hi; omega
 rw [if_neg k0] at hi
 by_cases k1:modS a 5 = 1
 ·rw [if_pos k1] at hi; omega
 rw [if_neg k1] at hi
 rw [t1,t2]
 generalize mkM b b = M at *
 generalize mkM b c = T at *
 by_cases k2:modS a 5 = 2
 ·rw [if_pos k2] at hi
  rw [if_pos k2]
  match i with
  | 0 => show inR (-M)∧inR (-T); unfold inR; omega
  | 1 => show inR M∧inR (-T); unfold inR; omega
  | 2 => show inR 0∧inR T; unfold inR; omega
  | q + 3 => omega
 rw [if_neg k2] at hi
 rw [if_neg k2]
 by_cases k3:modS a 5 = 3
 ·rw [if_pos k3] at hi
  rw [if_pos k3]
  match i with
  | 0 => show inR (-(M / 2))∧inR (-T); unfold inR; omega
  | 1 => show inR (M / 2)∧inR (-T); unfold inR; omega
  | 2 => show inR M∧inR 0; unfold inR; omega
  | 3 => show inR 0∧inR T; unfold inR; omega
  | 4 => show inR (-M)∧inR 0; unfold inR; omega
  | q + 5 => omega
 rw [if_neg k3] at hi
 rw [if_neg k3]
 match i with
 | 0 => show inR M∧inR (-(M / 2)); unfold inR; omega
 | 1 => show inR M∧inR (M / 2); unfold inR; omega
 | 2 => show inR (M / 2)∧inR M; unfold inR; omega
 | 3 => show inR (-(M / 2))∧inR M; unfold inR; omega
 | 4 => show inR (-M)∧inR (M / 2); unfold inR; omega
 | 5 => show inR (-M)∧inR (-(M / 2)); unfold inR; omega
 | 6 => show inR (-(M / 2))∧inR (-M); unfold inR; omega
 | 7 => show inR (M / 2)∧inR (-M); unfold inR; omega
 | q + 8 => omega
theorem mkN_le {a:Int}:mkN a≤9223372036854775806:=by
 unfold mkN
 (repeat' split) <;> omega
def c225:Con
 | [.agg [.v (.int .i64 a),.v (.int .i64 b)],.agg [.v (.int .i64 c),.v (.int .i64 d)]] => some ([True],i64 (IntKind.i64.wrap (IntKind.i64.wrap (a * c) + IntKind.i64.wrap (b * d))))
 | _ => none
theorem con225:ConOK prog 225 c225:=ConOK.of (G:=[]) (H:=[]) .nil func225 fun l ob rr hc hob => by
 unfold c225 at hc
 split at hc
 ·rename_i a b c d
  cases hc
  have h_0:=ob0 hob
  refine ⟨by kernel_rfl,fnVC_go (rs:=[.tmp 4]) rfl rfl ?_⟩
  simp only [go_sem,iMul,iDiv,iInt,iAdd,iSub,iRat,iDot,iHyp,iSq,iNeg,iPos,iAbs,iMx,iMn,iCl,iWh,iLoc1,iLoc2,iVAdd1,iVAdd2,iVSub1,iVSub2,iScale1,iScale2,iVDot,iVCross,iLen,iOf1,iOf2,iUnit1,iUnit2,h_0]
  simp only [forall_eq]
 ·cases hc
def piN:Nb:=(13493037704,false)
def crI (X Y:Nat→Int) (n i:Nat):Int:=IntKind.i64.wrap (X i * Y ((i + 1) % n) - Y i * X ((i + 1) % n))
def doI (X Y:Nat→Int) (i j:Nat):Int:=IntKind.i64.wrap (IntKind.i64.wrap (X i * X j) + IntKind.i64.wrap (Y i * Y j))
def wgA (X Y:Nat→Int) (n:Nat):Nat→Int
 | 0 => 0
 | i + 1 => IntKind.i64.wrap (wgA X Y n i + crI X Y n i)
def wgB (X Y:Nat→Int) (n:Nat):Nat→Int
 | 0 => 0
 | i + 1 => IntKind.i64.wrap (wgB X Y n i + IntKind.i64.wrap (crI X Y n i * IntKind.i64.wrap (IntKind.i64.wrap (doI X Y i i + doI X Y i ((i + 1) % n)) + doI X Y ((i + 1) % n) ((i + 1) % n))))
def wgM (k r w t:Int) (n:Nat) (X Y:Nat→Int) (d:Int):Nb×Nb:=
 if k = 1 then (nDiv (nDiv (nRat 65536 (IntKind.i64.wrap (r * r))) piN) (nInt d),nDiv (nDiv (nRat 8589934592 (IntKind.i64.wrap (IntKind.i64.wrap (r * r) * IntKind.i64.wrap (r * r)))) piN) (nInt d))
 else (nDiv (nRat 131072 (wgA (corX k w t X) (corY k w t Y) (corN k r w t n X Y) (corN k r w t n X Y))) (nInt d),nDiv (nRat 51539607552 (wgB (corX k w t X) (corY k w t Y) (corN k r w t n X Y) (corN k r w t n X Y))) (nInt d))
def wgE (k r w t:Int) (n:Nat) (X Y:Nat→Int) (d:Int):Int:=if chkS k r w t n X Y≠0 then chkS k r w t n X Y else if d < 1∨1000 < d then 3 else 0
def wgS (k r w t:Int) (n:Nat) (X Y:Nat→Int) (d:Int):Nb×Nb:=if wgE k r w t n X Y d = 0 then wgM k r w t n X Y d else ((0,false),(0,false))
def wgV (m:Nb×Nb):AV:=.agg [i64 m.1.1,bo m.1.2,i64 m.2.1,bo m.2.2]
theorem vc167 (k r w t:Int) (n:Nat) (X Y:Nat→Int) (d:Int) (hX:∀ i,i < n→inR (X i)∧inR (Y i)) (hn:n≤9223372036854775806) (hd:inR d) :
  fnVC prog [(166,c202),(143,k50),(28,k54),(80,k144),(212,c206),(224,c224),(225,c225)] [(9,⟨[(15,.slot 4)],[]⟩),(15,⟨[(14,.made 12),(15,.made 13)],[(11,[.made 12])]⟩),(18,⟨[(9,.slot 4)],[]⟩)] Tryz.f167 [shapeA k r w t n fun i => [i64 (X i),i64 (Y i)],i64 d] (· = .tup [wgV (wgS k r w t n X Y d),i64 (wgE k r w t n X Y d)]):=by
 refine fnVC_go (rs:=[.cell 4 55,.tmp 5]) rfl rfl ?_
 have hg:spots n fun i => [i64 (X i),i64 (Y i)]:=fun i hi => ⟨rfl,hX i hi⟩
 simp only [go_sem,c202,k50,k54,k144,c206,c224,c225,hg,hn,hd,gx_pts0,gx_pts1]
 simp only [forall_eq]
 have eE0:wgE k r w t n X Y d = if chkS k r w t n X Y≠0 then chkS k r w t n X Y else if d < 1∨1000 < d then 3 else 0:=rfl
 refine ⟨fun h => ?_,fun h => ⟨fun h2 => ?_,fun h2 => ?_⟩⟩
 ·have h:chkS k r w t n X Y≠0:=by simpa using h
  rw [if_pos h] at eE0
  have eS:wgS k r w t n X Y d = ((0,false),(0,false)):=if_neg (by rw [eE0]; exact h)
  rw [eS,eE0]
  rfl
 ·have h:chkS k r w t n X Y = 0:=by simpa using h
  rw [if_neg (by simpa using h),if_pos h2] at eE0
  have eS:wgS k r w t n X Y d = ((0,false),(0,false)):=if_neg (by rw [eE0]; decide)
  rw [eS,eE0]
  rfl
 have h:chkS k r w t n X Y = 0:=by simpa using h
 rw [if_neg (by simpa using h),if_neg (by omega)] at eE0
 have eS:wgS k r w t n X Y d = wgM k r w t n X Y d:=if_pos eE0
 rw [eS,eE0]
 refine ⟨fun hk => ?_,fun hk => ?_⟩
 ·have hk:k = 1:=by simpa using hk
  have e:wgM k r w t n X Y d = _:=if_pos hk
  rw [e]
  exact ⟨inRo (by omega),wrap_inR _,inRo (by omega),inRo (by omega),wrap_inR _,inRo (by omega),rfl⟩
 have hk:¬ k = 1:=by simpa using hk
 have e:wgM k r w t n X Y d = _:=if_neg hk
 rw [e]
 have hN8:1≤corN k r w t n X Y∧corN k r w t n X Y≤8:=by
  have:=chk_cases h
  unfold corN
  rw [if_pos h]
  split <;> omega
 generalize corN k r w t n X Y = N at *
 generalize corX k w t X = P at *
 generalize corY k w t Y = Q at *
 refine loopC_go (fun (i:Nat) => i≤N) (fun i => N - i) (fun i => [(13,i64 (i:Int)),(10,i64 (wgA P Q N i)),(11,i64 (wgB P Q N i))]) (fun i => []) [18,17,1,0] [57,58,59,60,63,64,65,66,67,68,69,70,71,72,73,74,14,15,75,76,77,78,79,10,80,81,82,83,84,85,86,87,88,89,90,91,92,93,94,95,96,11,61,62,13] 0 (by kernel_rfl) ?_ (Nat.zero_le _) ?_ ?_
 ·intro i _; simp [goodNames,asg]
 ·simp only [go_sem]
  exact ⟨rfl,rfl⟩
 intro i hi
 have hw:IntKind.i64.wrap ((i:Int) + 1) = ((i + 1:Nat):Int):=by rw [wrap_in (inRo (by omega))]; rfl
 have hm:(((i + 1:Nat):Int)).tmod (N:Int) = (((i + 1) % N:Nat):Int):=by rw [Int.tmod_eq_emod_of_nonneg (by omega)]; rfl
 have hl:(i + 1) % N < N:=Nat.mod_lt _ (by omega)
 have wA:∀ i,inR (wgA P Q N i):=fun i => by
  cases i with
  | zero => show inR 0; unfold inR; omega
  | succ i => exact wrap_inR _
 have wB:∀ i,inR (wgB P Q N i):=fun i => by
  cases i with
  | zero => show inR 0; unfold inR; omega
  | succ i => exact wrap_inR _
 simp only [go_sem,c202,k50,k54,k144,c206,c224,c225,forall_eq,hw,hm,Int.toNat_natCast,wA,wB]
 refine ⟨fun hc => ⟨by omega,hc,by omega,by omega,by omega,i + 1,by omega,by omega,rfl,rfl,rfl⟩,fun hc => ⟨inRo (by omega),inRo (by omega),?_⟩⟩
 have e:i = N:=by omega
 subst e
 rfl
def c167:Con
 | [.agg [.v (.int .i64 k),.v (.int .i64 r),.v (.int .i64 w),.v (.int .i64 t),.ro n 2 g],.v (.int .i64 d)] => some ([spots n g,n≤9223372036854775806,inR d],.tup [wgV (wgS k r w t n (gx g 0) (gx g 1) d),i64 (wgE k r w t n (gx g 0) (gx g 1) d)])
 | _ => none
theorem con167:ConOK prog 167 c167:=ConOK.go (G:=[(166,c202),(143,k50),(28,k54),(80,k144),(212,c206),(224,c224),(225,c225)]) (H:=[(9,⟨[(15,.slot 4)],[]⟩),(15,⟨[(14,.made 12),(15,.made 13)],[(11,[.made 12])]⟩),(18,⟨[(9,.slot 4)],[]⟩)]) (.cons con166 (.cons kon50 (.cons kon54 (.cons kon144 (.cons con212 (.cons con224 (.cons con225 .nil))))))) func167 fun l ob rr hc hob => by
 unfold c167 at hc
 split at hc
 ·rename_i k r w t n g d
  cases hc
  have hs:spots n g:=hob _ (by simp)
  refine ⟨[shapeA k r w t n fun i => [i64 (gx g 0 i),i64 (gx g 1 i)],i64 d],fun w I vs h => ?_,by kernel_rfl,vc167 k r w t n _ _ d (fun i hi => (hs i hi).2) (hob _ (by simp)) (hob _ (by simp))⟩
  obtain ⟨x,xs,rfl,h1,h2⟩:=h.inv
  exact .cons (Rs_shape hs _ h1) h2
 ·cases hc
end Go.Ax
end