/-
  Contracts of functions that write rows, made to measure: one element that is pointed at; two of them; a table; a table and an element; new rows.
-/
import Derived.Test.YtlpbblcepjlfpaaGreatCM6
set_option linter.unusedVariables false
set_option linter.unusedSimpArgs false
section
namespace Go.Ax
def cleanC:AV → Bool
 | .v _ => true
 | .any => true
 | .ro _ _ _ => true
 | .rop _ => true
 | _ => false
theorem cleanC_ren {θ:Nat → Nat → Nat × Nat} {g:Nat → Nat → Prop} {B:Nat → Prop} {a:AV} (h:cleanC a = true) (d:Nat):renA θ d a = a ∧ kg g B d a:=by
 cases a <;> simp [cleanC] at h <;> (cases d <;> exact ⟨rfl,trivial⟩)
theorem cleanL_ren {θ:Nat → Nat → Nat × Nat} {g:Nat → Nat → Prop} {B:Nat → Prop}:∀ {l:List AV},(∀ c ∈ l,cleanC c = true) → l.map (renA θ 3) = l ∧ ∀ c ∈ l,kg g B 3 c
 | [],_ => ⟨rfl,by simp⟩
 | a :: l,h => by
  obtain ⟨h1,h2⟩:=cleanC_ren (θ:=θ) (g:=g) (B:=B) (h a (by simp)) 3
  obtain ⟨h3,h4⟩:=cleanL_ren (θ:=θ) (g:=g) (B:=B) (l:=l) (fun c hc => h c (by simp [hc]))
  refine ⟨by rw [List.map_cons,h1,h3],fun c hc => ?_⟩
  rcases List.mem_cons.1 hc with e | hc
  ·rw [e]; exact h2
  ·exact h4 c hc
theorem map_id_of {f:AV → AV}:∀ {l:List AV},(∀ a ∈ l,f a = a) → l.map f = l
 | [],_ => rfl
 | a :: l,h => by rw [List.map_cons,h a (by simp),map_id_of fun b hb => h b (by simp [hb])]
theorem clean_ren {θ:Nat → Nat → Nat × Nat} {g:Nat → Nat → Prop} {B:Nat → Prop}:∀ (d:Nat) (a:AV),clean d a = true → renA θ d a = a ∧ kg g B d a
 | d,.v _,_ => by cases d <;> exact ⟨rfl,trivial⟩
 | d,.any,_ => by cases d <;> exact ⟨rfl,trivial⟩
 | d,.ro _ _ _,_ => by cases d <;> exact ⟨rfl,trivial⟩
 | d,.rop _,_ => by cases d <;> exact ⟨rfl,trivial⟩
 | d + 1,.agg cs,h => by
  simp only [clean,List.all_eq_true] at h
  refine ⟨?_,fun c hc => (clean_ren (θ:=θ) d c (h c hc)).2⟩
  simp only [renA]
  rw [map_id_of fun a ha => (clean_ren (g:=g) (B:=B) d a (h a ha)).1]
 | d + 1,.tup cs,h => by
  simp only [clean,List.all_eq_true] at h
  refine ⟨?_,fun c hc => (clean_ren (θ:=θ) d c (h c hc)).2⟩
  simp only [renA]
  rw [map_id_of fun a ha => (clean_ren (g:=g) (B:=B) d a (h a ha)).1]
 | d + 1,.fn f cs,h => by
  simp only [clean,List.all_eq_true] at h
  refine ⟨?_,fun c hc => (clean_ren (θ:=θ) d c (h c hc)).2⟩
  simp only [renA]
  rw [map_id_of fun a ha => (clean_ren (g:=g) (B:=B) d a (h a ha)).1]
 | d + 1,.iface t x,h => by
  simp only [clean] at h
  obtain ⟨h1,h2⟩:=clean_ren (θ:=θ) (g:=g) (B:=B) d x h
  exact ⟨by simp only [renA]; rw [h1],h2⟩
 | d + 1,.cond b x,h => by
  simp only [clean] at h
  obtain ⟨h1,h2⟩:=clean_ren (θ:=θ) (g:=g) (B:=B) d x h
  exact ⟨by simp only [renA]; rw [h1],h2⟩
 | 0,.agg _,h => by simp [clean] at h
 | 0,.tup _,h => by simp [clean] at h
 | 0,.fn _ _,h => by simp [clean] at h
 | 0,.iface _ _,h => by simp [clean] at h
 | 0,.cond _ _,h => by simp [clean] at h
 | 0,.bx _ _,h => by simp [clean] at h
 | 0,.ptr _ _ _ _ _,h => by simp [clean] at h
 | 0,.own _ _ _ _,h => by simp [clean] at h
 | 0,.vw _ _ _ _ _,h => by simp [clean] at h
 | d + 1,.bx _ _,h => by simp [clean] at h
 | d + 1,.ptr _ _ _ _ _,h => by simp [clean] at h
 | d + 1,.own _ _ _ _,h => by simp [clean] at h
 | d + 1,.vw _ _ _ _ _,h => by simp [clean] at h
theorem cleans_ren {θ:Nat → Nat → Nat × Nat} {g:Nat → Nat → Prop} {B:Nat → Prop} {l:List AV} (h:∀ a ∈ l,clean 3 a = true):l.map (renA θ 3) = l ∧ ∀ a ∈ l,kg g B 3 a:=
 ⟨map_id_of fun a ha => (clean_ren (g:=g) (B:=B) 3 a (h a ha)).1,fun a ha => (clean_ren (θ:=θ) 3 a (h a ha)).2⟩
section
variable {P:Program} {G:Ctx} {H:Hots} {t:Slots} {m:Mem} {nx:Nat} {Q:AV → Mem → Prop} {rs:List ResultVar} {l:List AV} {a:AV}
def tupOf:List AV → AV
 | [a] => a
 | l => .tup l
theorem tupOf_nil:tupOf [] = .tup []:=(rfl)
theorem tupOf_one:tupOf [a] = a:=(rfl)
theorem tupOf_two {b:AV}:tupOf (a :: b :: l) = .tup (a :: b :: l):=(rfl)
def retML (P:Program) (t:Slots) (m:Mem) (Q:AV → Mem → Prop):List ResultVar → List AV → Prop
 | [],l => Q (tupOf l) m
 | r :: rs,l => match resE P t m r with
  | some e => conj e.ob (retML P t m Q rs (l ++ [e.val]))
  | none => False
def retMS (P:Program) (t:Slots) (m:Mem) (Q:AV → Mem → Prop) (rs:List ResultVar) (l:List AV) (x:Option Eff):Prop:=match x with
 | some e => conj e.ob (retML P t m Q rs (l ++ [e.val]))
 | none => False
theorem retML_nil:retML P t m Q [] l = Q (tupOf l) m:=(rfl)
theorem retML_cons {r:ResultVar}:retML P t m Q (r :: rs) l = retMS P t m Q rs l (resE P t m r):=(rfl)
theorem retMS_some {ob:List Prop} {u:Upd}:retMS P t m Q rs l (some ⟨ob,a,u⟩) = conj ob (retML P t m Q rs (l ++ [a])):=(rfl)
def endMR (P:Program) (rs:List ResultVar) (Q:AV → Mem → Prop) (e:AEx) (s:St):Prop:=match e with
 | .exit _ => False
 | _ => retML P s.t s.m Q rs []
theorem endMR_ret:endMR P rs Q .ret ⟨t,m,nx⟩ = retML P t m Q rs []:=(rfl)
theorem endMR_normal:endMR P rs Q .normal ⟨t,m,nx⟩ = retML P t m Q rs []:=(rfl)
theorem retML_sound {s:St}:∀ {rs:List ResultVar} {l:List AV},retML P s.t s.m Q rs l → ∃ ob es,resList P s rs = some (ob,es) ∧ (∀ p ∈ ob,p) ∧ Q (tupOf (l ++ es)) s.m
 | [],l,h => ⟨[],[],rfl,by simp,by simpa [retML] using h⟩
 | r :: rs,l,h => by
  simp only [retML] at h
  split at h
  ·rename_i e he
   obtain ⟨ob,es,h1,h2,h3⟩:=retML_sound (rs:=rs) (conj_iff.1 h).2
   refine ⟨e.ob ++ ob,e.val :: es,?_,fun p hp => ?_,by simpa using h3⟩
   ·simp only [resList,resOf_E he,h1]
   ·rcases List.mem_append.1 hp with hp | hp
    ·exact (conj_iff.1 h).1 p hp
    ·exact h2 p hp
  ·exact h.elim
theorem endMR_sound {s:St} {fn:Func} (hr:fn.results.toList = rs) {e:AEx} (h:endMR P rs Q e s):endM P fn Q e s:=by
 have key:retML P s.t s.m Q rs [] → match resAll P s fn.results.toList with
   | some (ob,a) => conj ob (Q a s.m)
   | none => False:=fun h => by
  obtain ⟨ob,es,h1,h2,h3⟩:=retML_sound h
  rw [hr]
  simp only [resAll,h1]
  rw [List.nil_append] at h3
  cases es with
  | nil => exact conj_iff.2 ⟨h2,h3⟩
  | cons a es => cases es with
   | nil => exact conj_iff.2 ⟨h2,h3⟩
   | cons b es => exact conj_iff.2 ⟨h2,h3⟩
 cases e with
 | exit j => exact h.elim
 | normal => exact key h
 | ret => exact key h
def bodyM (P:Program) (G:Ctx) (H:Hots) (fn:Func) (es:List AV) (m:Mem) (nx:Nat) (Q:AV → Mem → Prop):Prop:=∃ cd,fn.body = some cd ∧ awp P G H cd ⟨argSlots 0 es,m,nx⟩ (endM P fn Q)
theorem bodyM_go {fn:Func} {c:Code} {es:List AV} (hb:fn.body = some c) (hr:fn.results.toList = rs) (h:goC P G H (endMR P rs Q) c [] ⟨argSlots 0 es,m,nx⟩):bodyM P G H fn es m nx Q:=
 ⟨c,hb,awp_mono (fun e s h => endMR_sound hr h) h⟩
theorem bodyM.mono {fn:Func} {es:List AV} {Q':AV → Mem → Prop} (h:bodyM P G H fn es m nx Q) (hq:∀ a m,Q a m → Q' a m):bodyM P G H fn es m nx Q':=by
 obtain ⟨cd,h1,h2⟩:=h
 refine ⟨cd,h1,awp_mono (fun e s h => ?_) h2⟩
 cases e with
 | exit j => exact h
 | normal =>
  simp only [endM] at h ⊢
  split at h
  ·rename_i ob x hx; exact conj_mono (hq _ _) h
  ·exact h
 | ret =>
  simp only [endM] at h ⊢
  split at h
  ·rename_i ob x hx; exact conj_mono (hq _ _) h
  ·exact h
end
def alike (x y:Row):Prop:=y.n = x.n ∧ y.sz = x.sz ∧ y.ty = x.ty ∧ y.g = x.g ∧ ∀ i,i < x.n → y.get i = x.get i
theorem alike.refl (x:Row):alike x x:=⟨rfl,rfl,rfl,rfl,fun _ _ => rfl⟩
def cleanCs:List AV → Bool
 | [] => true
 | a :: l => cleanC a && cleanCs l
theorem cleanCs_mem:∀ {l:List AV},cleanCs l = true → ∀ c ∈ l,cleanC c = true
 | [],_,c,h => by cases h
 | a :: l,h,c,hc => by
  simp only [cleanCs,Bool.and_eq_true] at h
  rcases List.mem_cons.1 hc with e | hc
  ·rw [e]; exact h.1
  ·exact cleanCs_mem h.2 c hc
def selfC (r:Nat):AV → Bool
 | .ptr q _ _ _ _ => decide (q = r)
 | a => cleanC a
def bk:AV → AV
 | .ptr _ f i sz k => .ptr 0 f i sz k
 | a => a
def famBk (fam:Fam):Fam:=fun f => { fam f with get:=fun j => ((fam f).get j).map bk }
def famOK (r:Nat) (fam:Fam):Prop:=∀ f,(fam f).g = none ∧ ∀ j,j < (fam f).n → ∀ c ∈ (fam f).get j,selfC r c = true
theorem bk_clean {c:AV} (h:cleanC c = true):bk c = c:=by cases c <;> first | rfl | simp [cleanC] at h
theorem bks_clean:∀ {l:List AV},(∀ c ∈ l,cleanC c = true) → l.map bk = l
 | [],_ => rfl
 | a :: l,h => by rw [List.map_cons,bk_clean (h a (by simp)),bks_clean fun c hc => h c (by simp [hc])]
theorem selfC_ren {r:Nat} {θ:Nat → Nat → Nat × Nat} {g:Nat → Nat → Prop} {B:Nat → Prop} (hθ:∀ f,θ 0 f = (r,f)) (hg:∀ f,g 0 f) {c:AV} (h:selfC r c = true):renA θ 3 (bk c) = c ∧ kg g B 3 (bk c):=by
 cases c with
 | ptr q f i sz k =>
  simp only [selfC,decide_eq_true_eq] at h
  subst h
  refine ⟨?_,hg f⟩
  show AV.ptr (θ 0 f).1 (θ 0 f).2 i sz k = _
  rw [hθ]
 | v x => exact ⟨rfl,trivial⟩
 | any => exact ⟨rfl,trivial⟩
 | ro n sz get => exact ⟨rfl,trivial⟩
 | rop cs => exact ⟨rfl,trivial⟩
 | _ => simp [selfC,cleanC] at h
theorem rowRen_self {r:Nat} {θ:Nat → Nat → Nat × Nat} {g:Nat → Nat → Prop} {B:Nat → Prop} (hθ:∀ f,θ 0 f = (r,f)) (hg:∀ f,g 0 f) {x:Row} (h:∀ j,j < x.n → ∀ c ∈ x.get j,selfC r c = true):rowRen θ g B { x with get:=fun j => (x.get j).map bk } x:=by
 refine ⟨rfl,rfl,rfl,rfl,fun j hj => ?_⟩
 have h1:=h j hj
 refine ⟨?_,fun c hc => ?_⟩
 ·dsimp only
  rw [List.map_map]
  exact (map_id_of fun a ha => (selfC_ren (g:=g) (B:=B) hθ hg (h1 a ha)).1).symm
 ·dsimp only at hc
  obtain ⟨c0,hc0,rfl⟩:=List.mem_map.1 hc
  exact (selfC_ren (θ:=θ) hθ hg (h1 c0 hc0)).2
theorem famBk_E {fam:Fam} {f i:Nat} {cs:List AV} (h:∀ c ∈ cs,cleanC c = true):famBk (famE fam f i cs) = famE (famBk fam) f i cs:=by
 funext f'
 unfold famBk famE
 by_cases e:f' = f
 ·subst e
  simp only [if_true]
  congr 1
  funext j
  by_cases e:j = i
  ·simp only [e,if_true]; exact bks_clean h
  ·simp [e]
 ·simp [e]
theorem famOK_E {r:Nat} {fam:Fam} {f i:Nat} {cs:List AV} (h:famOK r fam) (hc:∀ c ∈ cs,cleanC c = true):famOK r (famE fam f i cs):=fun f' => by
 refine ⟨by rw [famE_g]; exact (h f').1,fun j hj c hcm => ?_⟩
 rw [famE_n] at hj
 by_cases e:f' = f
 ·subst e
  simp only [famE,if_true] at hcm
  split at hcm
  ·have:=hc c hcm
   cases c <;> first | exact this | simp [cleanC] at this
  ·exact (h f').2 j hj c hcm
 ·rw [famE_off e] at hcm
  exact (h f').2 j hj c hcm
theorem famOK_bk {r:Nat} {fam:Fam} (h:famOK r fam):famOK 0 (famBk fam):=fun f => by
 refine ⟨(h f).1,fun j hj c hc => ?_⟩
 obtain ⟨c0,h0,rfl⟩:=List.mem_map.1 hc
 have:=(h f).2 j hj c0 h0
 cases c0 <;> first | rfl | exact this | simp [selfC,cleanC] at this
theorem rowRen_clean' {θ:Nat → Nat → Nat × Nat} {g:Nat → Nat → Prop} {B:Nat → Prop} {x0 x:Row} (h:alike x0 x) (hc:∀ j,j < x0.n → ∀ c ∈ x0.get j,cleanC c = true):rowRen θ g B x0 x:=by
 obtain ⟨h1,h2,h3,h4,h5⟩:=h
 refine ⟨h1,h2,h3,h4,fun j hj => ?_⟩
 obtain ⟨k1,k2⟩:=cleanL_ren (θ:=θ) (g:=g) (B:=B) (hc j hj)
 exact ⟨by rw [k1]; exact h5 j hj,k2⟩
theorem look_one {k:Nat} {x:Fam}:look [(k,x)] k = some x:=by simp [look]
theorem thE_0 {r:Nat}:∀ f,thE [r] 0 f = (r,f):=fun f => rfl
theorem thL_0 {r key:Nat} {l:List Nat} {th:Nat → Nat → Nat}:∀ f,thL (r :: l) key th 0 f = (r,f):=fun f => by simp [thL]
theorem lowG_0:∀ f,lowG 1 0 f:=fun _ => Nat.zero_lt_one
theorem newG_0 {N:Nat} {σ:Nat → Option (Nat × Nat)} {th:Nat → Nat → Nat} (h:0 < N):∀ f,newG N σ th 0 f:=fun _ => .inl h
section
variable {P:Program} {G:Ctx} {H:Hots} {f:FuncId} {fn:Func}
theorem one_okG {r key:Nat} {fam fam' x0 y0:Fam} {m:Mem} {es es0:List AV} {val val0:AV} {ob:List Prop} (hl:look m r = some fam) (h1:∀ f,(fam f).g = none ∧ rowRen (thE [r]) (lowG 1) (lowB 1) (x0 f) (fam f))
  (h2:∀ th σ f,rowRen (thL [r] key th) (newG 1 σ th) (newB 1 σ) (y0 f) (fam' f) ∧ (y0 f).g ≠ some false) (ha:es = es0.map (renA (thE [r]) 3)) (hak:∀ a ∈ es0,kg (lowG 1) (lowB 1) 3 a)
  (hfn:funcOK P H fn es0.length = true) (hv:∀ th:Nat → Nat → Nat,∀ σ:Nat → Option (Nat × Nat),val = renA (thL [r] key th) 3 val0 ∧ kg (newG 1 σ th) (newB 1 σ) 3 val0)
  (hb:bodyM P G H fn es0 [(0,x0)] 1 fun a m1 => a = val0 ∧ look m1 0 = some y0) :
  ∃ ks m0 as0,Entry ks m m0 es as0 ∧ funcOK P H fn as0.length = true ∧ bodyM P G H fn as0 m0 ks.length fun a m1 => ∃ σ th ys nw,(⟨ob,val,.many [(r,fam')] none⟩:Eff).u = .many (ks.zip ys) nw ∧ Leave key ks σ th m1 a ys nw val:=by
 refine ⟨[r],[(0,x0)],es0,⟨by simp,ha,hak,fun j hj => ?_,fun q x hq => ?_⟩,hfn,hb.mono fun a m1 ⟨q1,q2⟩ => ?_⟩
 ·have:j = 0:=by simp at hj; omega
  subst this
  exact ⟨_,fam,look_one,hl,h1⟩
 ·by_cases e:q = 0
  ·subst e; simp
  ·simp [look,Ne.symm e] at hq
 ·obtain ⟨v1,v2⟩:=hv (fun _ _ => 0) (fun _ => none)
  refine ⟨fun _ => none,fun _ _ => 0,[fam'],none,rfl,⟨fun f r g h => by simp at h,by rw [q1]; exact v1,by rw [q1]; exact v2,rfl,fun j hj => ?_,fun _ => rfl⟩⟩
  have:j = 0:=by simp at hj; omega
  subst this
  exact ⟨_,_,q2,rfl,h2 _ _⟩
theorem one_ok {r key:Nat} {fam fam':Fam} {m:Mem} {es es0:List AV} {val val0:AV} {ob:List Prop} (hl:look m r = some fam) (h1:famOK r fam) (h2:famOK r fam') (ha:es = es0.map (renA (thE [r]) 3)) (hak:∀ a ∈ es0,kg (lowG 1) (lowB 1) 3 a)
  (hfn:funcOK P H fn es0.length = true) (hv:∀ th:Nat → Nat → Nat,∀ σ:Nat → Option (Nat × Nat),val = renA (thL [r] key th) 3 val0 ∧ kg (newG 1 σ th) (newB 1 σ) 3 val0)
  (hb:bodyM P G H fn es0 [(0,famBk fam)] 1 fun a m1 => a = val0 ∧ look m1 0 = some (famBk fam')) :
  ∃ ks m0 as0,Entry ks m m0 es as0 ∧ funcOK P H fn as0.length = true ∧ bodyM P G H fn as0 m0 ks.length fun a m1 => ∃ σ th ys nw,(⟨ob,val,.many [(r,fam')] none⟩:Eff).u = .many (ks.zip ys) nw ∧ Leave key ks σ th m1 a ys nw val:=
 one_okG hl (fun f => ⟨(h1 f).1,rowRen_self thE_0 lowG_0 (h1 f).2⟩) (fun th σ f => ⟨rowRen_self thL_0 (newG_0 (by simp)) (h2 f).2,by show (fam' f).g ≠ _; rw [(h2 f).1]; simp⟩) ha hak hfn hv hb
def mcP (sz:Nat) (F:List AV → List AV → Option (List Prop × AV × List AV)):MCon:=fun key m es => match es with
 | .ptr r f i sz' 0 :: rest => match look m r with
  | some fam => match F ((fam f).get i) rest with
   | some (ob,val,cs) => some ⟨(i < (fam f).n) :: (sz' = sz) :: (sz = (fam f).sz) :: (cleanCs ((fam f).get i) = true) :: famOK r fam :: ob,val,.many [(r,famE fam f i cs)] none⟩
   | none => none
  | none => none
 | _ => none
def wb1 (fam:Fam) (cs:List AV):Fam:=fun f => if f = 0 then { fam 0 with get:=fun _ => cs } else fam f
def mc1 (sz:Nat) (F:List AV → List AV → Option (List Prop × AV × List AV)):MCon:=fun key m es => match es with
 | .bx r 0 :: rest => match look m r with
  | some fam => match F ((fam 0).get 0) rest with
   | some (ob,val,cs) => some ⟨((fam 0).n = 1) :: (sz = (fam 0).sz) :: (cleanCs ((fam 0).get 0) = true) :: famOK r fam :: ob,val,.many [(r,wb1 fam cs)] none⟩
   | none => none
  | none => none
 | es => mcP sz F key m es
def OneOK (P:Program) (G:Ctx) (H:Hots) (fn:Func) (sz:Nat) (F:List AV → List AV → Option (List Prop × AV × List AV)):Prop:=
 ∀ cells rest ob val cs,F cells rest = some (ob,val,cs) → (∀ p ∈ ob,p) → (∀ a ∈ rest,clean 3 a = true) ∧ clean 3 val = true ∧ (∀ c ∈ cs,cleanC c = true) ∧ funcOK P H fn (rest.length + 1) = true ∧
  ∀ (fam:Fam) (f i:Nat),i < (fam f).n → sz = (fam f).sz → (∀ f,(fam f).g = none) → famOK 0 fam → bodyM P G H fn (.ptr 0 f i sz 0 :: rest) [(0,famE fam f i cells)] 1 fun a m1 => a = val ∧ look m1 0 = some (famE fam f i cs)
theorem MConOK.mcP (hG:CtxOK P G) (hf:P.funcs[f]? = some fn) {sz:Nat} {F:List AV → List AV → Option (List Prop × AV × List AV)} (h:OneOK P G H fn sz F):MConOK P f (mcP sz F):=by
 refine MConOK.of (H:=H) hG hf fun key m es e hc hob => ?_
 unfold Ax.mcP at hc
 split at hc
 ·rename_i r f' i sz' rest
  split at hc
  ·rename_i fam hl
   split at hc
   ·rename_i ob val cs hF
    cases hc
    have hi:i < (fam f').n:=hob _ (by simp)
    have hsz':sz' = sz:=hob _ (by simp)
    have hsz:sz = (fam f').sz:=hob _ (by simp)
    have hcl:cleanCs ((fam f').get i) = true:=hob _ (by simp)
    have hok:famOK r fam:=hob _ (by simp)
    subst hsz'
    obtain ⟨h1,h2,h3,h4,h5⟩:=h _ _ _ _ _ hF fun p hp => hob p (by simp [hp])
    obtain ⟨a1,a2⟩:=cleans_ren (θ:=thE [r]) (g:=lowG 1) (B:=lowB 1) h1
    refine one_ok hl hok (famOK_E hok h3) (es0:=.ptr 0 f' i sz' 0 :: rest) (val0:=val) ?_ ?_ h4 (fun th σ => ?_) ?_
    ·rw [List.map_cons,a1]; rfl
    ·intro a ha
     rcases List.mem_cons.1 ha with e | ha
     ·rw [e]; exact Nat.zero_lt_one
     ·exact a2 a ha
    ·obtain ⟨b1,b2⟩:=clean_ren (θ:=thL [r] key th) (g:=newG 1 σ th) (B:=newB 1 σ) 3 val h2
     exact ⟨b1.symm,b2⟩
    ·have e1:famBk fam = famE (famBk fam) f' i ((fam f').get i):=by
      have:=famBk_E (fam:=fam) (f:=f') (i:=i) (cleanCs_mem hcl)
      rw [famE_self] at this
      exact this
     rw [e1,famBk_E h3]
     exact h5 (famBk fam) f' i hi hsz (fun f => (hok f).1) (famOK_bk hok)
   ·cases hc
  ·cases hc
 ·cases hc
theorem MConOK.mc1 (hG:CtxOK P G) (hf:P.funcs[f]? = some fn) {sz:Nat} {F:List AV → List AV → Option (List Prop × AV × List AV)} (h:OneOK P G H fn sz F):MConOK P f (mc1 sz F):=by
 intro w0 ρ m m' D w key es vs e hR hk hm hRs hc hob hmany
 unfold Ax.mc1 at hc
 split at hc
 ·rename_i r rest
  split at hc
  ·rename_i fam hl
   split at hc
   ·rename_i ob val cs hF
    cases hc
    have hn:(fam 0).n = 1:=hob _ (by simp)
    have hsz:sz = (fam 0).sz:=hob _ (by simp)
    have hcl:cleanCs ((fam 0).get 0) = true:=hob _ (by simp)
    have hok:famOK r fam:=hob _ (by simp)
    have hRs':Rs w ρ (.ptr r 0 0 sz 0 :: rest) vs:=by
     obtain ⟨x,xs,rfl,h1,h2⟩:=hRs.inv
     refine .cons ?_ h2
     cases h1 with
     | bx hd =>
      have:R w ρ (.ptr r 0 0 sz 0) (.pointer (some ⟨ρ.blk r 0,0 * sz + 0,none⟩)):=.ptr hd
      rw [Nat.zero_mul] at this
      exact this
    have:=MConOK.mcP hG hf h w0 ρ m m' D w key _ vs ⟨(0 < (fam 0).n) :: (sz = sz) :: (sz = (fam 0).sz) :: (cleanCs ((fam 0).get 0) = true) :: famOK r fam :: ob,val,.many [(r,famE fam 0 0 cs)] none⟩ hR hk hm hRs'
     (by simp only [Ax.mcP,hl,hF]) (fun p hp => by
      simp only [List.mem_cons] at hp
      rcases hp with rfl | rfl | rfl | rfl | rfl | hp
      ·omega
      ·trivial
      ·exact hsz
      ·exact hcl
      ·exact hok
      ·exact hob p (by simp [hp])) ⟨_,_,rfl⟩
    refine this.mono fun v w' ⟨ρ',p1,p2,p3,p4⟩ => ⟨ρ',p1,?_,p3,p4⟩
    have p2:Rel w0 ρ' (setRow r (famE fam 0 0 cs) m) (fun r => D r ∨ r = key) w':=p2
    refine Rel.alike p2 fun f => ?_
    by_cases e:f = 0
    ·subst e
     refine ⟨rfl,rfl,rfl,rfl,fun i hi => ?_⟩
     rw [famE_n,hn] at hi
     have:i = 0:=by omega
     subst this
     rw [famE_get]; rfl
    ·unfold wb1
     rw [if_neg e,famE_off e]
     exact ⟨rfl,rfl,rfl,rfl,fun _ _ => rfl⟩
   ·cases hc
  ·cases hc
 ·exact MConOK.mcP hG hf h w0 ρ m m' D w key es vs e hR hk hm hRs hc hob hmany
def mcPP (sz:Nat) (F:List AV → List AV → List AV → Option (List Prop × AV × List AV × List AV)):MCon:=fun key m es => match es with
 | .ptr r f i sz1 0 :: .ptr r' f' i' sz2 0 :: rest => match look m r with
  | some fam => match F ((fam f).get i) ((fam f').get i') rest with
   | some (ob,val,cs,cs') => some ⟨(r' = r) :: (f ≠ f') :: (i < (fam f).n) :: (i' < (fam f').n) :: (sz1 = sz) :: (sz2 = sz) :: (sz = (fam f).sz) :: (sz = (fam f').sz) :: (cleanCs ((fam f).get i) = true) :: (cleanCs ((fam f').get i') = true) :: famOK r fam :: ob,val,.many [(r,famE (famE fam f i cs) f' i' cs')] none⟩
   | none => none
  | none => none
 | _ => none
def TwoOK (P:Program) (G:Ctx) (H:Hots) (fn:Func) (sz:Nat) (F:List AV → List AV → List AV → Option (List Prop × AV × List AV × List AV)):Prop:=
 ∀ c1 c2 rest ob val cs cs',F c1 c2 rest = some (ob,val,cs,cs') → (∀ p ∈ ob,p) → (∀ a ∈ rest,clean 3 a = true) ∧ clean 3 val = true ∧ (∀ c ∈ cs,cleanC c = true) ∧ (∀ c ∈ cs',cleanC c = true) ∧ funcOK P H fn (rest.length + 2) = true ∧
  ∀ (fam:Fam) (f i f' i':Nat),f ≠ f' → i < (fam f).n → i' < (fam f').n → sz = (fam f).sz → sz = (fam f').sz → (∀ f,(fam f).g = none) → famOK 0 fam →
   bodyM P G H fn (.ptr 0 f i sz 0 :: .ptr 0 f' i' sz 0 :: rest) [(0,famE (famE fam f i c1) f' i' c2)] 1 fun a m1 => a = val ∧ look m1 0 = some (famE (famE fam f i cs) f' i' cs')
theorem MConOK.mcPP (hG:CtxOK P G) (hf:P.funcs[f]? = some fn) {sz:Nat} {F:List AV → List AV → List AV → Option (List Prop × AV × List AV × List AV)} (h:TwoOK P G H fn sz F):MConOK P f (mcPP sz F):=by
 refine MConOK.of (H:=H) hG hf fun key m es e hc hob => ?_
 unfold Ax.mcPP at hc
 split at hc
 ·rename_i r f1 i1 s1 r' f2 i2 s2 rest
  split at hc
  ·rename_i fam hl
   split at hc
   ·rename_i ob val cs cs' hF
    cases hc
    have hr:r' = r:=hob _ (by simp)
    have hne:f1 ≠ f2:=hob _ (by simp)
    have hi:i1 < (fam f1).n:=hob _ (by simp)
    have hi':i2 < (fam f2).n:=hob _ (by simp)
    have hs1:s1 = sz:=hob _ (by simp)
    have hs2:s2 = sz:=hob _ (by simp)
    have hz1:sz = (fam f1).sz:=hob _ (by simp)
    have hz2:sz = (fam f2).sz:=hob _ (by simp)
    have hc1:cleanCs ((fam f1).get i1) = true:=hob _ (by simp)
    have hc2:cleanCs ((fam f2).get i2) = true:=hob _ (by simp)
    have hok:famOK r fam:=hob _ (by simp)
    subst hr hs1 hs2
    obtain ⟨h1,h2,h3,h3',h4,h5⟩:=h _ _ _ _ _ _ _ hF fun p hp => hob p (by simp [hp])
    obtain ⟨a1,a2⟩:=cleans_ren (θ:=thE [r']) (g:=lowG 1) (B:=lowB 1) h1
    refine one_ok hl hok (famOK_E (famOK_E hok h3) h3') (es0:=.ptr 0 f1 i1 s2 0 :: .ptr 0 f2 i2 s2 0 :: rest) (val0:=val) ?_ ?_ h4 (fun th σ => ?_) ?_
    ·rw [List.map_cons,List.map_cons,a1]; rfl
    ·intro a ha
     rcases List.mem_cons.1 ha with e | ha
     ·rw [e]; exact Nat.zero_lt_one
     ·rcases List.mem_cons.1 ha with e | ha
      ·rw [e]; exact Nat.zero_lt_one
      ·exact a2 a ha
    ·obtain ⟨b1,b2⟩:=clean_ren (θ:=thL [r'] key th) (g:=newG 1 σ th) (B:=newB 1 σ) 3 val h2
     exact ⟨b1.symm,b2⟩
    ·have e1:famBk fam = famE (famE (famBk fam) f1 i1 ((fam f1).get i1)) f2 i2 ((fam f2).get i2):=by
      have k1:=famBk_E (fam:=fam) (f:=f1) (i:=i1) (cleanCs_mem hc1)
      rw [famE_self] at k1
      have k2:=famBk_E (fam:=fam) (f:=f2) (i:=i2) (cleanCs_mem hc2)
      rw [famE_self] at k2
      rw [← k1,← k2]
     rw [e1,famBk_E h3',famBk_E h3]
     exact h5 (famBk fam) f1 i1 f2 i2 hne hi hi' hz1 hz2 (fun f => (hok f).1) (famOK_bk hok)
   ·cases hc
  ·cases hc
 ·cases hc
def tabOK (K N sz:Nat) (tp ty:TypeId) (fam:Fam):Prop:=(∀ f,alike (famT K N sz tp ty (fun i => (fam (i + 1)).get 0) f) (fam f)) ∧ ∀ i,i < N → cleanCs ((fam (i + 1)).get 0) = true
theorem rowRen_T {θ:Nat → Nat → Nat × Nat} {g:Nat → Nat → Prop} {B:Nat → Prop} {K N sz:Nat} {tp ty:TypeId} {get:Nat → List AV} (hθ:∀ f,θ 0 f = (K,f)) (hg:∀ f,g 0 f) (hc:∀ i,i < N → cleanCs (get i) = true) (f:Nat) :
  rowRen θ g B (famT 0 N sz tp ty get f) (famT K N sz tp ty get f):=by
 cases f with
 | zero =>
  refine ⟨rfl,rfl,rfl,rfl,fun j hj => ⟨?_,fun c hc => ?_⟩⟩
  ·show [AV.ptr K (j + 1) 0 sz 0] = [AV.ptr (θ 0 (j + 1)).1 (θ 0 (j + 1)).2 0 sz 0]
   rw [hθ]
  ·simp only [famT,List.mem_singleton] at hc
   rw [hc]; exact hg _
 | succ f =>
  refine rowRen_clean' ⟨rfl,rfl,rfl,rfl,fun _ _ => rfl⟩ fun j hj c hcm => ?_
  simp only [famT] at hj hcm
  split at hj
  ·rename_i hf
   have:j = 0:=by omega
   subst this
   exact cleanCs_mem (hc f hf) c (by simpa using hcm)
  ·omega
theorem rowRen_alike {θ:Nat → Nat → Nat × Nat} {g:Nat → Nat → Prop} {B:Nat → Prop} {x0 x y:Row} (h:rowRen θ g B x0 x) (k:alike x y):rowRen θ g B x0 y:=by
 obtain ⟨h1,h2,h3,h4,h5⟩:=h
 obtain ⟨k1,k2,k3,k4,k5⟩:=k
 refine ⟨k1.trans h1,k2.trans h2,k3.trans h3,k4.trans h4,fun j hj => ?_⟩
 obtain ⟨a,b⟩:=h5 j hj
 exact ⟨(k5 j (by omega)).trans a,b⟩
theorem famT_g {K N sz:Nat} {tp ty:TypeId} {get:Nat → List AV} {f:Nat}:(famT K N sz tp ty get f).g = none:=by cases f <;> rfl
theorem tabOK_in {K N sz:Nat} {tp ty:TypeId} {fam:Fam} (h:tabOK K N sz tp ty fam) (f:Nat):(fam f).g = none ∧ rowRen (thE [K]) (lowG 1) (lowB 1) (famT 0 N sz tp ty (fun i => (fam (i + 1)).get 0) f) (fam f):=
 ⟨(h.1 f).2.2.2.1.trans famT_g,rowRen_alike (rowRen_T thE_0 lowG_0 h.2 f) (h.1 f)⟩
def mcT (sz:Nat) (tp ty:TypeId) (F:Nat → (Nat → List AV) → List AV → Option (List Prop × AV × (Nat → List AV))):MCon:=fun key m es => match es with
 | .own K 0 N 1 :: rest => match look m K with
  | some fam => match F N (fun i => (fam (i + 1)).get 0) rest with
   | some (ob,val,get') => some ⟨tabOK K N sz tp ty fam :: ob,val,.many [(K,famT K N sz tp ty get')] none⟩
   | none => none
  | none => none
 | _ => none
def TabOK (P:Program) (G:Ctx) (H:Hots) (fn:Func) (sz:Nat) (tp ty:TypeId) (F:Nat → (Nat → List AV) → List AV → Option (List Prop × AV × (Nat → List AV))):Prop:=
 ∀ N get rest ob val get',F N get rest = some (ob,val,get') → (∀ p ∈ ob,p) → (∀ i,i < N → cleanCs (get i) = true) → (∀ a ∈ rest,clean 3 a = true) ∧ clean 3 val = true ∧ (∀ i,i < N → cleanCs (get' i) = true) ∧ funcOK P H fn (rest.length + 1) = true ∧
  bodyM P G H fn (.own 0 0 N 1 :: rest) [(0,famT 0 N sz tp ty get)] 1 fun a m1 => a = val ∧ look m1 0 = some (famT 0 N sz tp ty get')
theorem MConOK.mcT (hG:CtxOK P G) (hf:P.funcs[f]? = some fn) {sz:Nat} {tp ty:TypeId} {F:Nat → (Nat → List AV) → List AV → Option (List Prop × AV × (Nat → List AV))} (h:TabOK P G H fn sz tp ty F):MConOK P f (mcT sz tp ty F):=by
 refine MConOK.of (H:=H) hG hf fun key m es e hc hob => ?_
 unfold Ax.mcT at hc
 split at hc
 ·rename_i K N rest
  split at hc
  ·rename_i fam hl
   split at hc
   ·rename_i ob val get' hF
    cases hc
    have hok:tabOK K N sz tp ty fam:=hob _ (by simp)
    obtain ⟨h1,h2,h3,h4,h5⟩:=h _ _ _ _ _ _ hF (fun p hp => hob p (by simp [hp])) hok.2
    obtain ⟨a1,a2⟩:=cleans_ren (θ:=thE [K]) (g:=lowG 1) (B:=lowB 1) h1
    refine one_okG hl (tabOK_in hok) (fun th σ f => ⟨rowRen_T thL_0 (newG_0 (by simp)) h3 f,by rw [famT_g]; simp⟩) (es0:=.own 0 0 N 1 :: rest) (val0:=val) ?_ ?_ h4 (fun th σ => ?_) h5
    ·rw [List.map_cons,a1]; rfl
    ·intro a ha
     rcases List.mem_cons.1 ha with e | ha
     ·rw [e]; exact Nat.zero_lt_one
     ·exact a2 a ha
    ·obtain ⟨b1,b2⟩:=clean_ren (θ:=thL [K] key th) (g:=newG 1 σ th) (B:=newB 1 σ) 3 val h2
     exact ⟨b1.symm,b2⟩
   ·cases hc
  ·cases hc
 ·cases hc
def whole (K:Nat) (f:Nat):Option (Nat × Nat):=some (K,f)
end
section
variable {K N sz n r f i:Nat} {tp ty:TypeId} {get:Nat → List AV} {cs l:List AV} {g:Option Bool} {a:AV}
theorem cleanCs_nil:cleanCs [] = true:=(rfl)
theorem cleanCs_v {x:Value}:cleanCs (.v x :: l) = cleanCs l:=by simp [cleanCs,cleanC]
theorem cleanCs_any:cleanCs (.any :: l) = cleanCs l:=by simp [cleanCs,cleanC]
theorem cleanCs_ro {q:Nat → List AV}:cleanCs (.ro n sz q :: l) = cleanCs l:=by simp [cleanCs,cleanC]
theorem cleanCs_rop:cleanCs (.rop cs :: l) = cleanCs l:=by simp [cleanCs,cleanC]
theorem self_of_clean {c:AV} (h:cleanC c = true):selfC r c = true:=by cases c <;> first | exact h | simp [cleanC] at h
theorem famOK_1 (h:cleanCs cs = true):famOK r (fam1 ty sz cs none) = True:=eq_true fun f => by
 unfold fam1
 by_cases e:f = 0
 ·subst e
  exact ⟨rfl,fun j _ c hc => self_of_clean (cleanCs_mem h c (by simpa using hc))⟩
 ·simp only [e,if_false]
  exact ⟨trivial,fun j hj => by omega⟩
theorem famOK_N (h:∀ i,i < n → cleanCs (get i) = true):famOK r (famN n sz ty get none) = True:=eq_true fun f => by
 unfold famN
 by_cases e:f = 0
 ·subst e
  exact ⟨rfl,fun j hj c hc => self_of_clean (cleanCs_mem (h j (by simpa using hj)) c (by simpa using hc))⟩
 ·simp only [e,if_false]
  exact ⟨trivial,fun j hj => by omega⟩
theorem famOK_T (h:∀ i,i < N → cleanCs (get i) = true):famOK K (famT K N sz tp ty get) = True:=eq_true fun f => by
 cases f with
 | zero =>
  refine ⟨rfl,fun j _ c hc => ?_⟩
  simp only [famT,List.mem_singleton] at hc
  rw [hc]; simp [selfC]
 | succ f =>
  refine ⟨rfl,fun j hj c hc => ?_⟩
  simp only [famT] at hj hc
  split at hj
  ·rename_i hf
   have:j = 0:=by omega
   subst this
   exact self_of_clean (cleanCs_mem (h f hf) c (by simpa using hc))
  ·omega
theorem tabOK_T (h:∀ i,i < N → cleanCs (get i) = true):tabOK K N sz tp ty (famT K N sz tp ty get) = True:=eq_true ⟨fun f => by
 cases f <;> exact ⟨rfl,rfl,rfl,rfl,fun _ _ => rfl⟩,h⟩
theorem famT_get:(famT K N sz tp ty get (i + 1)).get 0 = get i:=(rfl)
theorem famT_n:(famT K N sz tp ty get (i + 1)).n = if i < N then 1 else 0:=(rfl)
theorem famT_sz:(famT K N sz tp ty get (i + 1)).sz = sz:=(rfl)
theorem fam1_get:(fam1 ty sz cs g 0).get i = cs:=(rfl)
theorem fam1_n:(fam1 ty sz cs g 0).n = 1:=(rfl)
theorem fam1_sz:(fam1 ty sz cs g 0).sz = sz:=(rfl)
theorem famN_get:(famN n sz ty get g 0).get i = get i:=(rfl)
theorem famN_n:(famN n sz ty get g 0).n = n:=(rfl)
theorem famN_sz:(famN n sz ty get g 0).sz = sz:=(rfl)
theorem famOK_Es {fam:Fam} (h:famOK r fam) (hc:cleanCs cs = true):famOK r (famE fam f i cs) = True:=eq_true (famOK_E h (cleanCs_mem hc))
theorem wb1_1:wb1 (fam1 ty sz cs g) l = fam1 ty sz l g:=by
 funext f
 unfold wb1 fam1
 by_cases e:f = 0 <;> simp [e]
theorem wb1_N {get:Nat → List AV}:wb1 (famN 1 sz ty get g) l = famN 1 sz ty (fun _ => l) g:=by
 funext f
 unfold wb1 famN
 by_cases e:f = 0 <;> simp [e]
end
attribute [go_sem] cleanCs_nil cleanCs_v cleanCs_any cleanCs_ro cleanCs_rop famOK_1 famOK_N famOK_T famOK_Es famE_n famE_sz famE_g famE_get famE_twice tabOK_T famT_get famT_n famT_sz fam1_get fam1_n fam1_sz famN_get famN_n famN_sz wb1_1 wb1_N famE_T lt_ite tupOf_nil tupOf_one tupOf_two retML_nil retML_cons retMS_some endMR_ret endMR_normal
end Go.Ax
end
section
/-
  Contracts of functions that write rows: a table and an element of another row; a slice of one's own; two pointers out of a table.
-/
namespace Go.Ax
section
variable {P:Program} {G:Ctx} {H:Hots} {f:FuncId} {fn:Func} {r s key:Nat}
theorem thL2_0 {th:Nat → Nat → Nat}:∀ f,thL [r,s] key th 0 f = (r,f):=fun f => by simp [thL]
def famCl (fam:Fam):Prop:=∀ f,(fam f).g = none ∧ ∀ j,j < (fam f).n → ∀ c ∈ (fam f).get j,cleanC c = true
theorem famCl_E {fam:Fam} {f i:Nat} {cs:List AV} (h:famCl fam) (hc:∀ c ∈ cs,cleanC c = true):famCl (famE fam f i cs):=fun f' => by
 refine ⟨by rw [famE_g]; exact (h f').1,fun j hj c hcm => ?_⟩
 rw [famE_n] at hj
 by_cases e:f' = f
 ·subst e
  simp only [famE,if_true] at hcm
  split at hcm
  ·exact hc c hcm
  ·exact (h f').2 j hj c hcm
 ·rw [famE_off e] at hcm
  exact (h f').2 j hj c hcm
theorem rowRen_cl {θ:Nat → Nat → Nat × Nat} {g:Nat → Nat → Prop} {B:Nat → Prop} {fam:Fam} (h:famCl fam) (f:Nat):rowRen θ g B (fam f) (fam f):=rowRen_clean' (.refl _) (h f).2
theorem look_two0 {x y:Fam}:look [(1,y),(0,x)] 0 = some x:=by simp [look]
theorem look_two1 {x y:Fam}:look [(1,y),(0,x)] 1 = some y:=by simp [look]
theorem two_okG {fam fam' x0 y0 famB famB':Fam} {m:Mem} {es es0:List AV} {val val0:AV} {ob:List Prop} (hne:r ≠ s) (hl:look m r = some fam) (hl2:look m s = some famB)
  (h1:∀ f,(fam f).g = none ∧ rowRen (thE [r,s]) (lowG 2) (lowB 2) (x0 f) (fam f)) (hB:famCl famB) (hB':famCl famB')
  (h2:∀ th σ f,rowRen (thL [r,s] key th) (newG 2 σ th) (newB 2 σ) (y0 f) (fam' f) ∧ (y0 f).g ≠ some false) (ha:es = es0.map (renA (thE [r,s]) 3)) (hak:∀ a ∈ es0,kg (lowG 2) (lowB 2) 3 a)
  (hfn:funcOK P H fn es0.length = true) (hv:∀ th:Nat → Nat → Nat,∀ σ:Nat → Option (Nat × Nat),val = renA (thL [r,s] key th) 3 val0 ∧ kg (newG 2 σ th) (newB 2 σ) 3 val0)
  (hb:bodyM P G H fn es0 [(1,famB),(0,x0)] 2 fun a m1 => a = val0 ∧ look m1 0 = some y0 ∧ look m1 1 = some famB') :
  ∃ ks m0 as0,Entry ks m m0 es as0 ∧ funcOK P H fn as0.length = true ∧ bodyM P G H fn as0 m0 ks.length fun a m1 => ∃ σ th ys nw,(⟨ob,val,.many [(r,fam'),(s,famB')] none⟩:Eff).u = .many (ks.zip ys) nw ∧ Leave key ks σ th m1 a ys nw val:=by
 refine ⟨[r,s],[(1,famB),(0,x0)],es0,⟨by simp [hne],ha,hak,fun j hj => ?_,fun q x hq => ?_⟩,hfn,hb.mono fun a m1 ⟨q1,q2,q3⟩ => ?_⟩
 ·match j,hj with
  | 0,_ => exact ⟨_,fam,look_two0,hl,h1⟩
  | 1,_ => exact ⟨_,famB,look_two1,hl2,fun f => ⟨(hB f).1,rowRen_cl hB f⟩⟩
  | j + 2,hj => simp at hj; omega
 ·by_cases e:q = 0
  ·subst e; simp
  ·by_cases e1:q = 1
   ·subst e1; simp
   ·simp [look,Ne.symm e,Ne.symm e1] at hq
 ·obtain ⟨v1,v2⟩:=hv (fun _ _ => 0) (fun _ => none)
  refine ⟨fun _ => none,fun _ _ => 0,[fam',famB'],none,rfl,⟨fun f r g h => by simp at h,by rw [q1]; exact v1,by rw [q1]; exact v2,rfl,fun j hj => ?_,fun _ => rfl⟩⟩
  match j,hj with
  | 0,_ => exact ⟨_,_,q2,rfl,h2 _ _⟩
  | 1,_ => exact ⟨_,_,q3,rfl,fun f => ⟨rowRen_cl hB' f,by rw [(hB' f).1]; simp⟩⟩
  | j + 2,hj => simp at hj; omega
theorem tabOK_in2 {K C N sz:Nat} {tp ty:TypeId} {fam:Fam} (h:tabOK K N sz tp ty fam) (f:Nat):(fam f).g = none ∧ rowRen (thE [K,C]) (lowG 2) (lowB 2) (famT 0 N sz tp ty (fun i => (fam (i + 1)).get 0) f) (fam f):=
 ⟨(h.1 f).2.2.2.1.trans famT_g,rowRen_alike (rowRen_T (θ:=thE [K,C]) (g:=lowG 2) (B:=lowB 2) (fun _ => rfl) (fun _ => Nat.zero_lt_two) h.2 f) (h.1 f)⟩
def mcTPp (sz sz2:Nat) (tp ty:TypeId) (F:Nat → (Nat → List AV) → List AV → List AV → Option (List Prop × AV × (Nat → List AV) × List AV)):MCon:=fun key m es => match es with
 | .own K 0 N 1 :: .ptr C f i s2 0 :: rest => match look m K with
  | some fam => match look m C with
   | some famC => match F N (fun i => (fam (i + 1)).get 0) ((famC f).get i) rest with
    | some (ob,val,get',cs') => some ⟨(K ≠ C) :: (s2 = sz2) :: (i < (famC f).n) :: (sz2 = (famC f).sz) :: (cleanCs ((famC f).get i) = true) :: famCl famC :: tabOK K N sz tp ty fam :: ob,val,.many [(K,famT K N sz tp ty get'),(C,famE famC f i cs')] none⟩
    | none => none
   | none => none
  | none => none
 | _ => none
def mcTQ (sz sz2:Nat) (tp ty:TypeId) (F:Nat → (Nat → List AV) → List AV → List AV → Option (List Prop × AV × (Nat → List AV) × List AV)):MCon:=fun key m es => match es with
 | .own K 0 N 1 :: .bx C 0 :: rest => match look m K with
  | some fam => match look m C with
   | some famC => match F N (fun i => (fam (i + 1)).get 0) ((famC 0).get 0) rest with
    | some (ob,val,get',cs') => some ⟨(K ≠ C) :: ((famC 0).n = 1) :: (sz2 = (famC 0).sz) :: (cleanCs ((famC 0).get 0) = true) :: famCl famC :: tabOK K N sz tp ty fam :: ob,val,.many [(K,famT K N sz tp ty get'),(C,wb1 famC cs')] none⟩
    | none => none
   | none => none
  | none => none
 | es => mcTPp sz sz2 tp ty F key m es
def TPOK (P:Program) (G:Ctx) (H:Hots) (fn:Func) (sz sz2:Nat) (tp ty:TypeId) (F:Nat → (Nat → List AV) → List AV → List AV → Option (List Prop × AV × (Nat → List AV) × List AV)):Prop:=
 ∀ N get cells rest ob val get' cs',F N get cells rest = some (ob,val,get',cs') → (∀ p ∈ ob,p) → (∀ i,i < N → cleanCs (get i) = true) → cleanCs cells = true →
  (∀ a ∈ rest,clean 3 a = true) ∧ clean 3 val = true ∧ (∀ i,i < N → cleanCs (get' i) = true) ∧ cleanCs cs' = true ∧ funcOK P H fn (rest.length + 2) = true ∧
  ∀ (fam:Fam) (f i:Nat),i < (fam f).n → sz2 = (fam f).sz → famCl fam → bodyM P G H fn (.own 0 0 N 1 :: .ptr 1 f i sz2 0 :: rest) [(1,famE fam f i cells),(0,famT 0 N sz tp ty get)] 2 fun a m1 =>
   a = val ∧ look m1 0 = some (famT 0 N sz tp ty get') ∧ look m1 1 = some (famE fam f i cs')
theorem MConOK.mcTPp (hG:CtxOK P G) (hf:P.funcs[f]? = some fn) {sz sz2:Nat} {tp ty:TypeId} {F:Nat → (Nat → List AV) → List AV → List AV → Option (List Prop × AV × (Nat → List AV) × List AV)} (h:TPOK P G H fn sz sz2 tp ty F):MConOK P f (mcTPp sz sz2 tp ty F):=by
 refine MConOK.of (H:=H) hG hf fun key m es e hc hob => ?_
 unfold Ax.mcTPp at hc
 split at hc
 ·rename_i K N C f' i s2 rest
  split at hc
  ·rename_i fam hl
   split at hc
   ·rename_i famC hl2
    split at hc
    ·rename_i ob val get' cs' hF
     cases hc
     have hne:K ≠ C:=hob _ (by simp)
     have hs2:s2 = sz2:=hob _ (by simp)
     have hi:i < (famC f').n:=hob _ (by simp)
     have hsz:sz2 = (famC f').sz:=hob _ (by simp)
     have hcl:cleanCs ((famC f').get i) = true:=hob _ (by simp)
     have hC:famCl famC:=hob _ (by simp)
     have hok:tabOK K N sz tp ty fam:=hob _ (by simp)
     subst hs2
     obtain ⟨h1,h2,h3,h3',h4,h5⟩:=h _ _ _ _ _ _ _ _ hF (fun p hp => hob p (by simp [hp])) hok.2 hcl
     obtain ⟨a1,a2⟩:=cleans_ren (θ:=thE [K,C]) (g:=lowG 2) (B:=lowB 2) h1
     refine two_okG hne hl hl2 (tabOK_in2 hok) hC (famCl_E hC (cleanCs_mem h3'))
      (fun th σ f => ⟨rowRen_T thL2_0 (fun _ => .inl Nat.zero_lt_two) h3 f,by rw [famT_g]; simp⟩) (es0:=.own 0 0 N 1 :: .ptr 1 f' i s2 0 :: rest) (val0:=val) ?_ ?_ h4 (fun th σ => ?_) ?_
     ·rw [List.map_cons,List.map_cons,a1]; rfl
     ·intro a ha
      rcases List.mem_cons.1 ha with e | ha
      ·rw [e]; exact Nat.zero_lt_two
      ·rcases List.mem_cons.1 ha with e | ha
       ·rw [e]; exact Nat.one_lt_two
       ·exact a2 a ha
     ·obtain ⟨b1,b2⟩:=clean_ren (θ:=thL [K,C] key th) (g:=newG 2 σ th) (B:=newB 2 σ) 3 val h2
      exact ⟨b1.symm,b2⟩
     ·have:=h5 famC f' i hi hsz hC
      rw [famE_self] at this
      exact this
    ·cases hc
   ·cases hc
  ·cases hc
 ·cases hc
theorem MConOK.mcTQ (hG:CtxOK P G) (hf:P.funcs[f]? = some fn) {sz sz2:Nat} {tp ty:TypeId} {F:Nat → (Nat → List AV) → List AV → List AV → Option (List Prop × AV × (Nat → List AV) × List AV)} (h:TPOK P G H fn sz sz2 tp ty F):MConOK P f (mcTQ sz sz2 tp ty F):=by
 intro w0 ρ m m' D w key es vs e hR hk hm hRs hc hob hmany
 unfold Ax.mcTQ at hc
 split at hc
 ·rename_i K N C rest
  split at hc
  ·rename_i fam hl
   split at hc
   ·rename_i famC hl2
    split at hc
    ·rename_i ob val get' cs' hF
     cases hc
     have hne:K ≠ C:=hob _ (by simp)
     have hn:(famC 0).n = 1:=hob _ (by simp)
     have hsz:sz2 = (famC 0).sz:=hob _ (by simp)
     have hcl:cleanCs ((famC 0).get 0) = true:=hob _ (by simp)
     have hC:famCl famC:=hob _ (by simp)
     have hok:tabOK K N sz tp ty fam:=hob _ (by simp)
     have hRs':Rs w ρ (.own K 0 N 1 :: .ptr C 0 0 sz2 0 :: rest) vs:=by
      obtain ⟨x,xs,rfl,h1,h2⟩:=hRs.inv
      obtain ⟨y,ys,rfl,h3,h4⟩:=h2.inv
      refine .cons h1 (.cons ?_ h4)
      cases h3 with
      | bx hd =>
       have:R w ρ (.ptr C 0 0 sz2 0) (.pointer (some ⟨ρ.blk C 0,0 * sz2 + 0,none⟩)):=.ptr hd
       rw [Nat.zero_mul] at this
       exact this
     have:=MConOK.mcTPp hG hf h w0 ρ m m' D w key _ vs ⟨(K ≠ C) :: (sz2 = sz2) :: (0 < (famC 0).n) :: (sz2 = (famC 0).sz) :: (cleanCs ((famC 0).get 0) = true) :: famCl famC :: tabOK K N sz tp ty fam :: ob,val,.many [(K,famT K N sz tp ty get'),(C,famE famC 0 0 cs')] none⟩ hR hk hm hRs'
      (by simp only [Ax.mcTPp,hl,hl2,hF]) (fun p hp => by
       simp only [List.mem_cons] at hp
       rcases hp with rfl | rfl | rfl | rfl | rfl | rfl | rfl | hp
       ·exact hne
       ·trivial
       ·omega
       ·exact hsz
       ·exact hcl
       ·exact hC
       ·exact hok
       ·exact hob p (by simp [hp])) ⟨_,_,rfl⟩
     refine this.mono fun v w' ⟨ρ',p1,p2,p3,p4⟩ => ⟨ρ',p1,?_,p3,p4⟩
     have p2:Rel w0 ρ' (setRow C (famE famC 0 0 cs') (setRow K (famT K N sz tp ty get') m)) (fun r => D r ∨ r = key) w':=p2
     refine Rel.alike p2 fun f => ?_
     by_cases e:f = 0
     ·subst e
      refine ⟨rfl,rfl,rfl,rfl,fun i hi => ?_⟩
      rw [famE_n,hn] at hi
      have:i = 0:=by omega
      subst this
      rw [famE_get]; rfl
     ·unfold wb1
      rw [if_neg e,famE_off e]
      exact ⟨rfl,rfl,rfl,rfl,fun _ _ => rfl⟩
    ·cases hc
   ·cases hc
  ·cases hc
 ·exact MConOK.mcTPp hG hf h w0 ρ m m' D w key es vs e hR hk hm hRs hc hob hmany
def mc2P (sz:Nat) (tp ty:TypeId):MCon:=fun key m es => match es with
 | [.own K 0 N 1,.v (.int .i64 a),.v (.int .i64 b)] => match look m K with
  | some fam => some ⟨[tabOK K N sz tp ty fam,N ≤ 1000],if 0 ≤ a ∧ a < N ∧ 0 ≤ b ∧ b < N ∧ a ≠ b then .tup [.ptr K (a.toNat + 1) 0 sz 0,.ptr K (b.toNat + 1) 0 sz 0,.v (.bool true)] else .tup [.v (.pointer none),.v (.pointer none),.v (.bool false)],.many [(K,fam)] none⟩
  | none => none
 | _ => none
def TwoPOK (P:Program) (G:Ctx) (H:Hots) (fn:Func) (sz:Nat) (tp ty:TypeId):Prop:=
 ∀ N get,N ≤ 1000 → ∀ a b:Int,funcOK P H fn 3 = true ∧
  bodyM P G H fn [.own 0 0 N 1,.v (.int .i64 a),.v (.int .i64 b)] [(0,famT 0 N sz tp ty get)] 1 fun x m1 => x = (if 0 ≤ a ∧ a < N ∧ 0 ≤ b ∧ b < N ∧ a ≠ b then AV.tup [.ptr 0 (a.toNat + 1) 0 sz 0,.ptr 0 (b.toNat + 1) 0 sz 0,.v (.bool true)] else .tup [.v (.pointer none),.v (.pointer none),.v (.bool false)]) ∧ look m1 0 = some (famT 0 N sz tp ty get)
theorem MConOK.mc2P (hG:CtxOK P G) (hf:P.funcs[f]? = some fn) {sz:Nat} {tp ty:TypeId} (h:TwoPOK P G H fn sz tp ty):MConOK P f (mc2P sz tp ty):=by
 refine MConOK.of (H:=H) hG hf fun key m es e hc hob => ?_
 unfold Ax.mc2P at hc
 split at hc
 ·rename_i K N a b
  split at hc
  ·rename_i fam hl
   cases hc
   have hok:tabOK K N sz tp ty fam:=hob _ (by simp)
   have hN:N ≤ 1000:=hob _ (by simp)
   obtain ⟨h1,h2⟩:=h N (fun i => (fam (i + 1)).get 0) hN a b
   refine one_okG hl (tabOK_in hok) (fun th σ f => ⟨rowRen_alike (rowRen_T thL_0 (newG_0 (by simp)) hok.2 f) (hok.1 f),by rw [famT_g]; simp⟩) (es0:=[.own 0 0 N 1,.v (.int .i64 a),.v (.int .i64 b)]) ?_ ?_ h1 (fun th σ => ?_) h2
   ·rfl
   ·intro x hx
    simp only [List.mem_cons,List.not_mem_nil,or_false] at hx
    rcases hx with e | e | e <;> rw [e]
    ·exact Nat.zero_lt_one
    ·trivial
    ·trivial
   ·split
    ·refine ⟨?_,?_⟩
     ·show AV.tup [.ptr K _ _ _ _,.ptr K _ _ _ _,_] = .tup [.ptr (thL [K] key th 0 _).1 (thL [K] key th 0 _).2 _ _ _,.ptr (thL [K] key th 0 _).1 (thL [K] key th 0 _).2 _ _ _,_]
      rw [thL_0,thL_0]; rfl
     ·intro c hc
      simp only [List.mem_cons,List.not_mem_nil,or_false] at hc
      rcases hc with e | e | e <;> rw [e]
      ·exact newG_0 (by simp) _
      ·exact newG_0 (by simp) _
      ·trivial
    ·refine ⟨rfl,fun c hc => ?_⟩
     simp only [List.mem_cons,List.not_mem_nil,or_false] at hc
     rcases hc with e | e | e <;> rw [e] <;> trivial
  ·cases hc
 ·cases hc
def mcS (sz:Nat) (ty:TypeId) (F:Nat → (Nat → List AV) → List AV → Option (List Prop × AV × (Nat → List AV))):MCon:=fun key m es => match es with
 | .own r 0 N sz' :: rest => match look m r with
  | some fam => match F N (fam 0).get rest with
   | some (ob,val,get') => some ⟨(sz' = sz) :: (fam = famN N sz ty (fam 0).get none) :: (∀ i,i < N → cleanCs ((fam 0).get i) = true) :: ob,val,.many [(r,famN N sz ty get' none)] none⟩
   | none => none
  | none => none
 | _ => none
def SlOK (P:Program) (G:Ctx) (H:Hots) (fn:Func) (sz:Nat) (ty:TypeId) (F:Nat → (Nat → List AV) → List AV → Option (List Prop × AV × (Nat → List AV))):Prop:=
 ∀ N get rest ob val get',F N get rest = some (ob,val,get') → (∀ p ∈ ob,p) → (∀ i,i < N → cleanCs (get i) = true) → (∀ a ∈ rest,clean 3 a = true) ∧ clean 3 val = true ∧ (∀ i,i < N → cleanCs (get' i) = true) ∧ funcOK P H fn (rest.length + 1) = true ∧
  bodyM P G H fn (.own 0 0 N sz :: rest) [(0,famN N sz ty get none)] 1 fun a m1 => a = val ∧ look m1 0 = some (famN N sz ty get' none)
theorem famCl_N {n sz:Nat} {ty:TypeId} {get:Nat → List AV} (h:∀ i,i < n → cleanCs (get i) = true):famCl (famN n sz ty get none):=fun f => by
 unfold famN
 by_cases e:f = 0
 ·subst e
  exact ⟨rfl,fun j hj c hc => cleanCs_mem (h j (by simpa using hj)) c (by simpa using hc)⟩
 ·simp only [e,if_false]
  exact ⟨trivial,fun j hj => by omega⟩
theorem famCl_1 {sz:Nat} {ty:TypeId} {cs:List AV} (h:cleanCs cs = true):famCl (fam1 ty sz cs none):=fun f => by
 unfold fam1
 by_cases e:f = 0
 ·subst e
  exact ⟨rfl,fun j _ c hc => cleanCs_mem h c (by simpa using hc)⟩
 ·simp only [e,if_false]
  exact ⟨trivial,fun j hj => by omega⟩
theorem MConOK.mcS (hG:CtxOK P G) (hf:P.funcs[f]? = some fn) {sz:Nat} {ty:TypeId} {F:Nat → (Nat → List AV) → List AV → Option (List Prop × AV × (Nat → List AV))} (h:SlOK P G H fn sz ty F):MConOK P f (mcS sz ty F):=by
 refine MConOK.of (H:=H) hG hf fun key m es e hc hob => ?_
 unfold Ax.mcS at hc
 split at hc
 ·rename_i K N sz' rest
  split at hc
  ·rename_i fam hl
   split at hc
   ·rename_i ob val get' hF
    cases hc
    have hs:sz' = sz:=hob _ (by simp)
    have he:fam = famN N sz ty (fam 0).get none:=hob _ (by simp)
    have hcl:∀ i,i < N → cleanCs ((fam 0).get i) = true:=hob _ (by simp)
    subst hs
    obtain ⟨h1,h2,h3,h4,h5⟩:=h _ _ _ _ _ _ hF (fun p hp => hob p (by simp [hp])) hcl
    obtain ⟨a1,a2⟩:=cleans_ren (θ:=thE [K]) (g:=lowG 1) (B:=lowB 1) h1
    have hC:famCl fam:=by rw [he]; exact famCl_N hcl
    rw [← he] at h5
    refine one_okG hl (fun f => ⟨(hC f).1,rowRen_cl hC f⟩) (fun th σ f => ⟨rowRen_cl (famCl_N h3) f,by rw [(famCl_N h3 f).1]; simp⟩) (es0:=.own 0 0 N sz' :: rest) (val0:=val) ?_ ?_ h4 (fun th σ => ?_) h5
    ·rw [List.map_cons,a1]; rfl
    ·intro a ha
     rcases List.mem_cons.1 ha with e | ha
     ·rw [e]; exact Nat.zero_lt_one
     ·exact a2 a ha
    ·obtain ⟨b1,b2⟩:=clean_ren (θ:=thL [K] key th) (g:=newG 1 σ th) (B:=newB 1 σ) 3 val h2
     exact ⟨b1.symm,b2⟩
   ·cases hc
  ·cases hc
 ·cases hc
section
variable {sz sz2 K N C:Nat} {tp ty:TypeId} {m:Mem} {rest:List AV} {get get':Nat → List AV} {ob:List Prop} {val:AV} {fam famC:Fam} {cs cs':List AV}
def mcTf (K N sz:Nat) (tp ty:TypeId) (fam:Fam):Option (List Prop × AV × (Nat → List AV)) → Option Eff
 | some (ob,val,get') => some ⟨tabOK K N sz tp ty fam :: ob,val,.many [(K,famT K N sz tp ty get')] none⟩
 | none => none
def mcTe (sz:Nat) (tp ty:TypeId) (F:Nat → (Nat → List AV) → List AV → Option (List Prop × AV × (Nat → List AV))) (K N:Nat) (rest:List AV):Option Fam → Option Eff
 | some fam => mcTf K N sz tp ty fam (F N (fun i => (fam (i + 1)).get 0) rest)
 | none => none
theorem mcT_eq {F:Nat → (Nat → List AV) → List AV → Option (List Prop × AV × (Nat → List AV))}:Ax.mcT sz tp ty F key m (.own K 0 N 1 :: rest) = mcTe sz tp ty F K N rest (look m K):=by
 show (match look m K with
  | some fam => (match F N (fun i => (fam (i + 1)).get 0) rest with
   | some (ob,val,get') => some (⟨tabOK K N sz tp ty fam :: ob,val,.many [(K,famT K N sz tp ty get')] none⟩:Eff)
   | none => none)
  | none => none) = _
 unfold mcTe
 cases look m K with
 | none => rfl
 | some fam =>
  dsimp only
  unfold mcTf
  cases F N (fun i => (fam (i + 1)).get 0) rest <;> rfl
theorem mcTe_T {F:Nat → (Nat → List AV) → List AV → Option (List Prop × AV × (Nat → List AV))}:mcTe sz tp ty F K N rest (some (famT K N sz tp ty get)) = mcTf K N sz tp ty (famT K N sz tp ty get) (F N get rest):=(rfl)
theorem mcTf_some:mcTf K N sz tp ty fam (some (ob,val,get')) = some ⟨tabOK K N sz tp ty fam :: ob,val,.many [(K,famT K N sz tp ty get')] none⟩:=(rfl)
def mcQf (K N C sz sz2:Nat) (tp ty:TypeId) (fam famC:Fam):Option (List Prop × AV × (Nat → List AV) × List AV) → Option Eff
 | some (ob,val,get',cs') => some ⟨(K ≠ C) :: ((famC 0).n = 1) :: (sz2 = (famC 0).sz) :: (cleanCs ((famC 0).get 0) = true) :: famCl famC :: tabOK K N sz tp ty fam :: ob,val,.many [(K,famT K N sz tp ty get'),(C,wb1 famC cs')] none⟩
 | none => none
def mcQe (sz sz2:Nat) (tp ty:TypeId) (F:Nat → (Nat → List AV) → List AV → List AV → Option (List Prop × AV × (Nat → List AV) × List AV)) (K N C:Nat) (rest:List AV):Option Fam → Option Fam → Option Eff
 | some fam,some famC => mcQf K N C sz sz2 tp ty fam famC (F N (fun i => (fam (i + 1)).get 0) ((famC 0).get 0) rest)
 | _,_ => none
theorem mcTQ_bx {F:Nat → (Nat → List AV) → List AV → List AV → Option (List Prop × AV × (Nat → List AV) × List AV)}:Ax.mcTQ sz sz2 tp ty F key m (.own K 0 N 1 :: .bx C 0 :: rest) = mcQe sz sz2 tp ty F K N C rest (look m K) (look m C):=by
 show (match look m K with
  | some fam => (match look m C with
   | some famC => (match F N (fun i => (fam (i + 1)).get 0) ((famC 0).get 0) rest with
    | some (ob,val,get',cs') => some (⟨(K ≠ C) :: ((famC 0).n = 1) :: (sz2 = (famC 0).sz) :: (cleanCs ((famC 0).get 0) = true) :: famCl famC :: tabOK K N sz tp ty fam :: ob,val,.many [(K,famT K N sz tp ty get'),(C,wb1 famC cs')] none⟩:Eff)
    | none => none)
   | none => none)
  | none => none) = _
 unfold mcQe
 cases look m K with
 | none => rfl
 | some fam =>
  dsimp only
  cases look m C with
  | none => rfl
  | some famC =>
   dsimp only
   unfold mcQf
   cases F N (fun i => (fam (i + 1)).get 0) ((famC 0).get 0) rest <;> rfl
theorem mcQe_T {F:Nat → (Nat → List AV) → List AV → List AV → Option (List Prop × AV × (Nat → List AV) × List AV)}:mcQe sz sz2 tp ty F K N C rest (some (famT K N sz tp ty get)) (some famC) = mcQf K N C sz sz2 tp ty (famT K N sz tp ty get) famC (F N get ((famC 0).get 0) rest):=(rfl)
theorem mcQf_some:mcQf K N C sz sz2 tp ty fam famC (some (ob,val,get',cs')) = some ⟨(K ≠ C) :: ((famC 0).n = 1) :: (sz2 = (famC 0).sz) :: (cleanCs ((famC 0).get 0) = true) :: famCl famC :: tabOK K N sz tp ty fam :: ob,val,.many [(K,famT K N sz tp ty get'),(C,wb1 famC cs')] none⟩:=(rfl)
def mcRf (K N C f i s2 sz sz2:Nat) (tp ty:TypeId) (fam famC:Fam):Option (List Prop × AV × (Nat → List AV) × List AV) → Option Eff
 | some (ob,val,get',cs') => some ⟨(K ≠ C) :: (s2 = sz2) :: (i < (famC f).n) :: (sz2 = (famC f).sz) :: (cleanCs ((famC f).get i) = true) :: famCl famC :: tabOK K N sz tp ty fam :: ob,val,.many [(K,famT K N sz tp ty get'),(C,famE famC f i cs')] none⟩
 | none => none
def mcRe (sz sz2:Nat) (tp ty:TypeId) (F:Nat → (Nat → List AV) → List AV → List AV → Option (List Prop × AV × (Nat → List AV) × List AV)) (K N C f i s2:Nat) (rest:List AV):Option Fam → Option Fam → Option Eff
 | some fam,some famC => mcRf K N C f i s2 sz sz2 tp ty fam famC (F N (fun i => (fam (i + 1)).get 0) ((famC f).get i) rest)
 | _,_ => none
theorem mcTQ_ptr {F:Nat → (Nat → List AV) → List AV → List AV → Option (List Prop × AV × (Nat → List AV) × List AV)} {f i s2:Nat}:Ax.mcTQ sz sz2 tp ty F key m (.own K 0 N 1 :: .ptr C f i s2 0 :: rest) = mcRe sz sz2 tp ty F K N C f i s2 rest (look m K) (look m C):=by
 show (match look m K with
  | some fam => (match look m C with
   | some famC => (match F N (fun i => (fam (i + 1)).get 0) ((famC f).get i) rest with
    | some (ob,val,get',cs') => some (⟨(K ≠ C) :: (s2 = sz2) :: (i < (famC f).n) :: (sz2 = (famC f).sz) :: (cleanCs ((famC f).get i) = true) :: famCl famC :: tabOK K N sz tp ty fam :: ob,val,.many [(K,famT K N sz tp ty get'),(C,famE famC f i cs')] none⟩:Eff)
    | none => none)
   | none => none)
  | none => none) = _
 unfold mcRe
 cases look m K with
 | none => rfl
 | some fam =>
  dsimp only
  cases look m C with
  | none => rfl
  | some famC =>
   dsimp only
   unfold mcRf
   cases F N (fun i => (fam (i + 1)).get 0) ((famC f).get i) rest <;> rfl
theorem mcRe_T {F:Nat → (Nat → List AV) → List AV → List AV → Option (List Prop × AV × (Nat → List AV) × List AV)} {f i s2:Nat}:mcRe sz sz2 tp ty F K N C f i s2 rest (some (famT K N sz tp ty get)) (some famC) = mcRf K N C f i s2 sz sz2 tp ty (famT K N sz tp ty get) famC (F N get ((famC f).get i) rest):=(rfl)
theorem mcRf_some {f i s2:Nat}:mcRf K N C f i s2 sz sz2 tp ty fam famC (some (ob,val,get',cs')) = some ⟨(K ≠ C) :: (s2 = sz2) :: (i < (famC f).n) :: (sz2 = (famC f).sz) :: (cleanCs ((famC f).get i) = true) :: famCl famC :: tabOK K N sz tp ty fam :: ob,val,.many [(K,famT K N sz tp ty get'),(C,famE famC f i cs')] none⟩:=(rfl)
def mcPf (r r' f i s1 f' i' s2 sz:Nat) (fam:Fam):Option (List Prop × AV × List AV × List AV) → Option Eff
 | some (ob,val,cs,cs') => some ⟨(r' = r) :: (f ≠ f') :: (i < (fam f).n) :: (i' < (fam f').n) :: (s1 = sz) :: (s2 = sz) :: (sz = (fam f).sz) :: (sz = (fam f').sz) :: (cleanCs ((fam f).get i) = true) :: (cleanCs ((fam f').get i') = true) :: famOK r fam :: ob,val,.many [(r,famE (famE fam f i cs) f' i' cs')] none⟩
 | none => none
def mcPe (sz:Nat) (F:List AV → List AV → List AV → Option (List Prop × AV × List AV × List AV)) (r r' f i s1 f' i' s2:Nat) (rest:List AV):Option Fam → Option Eff
 | some fam => mcPf r r' f i s1 f' i' s2 sz fam (F ((fam f).get i) ((fam f').get i') rest)
 | none => none
theorem mcPP_eq {F:List AV → List AV → List AV → Option (List Prop × AV × List AV × List AV)} {r r' f i s1 f' i' s2:Nat}:Ax.mcPP sz F key m (.ptr r f i s1 0 :: .ptr r' f' i' s2 0 :: rest) = mcPe sz F r r' f i s1 f' i' s2 rest (look m r):=by
 show (match look m r with
  | some fam => (match F ((fam f).get i) ((fam f').get i') rest with
   | some (ob,val,cs,cs') => some (⟨(r' = r) :: (f ≠ f') :: (i < (fam f).n) :: (i' < (fam f').n) :: (s1 = sz) :: (s2 = sz) :: (sz = (fam f).sz) :: (sz = (fam f').sz) :: (cleanCs ((fam f).get i) = true) :: (cleanCs ((fam f').get i') = true) :: famOK r fam :: ob,val,.many [(r,famE (famE fam f i cs) f' i' cs')] none⟩:Eff)
   | none => none)
  | none => none) = _
 unfold mcPe
 cases look m r with
 | none => rfl
 | some fam =>
  dsimp only
  unfold mcPf
  cases F ((fam f).get i) ((fam f').get i') rest <;> rfl
theorem mcPe_some {F:List AV → List AV → List AV → Option (List Prop × AV × List AV × List AV)} {r r' f i s1 f' i' s2:Nat}:mcPe sz F r r' f i s1 f' i' s2 rest (some fam) = mcPf r r' f i s1 f' i' s2 sz fam (F ((fam f).get i) ((fam f').get i') rest):=(rfl)
theorem mcPf_some {r r' f i s1 f' i' s2:Nat}:mcPf r r' f i s1 f' i' s2 sz fam (some (ob,val,cs,cs')) = some ⟨(r' = r) :: (f ≠ f') :: (i < (fam f).n) :: (i' < (fam f').n) :: (s1 = sz) :: (s2 = sz) :: (sz = (fam f).sz) :: (sz = (fam f').sz) :: (cleanCs ((fam f).get i) = true) :: (cleanCs ((fam f').get i') = true) :: famOK r fam :: ob,val,.many [(r,famE (famE fam f i cs) f' i' cs')] none⟩:=(rfl)
def mcSf (r N s sz:Nat) (ty:TypeId) (fam:Fam):Option (List Prop × AV × (Nat → List AV)) → Option Eff
 | some (ob,val,get') => some ⟨(s = sz) :: (fam = famN N sz ty (fam 0).get none) :: (∀ i,i < N → cleanCs ((fam 0).get i) = true) :: ob,val,.many [(r,famN N sz ty get' none)] none⟩
 | none => none
def mcSe (sz:Nat) (ty:TypeId) (F:Nat → (Nat → List AV) → List AV → Option (List Prop × AV × (Nat → List AV))) (r N s:Nat) (rest:List AV):Option Fam → Option Eff
 | some fam => mcSf r N s sz ty fam (F N (fam 0).get rest)
 | none => none
theorem mcS_eq {F:Nat → (Nat → List AV) → List AV → Option (List Prop × AV × (Nat → List AV))} {r s:Nat}:Ax.mcS sz ty F key m (.own r 0 N s :: rest) = mcSe sz ty F r N s rest (look m r):=by
 show (match look m r with
  | some fam => (match F N (fam 0).get rest with
   | some (ob,val,get') => some (⟨(s = sz) :: (fam = famN N sz ty (fam 0).get none) :: (∀ i,i < N → cleanCs ((fam 0).get i) = true) :: ob,val,.many [(r,famN N sz ty get' none)] none⟩:Eff)
   | none => none)
  | none => none) = _
 unfold mcSe
 cases look m r with
 | none => rfl
 | some fam =>
  dsimp only
  unfold mcSf
  cases F N (fam 0).get rest <;> rfl
theorem mcSe_some {F:Nat → (Nat → List AV) → List AV → Option (List Prop × AV × (Nat → List AV))} {r s:Nat}:mcSe sz ty F r N s rest (some (famN N sz ty get none)) = mcSf r N s sz ty (famN N sz ty get none) (F N get rest):=(rfl)
theorem mcSf_some {r s:Nat}:mcSf r N s sz ty (famN N sz ty get none) (some (ob,val,get')) = some ⟨(s = sz) :: (famN N sz ty get none = famN N sz ty get none) :: (∀ i,i < N → cleanCs (get i) = true) :: ob,val,.many [(r,famN N sz ty get' none)] none⟩:=(rfl)
def mc2e (K N sz:Nat) (tp ty:TypeId) (a b:Int):Option Fam → Option Eff
 | some fam => some ⟨[tabOK K N sz tp ty fam,N ≤ 1000],if 0 ≤ a ∧ a < N ∧ 0 ≤ b ∧ b < N ∧ a ≠ b then .tup [.ptr K (a.toNat + 1) 0 sz 0,.ptr K (b.toNat + 1) 0 sz 0,.v (.bool true)] else .tup [.v (.pointer none),.v (.pointer none),.v (.bool false)],.many [(K,fam)] none⟩
 | none => none
theorem mc2P_eq {a b:Int}:Ax.mc2P sz tp ty key m [.own K 0 N 1,.v (.int .i64 a),.v (.int .i64 b)] = mc2e K N sz tp ty a b (look m K):=by
 show (match look m K with
  | some fam => some (⟨[tabOK K N sz tp ty fam,N ≤ 1000],if 0 ≤ a ∧ a < N ∧ 0 ≤ b ∧ b < N ∧ a ≠ b then .tup [.ptr K (a.toNat + 1) 0 sz 0,.ptr K (b.toNat + 1) 0 sz 0,.v (.bool true)] else .tup [.v (.pointer none),.v (.pointer none),.v (.bool false)],.many [(K,fam)] none⟩:Eff)
  | none => none) = _
 unfold mc2e
 cases look m K <;> rfl
theorem mc2e_some {a b:Int}:mc2e K N sz tp ty a b (some fam) = some ⟨[tabOK K N sz tp ty fam,N ≤ 1000],if 0 ≤ a ∧ a < N ∧ 0 ≤ b ∧ b < N ∧ a ≠ b then .tup [.ptr K (a.toNat + 1) 0 sz 0,.ptr K (b.toNat + 1) 0 sz 0,.v (.bool true)] else .tup [.v (.pointer none),.v (.pointer none),.v (.bool false)],.many [(K,fam)] none⟩:=(rfl)
theorem famCl_1t (h:cleanCs cs = true):famCl (fam1 ty sz cs none) = True:=eq_true (famCl_1 h)
theorem famCl_Nt {n:Nat} (h:∀ i,i < n → cleanCs (get i) = true):famCl (famN n sz ty get none) = True:=eq_true (famCl_N h)
end
attribute [go_sem] mcT_eq mcTe_T mcTf_some mcTQ_bx mcTQ_ptr mcQe_T mcQf_some mcRe_T mcRf_some mcPP_eq mcPe_some mcPf_some mcS_eq mcSe_some mcSf_some mc2P_eq mc2e_some famCl_1t famCl_Nt
end
end Go.Ax
end
section
/-
  Manifolds: two that are the same.
-/
set_option maxHeartbeats 4000000
set_option maxRecDepth 100000
namespace Go.Ax
open Go.Proofs
theorem aEq71 {a0 b0:Int} {a1 b1:Bool} {a2 b2:Int} {a3 b3:Bool} {a4 b4:Int} {a5 b5:Bool}:aEq Tryz.prog 71 (.agg [i64 a0,bo a1,i64 a2,bo a3,i64 a4,bo a5]) (.agg [i64 b0,bo b1,i64 b2,bo b3,i64 b4,bo b5]) = some ((((a0 == b0) && ((a1 == b1) && true)) && (((a2 == b2) && ((a3 == b3) && true)) && true)) && (((a4 == b4) && ((a5 == b5) && true)) && true)):=by kernel_rfl
theorem eq71 {xo yo:Operand} {neg:Bool} {a0 b0:Int} {a1 b1:Bool} {a2 b2:Int} {a3 b3:Bool} {a4 b4:Int} {a5 b5:Bool}:eqE Tryz.prog neg 71 xo yo (.agg [i64 a0,bo a1,i64 a2,bo a3,i64 a4,bo a5]) (.agg [i64 b0,bo b1,i64 b2,bo b3,i64 b4,bo b5]) = some ⟨[],.v (.bool (negV neg ((((a0 == b0) && ((a1 == b1) && true)) && (((a2 == b2) && ((a3 == b3) && true)) && true)) && (((a4 == b4) && ((a5 == b5) && true)) && true)))),.none⟩:=eqE_agg aEq71
attribute [go_sem] eq71
def nWh (a:Nb):Nb:=(whV a.1,whF a.1 a.2)
theorem iWh {a:Nb} (h:inR a.1):inR (nWh a).1 = True:=inR_of (whV_rg h)
theorem gx_pts0 {X Y:Nat → Int}:gx (fun j => [i64 (X j),i64 (Y j)]) 0 = X:=(rfl)
theorem gx_pts1 {X Y:Nat → Int}:gx (fun j => [i64 (X j),i64 (Y j)]) 1 = Y:=(rfl)
theorem byt71:bytesT Tryz.prog 71 = 48:=by kernel_rfl
theorem fitL_clean {N M:Nat} {σ:Names}:∀ {l:List AV},cleanCs l = true → fitL N M σ l l
 | [],_ => trivial
 | a :: l,h => by
  simp only [cleanCs,Bool.and_eq_true] at h
  refine ⟨?_,fitL_clean h.2⟩
  have h1:=h.1
  cases a <;> first | exact ⟨rfl,trivial⟩ | trivial | simp [cleanC] at h1
theorem eqE_ownnil {P:Program} {q:TypeId} {xo yo:Operand} {neg:Bool} {r f n sz:Nat} {e:TypeId} (h:P.underlying q = some (.slice e)):eqE P neg q xo yo (.own r f (n + 1) sz) (.v (.slice none 0 0)) = some ⟨[],.v (.bool (negV neg false)),.none⟩:=by
 have e1:aNil P q (.own r f (n + 1) sz) (.v (.slice none 0 0)) = some false:=by
  show (match P.underlying q with | some (.slice _) => some false | _ => none) = _
  rw [h]
 have e2:aEq P q (.own r f (n + 1) sz) (.v (.slice none 0 0)) = some false:=by
  unfold aEq
  rw [e1]
 unfold eqE
 rw [e2]
theorem eqE_nilS {P:Program} {q:TypeId} {xo yo:Operand} {neg:Bool} {e:TypeId} (h:P.underlying q = some (.slice e)):eqE P neg q xo yo (.v (.slice none 0 0)) (.v (.slice none 0 0)) = some ⟨[],.v (.bool (negV neg true)),.none⟩:=by
 have he:pureRun P (Op.equal q (.slice none 0 0) (.slice none 0 0)) = some true:=by
  show pureRun P (Op.equalIn (9999 + 1) q (.slice none 0 0) (.slice none 0 0)) = _
  unfold Op.equalIn
  show pureRun P (Sem.bind _ _) = _
  rw [pureRun_bind,pureRun_under h]
  rfl
 unfold eqE
 have h0:aEq P q (.v (.slice none 0 0)) (.v (.slice none 0 0)) = none:=by
  unfold aEq
  show (match eqOkT P q with | true => _ | false => _) = _
  cases eqOkT P q <;> rfl
 rw [h0]
 dsimp only [flat]
 have hg:∀ op,eqGuard op q xo yo (.slice none 0 0) (.slice none 0 0) = Sem.pure ():=fun op => by
  cases op <;> rfl
 rw [hg]
 cases neg
 ·show (match pureRun P (Sem.bind (Op.equal q (.slice none 0 0) (.slice none 0 0)) fun b => Sem.pure (Value.bool b)) with | some v => _ | none => _) = _
  rw [pureRun_bind,he]; rfl
 ·show (match pureRun P (Sem.bind (Op.equal q (.slice none 0 0) (.slice none 0 0)) fun b => Sem.pure (Value.bool (!b))) with | some v => _ | none => _) = _
  rw [pureRun_bind,he]; rfl
theorem eq56n {xo yo:Operand} {neg:Bool}:eqE Tryz.prog neg 56 xo yo (.v (.slice none 0 0)) (.v (.slice none 0 0)) = some ⟨[],.v (.bool (negV neg true)),.none⟩:=eqE_nilS Tryz.underlying56
theorem eq56o1 {xo yo:Operand} {neg:Bool} {r f sz:Nat}:eqE Tryz.prog neg 56 xo yo (.own r f 1 sz) (.v (.slice none 0 0)) = some ⟨[],.v (.bool (negV neg false)),.none⟩:=eqE_ownnil (n:=0) Tryz.underlying56
theorem eq56o2 {xo yo:Operand} {neg:Bool} {r f sz:Nat}:eqE Tryz.prog neg 56 xo yo (.own r f 2 sz) (.v (.slice none 0 0)) = some ⟨[],.v (.bool (negV neg false)),.none⟩:=eqE_ownnil (n:=1) Tryz.underlying56
attribute [go_sem] eq56n eq56o1 eq56o2
def zV:V2:=((0,false),(0,false))
def tchC (p:V2) (d:Nb):List AV:=[i64 p.1.1,bo p.1.2,i64 p.2.1,bo p.2.2,i64 d.1,bo d.2]
def tchs (P:Nat → V2) (D:Nat → Nb):Nat → List AV:=fun j => tchC (P j) (D j)
theorem tchs_at {P:Nat → V2} {D:Nat → Nb} {j:Nat}:tchs P D j = tchC (P j) (D j):=(rfl)
def tchP (g:Nat → List AV):Nat → V2:=fun j => ((gi (g j) 0,gib (g j) 1),(gi (g j) 2,gib (g j) 3))
def tchD (g:Nat → List AV):Nat → Nb:=fun j => (gi (g j) 4,gib (g j) 5)
def manC (v:V2) (n:Nat) (P:Nat → V2) (D:Nat → Nb):AV:=.agg [i64 v.1.1,bo v.1.2,i64 v.2.1,bo v.2.2,.ro n 6 (tchs P D)]
theorem vc21 (v:V2) (n:Nat) (P:Nat → V2) (D:Nat → Nb) (hn:n ≤ 1000):fnVC Tryz.prog [] [] Tryz.f21 [manC v n P D,manC v n P D] (· = bo true):=by
 refine fnVC_go (rs:=[.tmp 4]) rfl rfl ?_
 simp only [manC,go_sem,beq_self_eq_true,bne_self_eq_false,reduceCtorEq,or_self,false_imp_iff,true_imp_iff,and_self]
 refine loopC_go (fun (i:Nat) => i ≤ n) (fun i => n - i) (fun i => [(5,i64 (i:Int))]) (fun _ => []) [1,0] [20,21,22,23,24,27,28,29,30,31,32,33,34,35,36,37,4,25,26,5] 0 (by kernel_rfl) ?_ (Nat.zero_le _) ?_ ?_
 ·intro x _; simp [goodNames,asg]
 ·simp only [go_sem]
 intro i hi
 simp only [go_sem,tchs_at,tchC,beq_self_eq_true,forall_eq]
 exact ⟨fun h => ⟨by omega,h,by omega,h,fun _ => ⟨i + 1,by omega,by omega,by rw [wrap_in (by unfold inR; omega)]; rfl⟩⟩,fun _ => trivial⟩
end Go.Ax
end
section
/-
  How forms touch: what is computed, and the reference's small parts.
-/
set_option maxHeartbeats 4000000
set_option maxRecDepth 100000
namespace Go.Ax
open Go.Proofs
structure Mf where
 nv:V2
 n:Nat
 P:Nat → V2
 D:Nat → Nb
abbrev mfA (m:Mf):AV:=manC m.nv m.n m.P m.D
def mf0:Mf:=⟨zV,0,fun _ => zV,fun _ => (0,false)⟩
def mf1 (nv p:V2) (d:Nb):Mf:=⟨nv,1,fun _ => p,fun _ => d⟩
def oneV:V2:=((4294967296,false),(0,false))
def edN (n:Nat) (X Y:Nat → Int) (i:Nat):V2:=vNorm (X i) (Y i) (X (nxt n i)) (Y (nxt n i))
def twN (d:V2):V2:=if (vUnit d).1 = true then (vUnit d).2 else oneV
def twD (d:V2) (r s:Int):Nb:=nPos (nSub (nRat (IntKind.i64.wrap (r + s)) 256) (vLen d))
def twP (x y r:Int) (d:V2) (e:Nb):V2:=vAdd (vLoc x y) (vScale (twN d) (nSub (nRat r 256) (nDiv e (nInt 2))))
def twoS (x y r x' y' r':Int):Mf:=mf1 (twN (vLoc (mnW x x') (mnW y y'))) (twP x y r (vLoc (mnW x x') (mnW y y')) (twD (vLoc (mnW x x') (mnW y y')) r r')) (twD (vLoc (mnW x x') (mnW y y')) r r')
def deepS (n:Nat) (X Y:Nat → Int) (x y r:Int) (s:AxT):Mf:=
 mf1 (edN n X Y s.2.1.toNat) (vSub (vLoc x y) (vScale (edN n X Y s.2.1.toNat) (nRat r 256))) (nPos (nNeg s.2.2))
def rdT (n:Nat) (X Y:Nat → Int) (x y:Int) (i:Nat):Nb:=
 nCl (nRat (dtW (mnW (X i) x) (mnW (Y i) y) (mnW (X i) (X (nxt n i))) (mnW (Y i) (Y (nxt n i)))) (dtW (mnW (X i) (X (nxt n i))) (mnW (Y i) (Y (nxt n i))) (mnW (X i) (X (nxt n i))) (mnW (Y i) (Y (nxt n i))))) (0,false) (4294967296,false)
def rdP (n:Nat) (X Y:Nat → Int) (x y:Int) (i:Nat):V2:=vAdd (vLoc (X i) (Y i)) (vScale (vLoc (mnW (X i) (X (nxt n i))) (mnW (Y i) (Y (nxt n i)))) (rdT n X Y x y i))
def rdM (n:Nat) (X Y:Nat → Int) (x y:Int) (i:Nat):V2:=vSub (vLoc x y) (rdP n X Y x y i)
def rdL (n:Nat) (X Y:Nat → Int) (x y:Int) (i:Nat):Nb:=vLen (rdM n X Y x y i)
def rdV (n:Nat) (X Y:Nat → Int) (x y:Int) (i:Nat):V2:=
 if (0 < (rdT n X Y x y i).1 ∧ (rdT n X Y x y i).1 < 4294967296) ∨ (vUnit (rdM n X Y x y i)).1 = false then vNorm (X i) (Y i) (X (nxt n i)) (Y (nxt n i)) else (vUnit (rdM n X Y x y i)).2
def leI (h:Nat → Nb):Nat → Nat
 | 0 => 0
 | i + 1 => if cmpS (whV (h (i + 1)).1) (whV (h (leI h i)).1) < 0 then i + 1 else leI h i
def rdS (n:Nat) (X Y:Nat → Int) (x y r:Int):Mf:=
 mf1 (rdV n X Y x y (leI (rdL n X Y x y) (n - 1))) (rdP n X Y x y (leI (rdL n X Y x y) (n - 1))) (nPos (nSub (nRat r 256) (rdL n X Y x y (leI (rdL n X Y x y) (n - 1)))))
def pdS (n:Nat) (X Y:Nat → Int) (x y r:Int):Mf:=if inS n X Y x y = true then deepS n X Y x y r (axSt n (gD n X Y x y r) 0 (gD n X Y x y r) 2) else rdS n X Y x y r
def cutS (x y:V2) (i j:Nb):V2:=vAdd x (vScale (vSub y x) (nDiv i (nSub i j)))
def clpX (x y:V2) (i j:Nb):V2:=if i.1 < 0 ∧ 0 ≤ j.1 then cutS x y i j else x
def clpY (x y:V2) (i j:Nb):V2:=if j.1 < 0 ∧ 0 ≤ i.1 then cutS y x j i else y
theorem clpX_in1 {x y:V2} {i j:Nb} (h:inR x.1.1):inR (clpX x y i j).1.1:=by
 unfold clpX
 split
 ·exact of_eq_true iVAdd1
 ·exact h
theorem clpX_in2 {x y:V2} {i j:Nb} (h:inR x.2.1):inR (clpX x y i j).2.1:=by
 unfold clpX
 split
 ·exact of_eq_true iVAdd2
 ·exact h
theorem clpY_in1 {x y:V2} {i j:Nb} (h:inR y.1.1):inR (clpY x y i j).1.1:=by
 unfold clpY
 split
 ·exact of_eq_true iVAdd1
 ·exact h
theorem clpY_in2 {x y:V2} {i j:Nb} (h:inR y.2.1):inR (clpY x y i j).2.1:=by
 unfold clpY
 split
 ·exact of_eq_true iVAdd2
 ·exact h
def agK (m:Nat) (Z T:Nat → Int) (nv:V2) (j:Nat):Nb:=vDot (vNorm (Z j) (T j) (Z (nxt m j)) (T (nxt m j))) nv
def fx0 (X Y Z T:Nat → Int) (i j:Nat):V2:=vLoc (mnW (X i) (Z j)) (mnW (Y i) (T j))
def flT (n:Nat) (X Y:Nat → Int) (i:Nat):V2:=(vUnit (vOf (mnW (X i) (X (nxt n i))) (mnW (Y i) (Y (nxt n i))))).2
def flE (n:Nat) (X Y:Nat → Int) (i:Nat):Nb:=vLen (vLoc (mnW (X i) (X (nxt n i))) (mnW (Y i) (Y (nxt n i))))
def cl1X (t x y:V2):V2:=clpX x y (vDot t x) (vDot t y)
def cl1Y (t x y:V2):V2:=clpY x y (vDot t x) (vDot t y)
def cl2X (t x y:V2) (e:Nb):V2:=clpX x y (nSub e (vDot t x)) (nSub e (vDot t y))
def cl2Y (t x y:V2) (e:Nb):V2:=clpY x y (nSub e (vDot t x)) (nSub e (vDot t y))
def flX (t x y:V2) (e:Nb):V2:=cl2X t (cl1X t x y) (cl1Y t x y) e
def flY (t x y:V2) (e:Nb):V2:=cl2Y t (cl1X t x y) (cl1Y t x y) e
def flM (nv p x y:V2):Mf:=
 if (vDot nv x).1 ≤ 0 then
  (if (vDot nv y).1 ≤ 0 then ⟨nv,2,fun j => if j = 0 then vAdd p x else vAdd p y,fun j => if j = 0 then nNeg (vDot nv x) else nNeg (vDot nv y)⟩ else mf1 nv (vAdd p x) (nNeg (vDot nv x)))
 else mf1 nv (vAdd p y) (nNeg (vDot nv y))
def edH (n:Nat) (X Y Z T:Nat → Int) (i j:Nat):Nb:=hgt (X i) (Y i) (X (nxt n i)) (Y (nxt n i)) (Z j) (T j)
def flJ (n:Nat) (X Y:Nat → Int) (m:Nat) (Z T:Nat → Int) (i:Nat):Nat:=leI (agK m Z T (edN n X Y i)) (m - 1)
def flW (n:Nat) (X Y:Nat → Int) (m:Nat) (Z T:Nat → Int) (i:Nat):Nat:=leI (edH n X Y Z T i) (m - 1)
def flA (n:Nat) (X Y:Nat → Int) (m:Nat) (Z T:Nat → Int) (i j:Nat):V2:=flX (flT n X Y i) (fx0 X Y Z T i j) (fx0 X Y Z T i (nxt m j)) (flE n X Y i)
def flB (n:Nat) (X Y:Nat → Int) (m:Nat) (Z T:Nat → Int) (i j:Nat):V2:=flY (flT n X Y i) (fx0 X Y Z T i j) (fx0 X Y Z T i (nxt m j)) (flE n X Y i)
def flK (nv p a b q:V2) (d:Nb):Mf:=if (vDot nv a).1 ≤ 0 ∨ (vDot nv b).1 ≤ 0 then flM nv p a b else mf1 nv q d
def flS (n:Nat) (X Y:Nat → Int) (m:Nat) (Z T:Nat → Int) (i:Nat):Mf:=
 flK (edN n X Y i) (vLoc (X i) (Y i)) (flA n X Y m Z T i (flJ n X Y m Z T i)) (flB n X Y m Z T i (flJ n X Y m Z T i)) (vLoc (Z (flW n X Y m Z T i)) (T (flW n X Y m Z T i))) (nPos (nNeg (edH n X Y Z T i (flW n X Y m Z T i))))
def trnS (m:Mf):Mf:=⟨vScale m.nv (nInt (-1)),m.n,m.P,m.D⟩
def clipS (k x y r:Int) (n:Nat) (X Y:Nat → Int) (k' x' y' r':Int) (m:Nat) (Z T:Nat → Int):Mf:=
 if checkS k x y r n X Y = 0 ∧ checkS k' x' y' r' m Z T = 0 ∧ apS k x y r n X Y k' x' y' r' m Z T = false then
  (if k = 1 then (if k' = 1 then twoS x y r x' y' r' else trnS (pdS m Z T x y r))
   else if k' = 1 then pdS n X Y x' y' r'
   else if (axS k x y r n X Y k' x' y' r' m Z T).1 = 0 then flS n X Y m Z T (axS k x y r n X Y k' x' y' r' m Z T).2.1.toNat
   else trnS (flS m Z T n X Y (axS k x y r n X Y k' x' y' r' m Z T).2.1.toNat))
 else mf0
def clipB (k x y r:Int) (n:Nat) (X Y:Nat → Int) (k' x' y' r':Int) (m:Nat) (Z T:Nat → Int):Bool:=
 decide (checkS k x y r n X Y = 0 ∧ checkS k' x' y' r' m Z T = 0 ∧ apS k x y r n X Y k' x' y' r' m Z T = false)
theorem alk_ro6 {n:Nat} {f g:Nat → List AV} (h:∀ i,i < n → g i = f i):alk (.ro n 6 f) (.ro n 6 g):=fun w ρ v hR => ro_alike h hR
theorem alk_nil6 {f:Nat → List AV}:alk (.ro 0 6 f) (.v (.slice none 0 0)):=fun w ρ v hR => by
 cases hR
 exact .ro 0 0 (Nat.le_refl _) (fun h => absurd h (by omega)) (fun h => absurd h (by omega)) (fun i h => absurd h (by omega)) (fun i k h => absurd h (by omega)) (fun i k c x h => absurd h (by omega))
theorem alk_one {nv p:V2} {d:Nb} {g:Nat → List AV} (h:g 0 = tchC p d):alk (mfA (mf1 nv p d)) (.agg [i64 nv.1.1,bo nv.1.2,i64 nv.2.1,bo nv.2.2,.ro 1 6 g]):=by
 refine alk_shape (alk_ro6 fun i hi => ?_)
 have e:i = 0:=Nat.lt_one_iff.1 hi
 subst e
 exact h
end Go.Ax
end
section
/-
  How a polygon and a disc touch, by the reference.
-/
set_option maxHeartbeats 4000000
set_option maxRecDepth 100000
namespace Go.Ax
open Go.Proofs
theorem leI_lt {h:Nat → Nb}:∀ i,leI h i ≤ i
 | 0 => Nat.le_refl _
 | i + 1 => by
  have:=leI_lt (h:=h) i
  unfold leI
  split <;> omega
theorem axF_ix {o:Int} {G:Nat → Nb}:∀ i:Nat,0 ≤ (axF o G ax0 (i + 1)).2.1 ∧ (axF o G ax0 (i + 1)).2.1 < ((i + 1:Nat):Int)
 | 0 => by
  rw [axF_hit (.inl (by show (-1:Int) < 0; decide))]
  exact ⟨Int.le_refl _,by show ((0:Nat):Int) < ((0 + 1:Nat):Int); decide⟩
 | i + 1 => by
  have ih:=axF_ix (o:=o) (G:=G) i
  by_cases c:(axF o G ax0 (i + 1)).2.1 < 0 ∨ 0 < cmpS (whV (G (i + 1)).1) (whV (axF o G ax0 (i + 1)).2.2.1)
  ·rw [axF_hit c]
   dsimp only
   omega
  ·rw [axF_not c]
   omega
theorem axSt_ix {n:Nat} {G G':Nat → Nb} (h:0 < n):0 ≤ (axSt n G 0 G' 2).2.1 ∧ (axSt n G 0 G' 2).2.1 < n:=by
 have:=axF_ix (o:=0) (G:=G) (n - 1)
 rw [show n - 1 + 1 = n by omega] at this
 exact this
theorem axF_in {o:Int} {G:Nat → Nb} {s:AxT} (hG:∀ i,inR (G i).1) (hs:inR s.2.2.1):∀ i,inR (axF o G s i).2.2.1
 | 0 => hs
 | i + 1 => by
  have ih:=axF_in (o:=o) hG hs i
  unfold axF
  split
  ·exact hG i
  ·exact ih
theorem axSt_in {n m:Nat} {G G':Nat → Nb} (hG:∀ i,inR (G i).1) (hG':∀ i,inR (G' i).1):∀ i,inR (axSt n G m G' i).2.2.1
 | 0 => by show inR 0; unfold inR; decide
 | 1 => axF_in hG (by show inR 0; unfold inR; decide) n
 | _ + 2 => axF_in hG' (axF_in hG (by show inR 0; unfold inR; decide) n) m
end Go.Ax
end
section
/-
  How two polygons touch, by the reference.
-/
set_option maxHeartbeats 4000000
set_option maxRecDepth 100000
namespace Go.Ax
open Go.Proofs
def tcN (nv a b:V2):Nat → Nat
 | 0 => 0
 | 1 => if (vDot nv a).1 ≤ 0 then 1 else 0
 | _ => (if (vDot nv a).1 ≤ 0 then 1 else 0) + (if (vDot nv b).1 ≤ 0 then 1 else 0)
theorem tcN_0 {nv a b:V2}:tcN nv a b 0 = 0:=rfl
theorem tcN_1 {nv a b:V2}:tcN nv a b 1 = if (vDot nv a).1 ≤ 0 then 1 else 0:=rfl
theorem tcN_2 {nv a b:V2}:tcN nv a b 2 = tcN nv a b 1 + if (vDot nv b).1 ≤ 0 then 1 else 0:=rfl
def tcP (nv p a b:V2) (j:Nat):V2:=if (vDot nv a).1 ≤ 0 ∧ j = 0 then vAdd p a else vAdd p b
def tcD (nv a b:V2) (j:Nat):Nb:=if (vDot nv a).1 ≤ 0 ∧ j = 0 then nNeg (vDot nv a) else nNeg (vDot nv b)
theorem flK_tc {nv p a b q:V2} {d:Nb} (h:0 < tcN nv a b 2):(flK nv p a b q d).nv = nv ∧ (flK nv p a b q d).n = tcN nv a b 2 ∧ ∀ j,j < tcN nv a b 2 → (flK nv p a b q d).P j = tcP nv p a b j ∧ (flK nv p a b q d).D j = tcD nv a b j:=by
 rw [tcN_2,tcN_1] at h ⊢
 unfold flK flM tcP tcD
 by_cases ha:(vDot nv a).1 ≤ 0
 ·rw [if_pos (.inl ha),if_pos ha,if_pos ha]
  by_cases hb:(vDot nv b).1 ≤ 0
  ·rw [if_pos hb,if_pos hb]
   refine ⟨rfl,rfl,fun j hj => ?_⟩
   dsimp only
   by_cases e:j = 0
   ·rw [if_pos e,if_pos e,if_pos ⟨ha,e⟩,if_pos ⟨ha,e⟩]
    exact ⟨rfl,rfl⟩
   ·rw [if_neg e,if_neg e,if_neg (fun q => e q.2),if_neg (fun q => e q.2)]
    exact ⟨rfl,rfl⟩
  ·rw [if_neg hb,if_neg hb]
   refine ⟨rfl,rfl,fun j hj => ?_⟩
   have e:j = 0:=by omega
   rw [if_pos ⟨ha,e⟩,if_pos ⟨ha,e⟩]
   exact ⟨rfl,rfl⟩
 ·rw [if_neg ha] at h
  have hb:(vDot nv b).1 ≤ 0:=by
   apply Classical.byContradiction
   intro hb
   rw [if_neg hb] at h
   omega
  rw [if_pos (.inr hb),if_neg ha,if_neg ha,if_pos hb]
  refine ⟨rfl,rfl,fun j hj => ?_⟩
  rw [if_neg (fun q => ha q.1),if_neg (fun q => ha q.1)]
  exact ⟨rfl,rfl⟩
theorem flK_no {nv p a b q:V2} {d:Nb} (h:¬ 0 < tcN nv a b 2):flK nv p a b q d = mf1 nv q d:=by
 rw [tcN_2,tcN_1] at h
 refine if_neg ?_
 rintro (k | k)
 ·rw [if_pos k] at h
  omega
 ·rw [if_pos k] at h
  omega
theorem alk_mf {m:Mf} {nv:V2} {n:Nat} {g:Nat → List AV} (h1:m.nv = nv) (h2:m.n = n) (h3:∀ i,i < n → g i = tchC (m.P i) (m.D i)):alk (mfA m) (.agg [i64 nv.1.1,bo nv.1.2,i64 nv.2.1,bo nv.2.2,.ro n 6 g]):=by
 subst h1 h2
 exact alk_shape (alk_ro6 h3)
end Go.Ax
end
section
/-
  How forms touch: all numbers of it are int64s.
-/
set_option maxHeartbeats 4000000
set_option maxRecDepth 100000
namespace Go.Ax
open Go.Proofs
def inV (v:V2):Prop:=inR v.1.1 ∧ inR v.2.1
def inM (m:Mf):Prop:=inV m.nv ∧ m.n ≤ 2 ∧ ∀ j,inV (m.P j) ∧ inR (m.D j).1
theorem inV_norm {a b c d:Int}:inV (vNorm a b c d):=⟨of_eq_true iNorm1,of_eq_true iNorm2⟩
theorem inV_unit {u:V2}:inV (vUnit u).2:=⟨of_eq_true iUnit1,of_eq_true iUnit2⟩
theorem inV_add {u v:V2}:inV (vAdd u v):=⟨of_eq_true iVAdd1,of_eq_true iVAdd2⟩
theorem inV_sub {u v:V2}:inV (vSub u v):=⟨of_eq_true iVSub1,of_eq_true iVSub2⟩
theorem inV_loc {x y:Int}:inV (vLoc x y):=⟨of_eq_true iLoc1,of_eq_true iLoc2⟩
theorem inR_ps {a:Nb} (h:inR a.1):inR (nPos a).1:=of_eq_true (iPos h)
theorem inR_ng {a:Nb} (h:inR a.1):inR (nNeg a).1:=of_eq_true (iNeg h)
theorem inR_sb {a b:Nb}:inR (nSub a b).1:=of_eq_true iSub
theorem inR_dot {u v:V2}:inR (vDot u v).1:=of_eq_true iVDot
theorem inR_hgt {a b c d x y:Int}:inR (hgt a b c d x y).1:=rg_inR hgt_rg
theorem mf1_in {nv p:V2} {d:Nb} (hn:inV nv) (hp:inV p) (hd:inR d.1):inM (mf1 nv p d):=⟨hn,by show 1 ≤ 2; omega,fun _ => ⟨hp,hd⟩⟩
theorem deepS_in {n:Nat} {X Y:Nat → Int} {x y r:Int} {s:AxT} (h:inR s.2.2.1):inM (deepS n X Y x y r s):=mf1_in inV_norm inV_sub (inR_ps (inR_ng h))
theorem rdS_in {n:Nat} {X Y:Nat → Int} {x y r:Int}:inM (rdS n X Y x y r):=by
 refine mf1_in ?_ inV_add (inR_ps inR_sb)
 unfold rdV
 split
 ·exact inV_norm
 ·exact inV_unit
theorem pdS_in {n:Nat} {X Y:Nat → Int} {x y r:Int}:inM (pdS n X Y x y r):=by
 unfold pdS
 split
 ·exact deepS_in (axSt_in (fun _ => rg_inR gD_rg) (fun _ => rg_inR gD_rg) _)
 ·exact rdS_in
theorem flM_in {nv p x y:V2} (h:inV nv):inM (flM nv p x y):=by
 unfold flM
 split
 ·split
  ·refine ⟨h,by show 2 ≤ 2; omega,fun j => ?_⟩
   dsimp only
   split
   ·exact ⟨inV_add,inR_ng inR_dot⟩
   ·exact ⟨inV_add,inR_ng inR_dot⟩
  ·exact mf1_in h inV_add (inR_ng inR_dot)
 ·exact mf1_in h inV_add (inR_ng inR_dot)
theorem flS_in {n m:Nat} {X Y Z T:Nat → Int} {i:Nat}:inM (flS n X Y m Z T i):=by
 unfold flS flK
 split
 ·exact flM_in inV_norm
 ·exact mf1_in inV_norm inV_loc (inR_ps (inR_ng inR_hgt))
end Go.Ax
end
section
/-
  How forms touch, and bodies, by the reference.
-/
set_option maxHeartbeats 4000000
set_option maxRecDepth 100000
namespace Go.Ax
open Go.Proofs
theorem axF_ix1 {G:Nat → Nb} {s:AxT} {n:Nat} (h:s.1 = 0 ∧ 0 ≤ s.2.1 ∧ s.2.1 < n):∀ i:Nat,((axF 1 G s i).1 = 0 ∧ 0 ≤ (axF 1 G s i).2.1 ∧ (axF 1 G s i).2.1 < n) ∨ ((axF 1 G s i).1 = 1 ∧ 0 ≤ (axF 1 G s i).2.1 ∧ (axF 1 G s i).2.1 < i)
 | 0 => .inl h
 | i + 1 => by
  have ih:=axF_ix1 (G:=G) h i
  by_cases c:(axF 1 G s i).2.1 < 0 ∨ 0 < cmpS (whV (G i).1) (whV (axF 1 G s i).2.2.1)
  ·rw [axF_hit c]
   dsimp only
   exact .inr ⟨rfl,by omega,by omega⟩
  ·rw [axF_not c]
   omega
theorem axF_of {o:Int} {G:Nat → Nb}:∀ i:Nat,(axF o G ax0 (i + 1)).1 = o
 | 0 => by rw [axF_hit (.inl (by show (-1:Int) < 0; decide))]
 | i + 1 => by
  have ih:=axF_of (o:=o) (G:=G) i
  by_cases c:(axF o G ax0 (i + 1)).2.1 < 0 ∨ 0 < cmpS (whV (G (i + 1)).1) (whV (axF o G ax0 (i + 1)).2.2.1)
  ·rw [axF_hit c]
  ·rw [axF_not c,ih]
theorem axSt_ix2 {n m:Nat} {G G':Nat → Nb} (h:0 < n):((axSt n G m G' 2).1 = 0 ∧ 0 ≤ (axSt n G m G' 2).2.1 ∧ (axSt n G m G' 2).2.1 < n) ∨ ((axSt n G m G' 2).1 = 1 ∧ 0 ≤ (axSt n G m G' 2).2.1 ∧ (axSt n G m G' 2).2.1 < m):=by
 have h1:=axF_ix (o:=0) (G:=G) (n - 1)
 have h2:=axF_of (o:=0) (G:=G) (n - 1)
 rw [show n - 1 + 1 = n by omega] at h1 h2
 exact axF_ix1 (G:=G') ⟨h2,h1⟩ m
theorem bnd_man {v:V2} {n:Nat} {P:Nat → V2} {D:Nat → Nb}:bnd (manC v n P D) = .agg [i64 v.1.1,bo v.1.2,i64 v.2.1,bo v.2.2,.ro n 6 (tchs P D)]:=(rfl)
attribute [go_sem] bnd_man
def clipA (k x y r:Int) (n:Nat) (X Y:Nat → Int) (k' x' y' r':Int) (m:Nat) (Z T:Nat → Int):AV:=.tup [mfA (clipS k x y r n X Y k' x' y' r' m Z T),bo (clipB k x y r n X Y k' x' y' r' m Z T)]
def c20:Con
 | [.agg [.v (.int .i64 k),.v (.int .i64 x),.v (.int .i64 y),.v (.int .i64 r),.ro n 2 g],.agg [.v (.int .i64 k'),.v (.int .i64 x'),.v (.int .i64 y'),.v (.int .i64 r'),.ro m 2 g']] => some ([spots n g,spots m g',n ≤ 9223372036854775806,m ≤ 9223372036854775806,inR x,inR y,inR r,inR x',inR y',inR r'],
   clipA k x y r n (gx g 0) (gx g 1) k' x' y' r' m (gx g' 0) (gx g' 1))
 | _ => none
theorem bnd_clip {k x y r:Int} {n:Nat} {X Y:Nat → Int} {k' x' y' r':Int} {m:Nat} {Z T:Nat → Int}:clipA k x y r n X Y k' x' y' r' m Z T = .tup [.agg [i64 (clipS k x y r n X Y k' x' y' r' m Z T).nv.1.1,bo (clipS k x y r n X Y k' x' y' r' m Z T).nv.1.2,i64 (clipS k x y r n X Y k' x' y' r' m Z T).nv.2.1,bo (clipS k x y r n X Y k' x' y' r' m Z T).nv.2.2,.ro (clipS k x y r n X Y k' x' y' r' m Z T).n 6 (tchs (clipS k x y r n X Y k' x' y' r' m Z T).P (clipS k x y r n X Y k' x' y' r' m Z T).D)],bo (clipB k x y r n X Y k' x' y' r' m Z T)]:=(rfl)
attribute [go_sem] bnd_clip
end Go.Ax
end
section
/-
  How forms touch, by the program: its small parts.
-/
set_option maxHeartbeats 4000000
set_option maxRecDepth 100000
namespace Go.Ax
open Go.Proofs
def kbak:Con
 | [.agg [.v (.int .i64 x),.v (.bool e),.v (.int .i64 y),.v (.bool f),.ro n 6 g]] => some ([inR x,inR y],.agg [i64 (vScale ((x,e),(y,f)) (nInt (-1))).1.1,bo (vScale ((x,e),(y,f)) (nInt (-1))).1.2,i64 (vScale ((x,e),(y,f)) (nInt (-1))).2.1,bo (vScale ((x,e),(y,f)) (nInt (-1))).2.2,.ro n 6 g])
 | _ => none
theorem konbak:ConOK Tryz.prog 60 kbak:=ConOK.of (G:=[(93,k127),(116,k169)]) (H:=[(1,⟨[(5,.slot 1)],[]⟩)]) (.cons kon127 (.cons kon169 .nil)) Tryz.func60 fun l ob rr hc hob => by
 unfold kbak at hc
 split at hc
 ·rename_i x e y f n g
  cases hc
  have h_0:inR x:=hob _ (by simp)
  have h_1:inR y:=hob _ (by simp)
  refine ⟨by kernel_rfl,fnVC_go (rs:=[.cell 2 58]) rfl rfl ?_⟩
  simp only [go_sem,k127,k169,iMul,iDiv,iInt,iAdd,iSub,iRat,iDot,iHyp,iSq,iNeg,iPos,iAbs,iMx,iMn,iCl,iWh,iLoc1,iLoc2,iVAdd1,iVAdd2,iVSub1,iVSub2,iScale1,iScale2,iVDot,iVCross,iLen,iOf1,iOf2,iUnit1,iUnit2,h_0,h_1]
  done
 ·cases hc
def kto:Con
 | [.agg [.v (.int .i64 x),.v (.bool e),.v (.int .i64 y),.v (.bool f)],.agg [.v (.int .i64 a),.v (.bool g),.v (.int .i64 b),.v (.bool h)],.agg [.v (.int .i64 i),.v (.bool k)],.agg [.v (.int .i64 j),.v (.bool l)]] => some ([inR x,inR y,inR a,inR b,inR i,inR j],veA (cutS ((x,e),(y,f)) ((a,g),(b,h)) (i,k) (j,l)))
 | _ => none
theorem konto:ConOK Tryz.prog 189 kto:=ConOK.of (G:=[(119,k172),(112,k160),(115,k168),(116,k169),(96,k130)]) (H:=[(1,⟨[(12,.slot 8)],[]⟩)]) (.cons kon172 (.cons kon160 (.cons kon168 (.cons kon169 (.cons kon130 .nil))))) Tryz.func189 fun l ob rr hc hob => by
 unfold kto at hc
 split at hc
 ·rename_i x e y f a g b h i k j l
  cases hc
  have h_0:inR x:=hob _ (by simp)
  have h_1:inR y:=hob _ (by simp)
  have h_2:inR a:=hob _ (by simp)
  have h_3:inR b:=hob _ (by simp)
  have h_4:inR i:=hob _ (by simp)
  have h_5:inR j:=hob _ (by simp)
  refine ⟨by kernel_rfl,fnVC_go (rs:=[.cell 8 38]) rfl rfl ?_⟩
  simp only [go_sem,k172,k160,k168,k169,k130,iMul,iDiv,iInt,iAdd,iSub,iRat,iDot,iHyp,iSq,iNeg,iPos,iAbs,iMx,iMn,iCl,iWh,iLoc1,iLoc2,iVAdd1,iVAdd2,iVSub1,iVSub2,iScale1,iScale2,iVDot,iVCross,iLen,iOf1,iOf2,iUnit1,iUnit2,h_0,h_1,h_2,h_3,h_4,h_5]
  rfl
 ·cases hc
def sgC (x y:V2):List AV:=[i64 x.1.1,bo x.1.2,i64 x.2.1,bo x.2.2,i64 y.1.1,bo y.1.2,i64 y.2.1,bo y.2.2]
def clpG:List AV → List AV → Option (List Prop × AV × List AV)
 | [.v (.int .i64 x),.v (.bool e),.v (.int .i64 y),.v (.bool f),.v (.int .i64 a),.v (.bool g),.v (.int .i64 b),.v (.bool h)],[.agg [.v (.int .i64 i),.v (.bool k)],.agg [.v (.int .i64 j),.v (.bool l)]] =>
  some ([inR x,inR y,inR a,inR b,inR i,inR j],.tup [],sgC (clpX ((x,e),(y,f)) ((a,g),(b,h)) (i,k) (j,l)) (clpY ((x,e),(y,f)) ((a,g),(b,h)) (i,k) (j,l)))
 | _,_ => none
def mClp:MCon:=mc1 8 clpG
theorem con125m:MConOK Tryz.prog 125 mClp:=MConOK.mc1 (G:=[(189,kto)]) (H:=[(3,⟨[(15,.slot 0)],[]⟩),(5,⟨[(15,.slot 0)],[]⟩)]) (.cons konto .nil) Tryz.func125 fun cells rest ob val cs hF hob => by
 unfold clpG at hF
 split at hF
 ·rename_i x e y f a g b h i k j l
  cases hF
  have h1:inR x:=hob _ (by simp)
  have h2:inR y:=hob _ (by simp)
  have h3:inR a:=hob _ (by simp)
  have h4:inR b:=hob _ (by simp)
  have h5:inR i:=hob _ (by simp)
  have h6:inR j:=hob _ (by simp)
  clear hob
  refine ⟨fun a ha => by simp at ha; rcases ha with ha | ha <;> (subst ha; rfl),rfl,cleanCs_mem rfl,by kernel_rfl,fun fam f q hq hs hg hk => bodyM_go (rs:=[]) rfl rfl ?_⟩
  simp only [go_sem,kto,loadP_E,storeP_E,← hs,hg,hq,h1,h2,h3,h4,h5,h6]
  refine ⟨fun w => ?_,fun w => ⟨fun w2 => ?_,fun w2 => ?_⟩⟩
  ·unfold clpX clpY
   dsimp only
   rw [if_pos w,if_neg (by omega)]
   rfl
  ·have w:¬ (i < 0 ∧ 0 ≤ j):=by simpa using w
   unfold clpX clpY
   dsimp only
   rw [if_neg w,if_pos w2]
   rfl
  ·have w:¬ (i < 0 ∧ 0 ≤ j):=by simpa using w
   have w2:¬ (j < 0 ∧ 0 ≤ i):=by simpa using w2
   unfold clpX clpY
   dsimp only
   rw [if_neg w,if_neg w2]
   rfl
 ·cases hF
def k122:Con
 | [.agg [.ro n 2 g],.v (.int .i64 i)] => some ([spots n g,0 ≤ i,i < n,n ≤ 9223372036854775806],.tup [.agg [i64 (gx g 0 i.toNat),i64 (gx g 1 i.toNat)],.agg [i64 (gx g 0 (nxt n i.toNat)),i64 (gx g 1 (nxt n i.toNat))]])
 | _ => none
theorem vc122 (n:Nat) (X Y:Nat → Int) (i:Nat) (hi:i < n) (hn:n ≤ 9223372036854775806):fnVC Tryz.prog [] [(1,⟨[(15,.slot 4),(16,.slot 5)],[(6,[.slot 4]),(10,[.slot 4]),(14,[.slot 4])]⟩)] Tryz.f122 [.agg [.ro n 2 fun i => [i64 (X i),i64 (Y i)]],i64 i] (· = .tup [.agg [i64 (X i),i64 (Y i)],.agg [i64 (X (nxt n i)),i64 (Y (nxt n i))]]):=by
 refine fnVC_go (rs:=[.cell 4 29,.cell 5 29]) rfl rfl ?_
 have hn0:((n:Int) = 0) = False:=eq_false (by omega)
 simp only [go_sem,hn0]
 have hl:=nxt_lt hi
 refine ⟨by omega,by omega,fun z hz z1 hz1 => ?_⟩
 rw [wrap_in (by unfold inR; omega)] at hz
 rw [hz,tmod_nxt hi] at hz1
 subst hz1
 exact ⟨by omega,by omega,rfl⟩
theorem kon122:ConOK Tryz.prog 122 k122:=ConOK.go (G:=[]) (H:=[(1,⟨[(15,.slot 4),(16,.slot 5)],[(6,[.slot 4]),(10,[.slot 4]),(14,[.slot 4])]⟩)]) .nil Tryz.func122 fun l ob rr hc hob => by
 unfold k122 at hc
 split at hc
 ·rename_i n g i
  cases hc
  have hs:spots n g:=hob _ (by simp)
  have h0:0 ≤ i:=hob _ (by simp)
  have h1:i < n:=hob _ (by simp)
  have e:i = (i.toNat:Int):=by omega
  refine ⟨[.agg [.ro n 2 fun i => [i64 (gx g 0 i),i64 (gx g 1 i)]],i64 (i.toNat:Int)],fun w I vs h => Rs_two (Rs_poly hs) (fun v h => by rw [← e]; exact h) h,by kernel_rfl,vc122 n _ _ i.toNat (by omega) (hob _ (by simp))⟩
 ·cases hc
def k59:Con
 | [.agg [.v (.int .i64 x),.v (.int .i64 y),.v (.int .i64 r)],.agg [.v (.int .i64 x'),.v (.int .i64 y'),.v (.int .i64 r')]] => some ([inR r,inR r',inR x,inR y],mfA (twoS x y r x' y' r'))
 | _ => none
theorem vc59 (x y r x' y' r':Int) (h1:inR r) (h2:inR r') (h3:inR x) (h4:inR y) :
  fnVC Tryz.prog [(104,c104),(47,k63),(109,k165),(110,k166),(113,k162),(114,k161),(112,k160),(111,k167),(93,k127),(115,k168),(116,k169),(96,k130)] [(5,⟨[(11,.made 10)],[]⟩),(6,⟨[(8,.made 7)],[]⟩),(7,⟨[(9,.made 8)],[]⟩)] Tryz.f59 [.agg [i64 x,i64 y,i64 r],.agg [i64 x',i64 y',i64 r']] (alk (mfA (twoS x y r x' y' r'))):=by
 refine fnVC_go (rs:=[.cell 4 58]) rfl rfl ?_
 simp only [go_sem,c104,k63,k165,k166,k162,k161,k160,k167,k127,k168,k169,k130,h1,h2,h3,h4]
 simp only [forall_eq,mnW_eq]
 have i1:∀ a b,inR (mnW a b):=fun a b => wrap_inR _
 refine ⟨i1 _ _,i1 _ _,fun h => ⟨wrap_inR _,?_⟩,fun h => ⟨wrap_inR _,?_⟩⟩
 ·have e:twN (vLoc (mnW x x') (mnW y y')) = oneV:=if_neg (by rw [h]; decide)
  have e1:vOf 1 0 = oneV:=by decide
  rw [e1]
  unfold twoS
  rw [e]
  refine alk_one ?_
  unfold twP
  rw [e]
  rfl
 ·have e:twN (vLoc (mnW x x') (mnW y y')) = (vUnit (vLoc (mnW x x') (mnW y y'))).2:=if_pos h
  unfold twoS
  rw [e]
  refine alk_one ?_
  unfold twP
  rw [e]
  rfl
theorem con59:ConOK Tryz.prog 59 k59:=ConOK.goR (G:=[(104,c104),(47,k63),(109,k165),(110,k166),(113,k162),(114,k161),(112,k160),(111,k167),(93,k127),(115,k168),(116,k169),(96,k130)]) (H:=[(5,⟨[(11,.made 10)],[]⟩),(6,⟨[(8,.made 7)],[]⟩),(7,⟨[(9,.made 8)],[]⟩)]) (.cons con104 (.cons kon63 (.cons kon165 (.cons kon166 (.cons kon162 (.cons kon161 (.cons kon160 (.cons kon167 (.cons kon127 (.cons kon168 (.cons kon169 (.cons kon130 .nil)))))))))))) Tryz.func59 fun l ob rr hc hob => by
 unfold k59 at hc
 split at hc
 ·rename_i x y r x' y' r'
  cases hc
  exact ⟨_,fun w I vs h => h,by kernel_rfl,vc59 x y r x' y' r' (hob _ (by simp)) (hob _ (by simp)) (hob _ (by simp)) (hob _ (by simp))⟩
 ·cases hc
def k117:Con
 | [.agg [.ro n 2 g],.agg [.v (.int .i64 x),.v (.int .i64 y),.v (.int .i64 r)]] => some ([spots n g,n ≤ 1000,0 < n,∀ i,i < n → validS (gx g 0 i) (gx g 1 i) = true,validS x y = true,inR r,inR x,inR y],mfA (deepS n (gx g 0) (gx g 1) x y r (axSt n (gD n (gx g 0) (gx g 1) x y r) 0 (gD n (gx g 0) (gx g 1) x y r) 2)))
 | _ => none
theorem vc117 (n:Nat) (X Y:Nat → Int) (x y r:Int) (hX:∀ i,i < n → inR (X i) ∧ inR (Y i)) (hn:n ≤ 1000) (n0:0 < n) (vX:∀ i,i < n → validS (X i) (Y i) = true) (v1:validS x y = true) (h3:inR r) (h1:inR x) (h2:inR y) :
  fnVC Tryz.prog [(62,k94),(122,k122),(120,k173),(47,k63),(113,k162),(116,k169),(119,k172),(127,k179),(111,k167)] [(3,⟨[(10,.made 9)],[]⟩),(4,⟨[(9,.slot 4)],[]⟩)] Tryz.f117 [.agg [.ro n 2 fun i => [i64 (X i),i64 (Y i)]],.agg [i64 x,i64 y,i64 r]] (alk (mfA (deepS n X Y x y r (axSt n (gD n X Y x y r) 0 (gD n X Y x y r) 2)))):=by
 refine fnVC_go (rs:=[.cell 4 58]) rfl rfl ?_
 have hg:spots n fun i => [i64 (X i),i64 (Y i)]:=fun i hi => ⟨rfl,hX i hi⟩
 simp only [go_sem,k94,k122,k173,k63,k162,k169,k172,k179,k167,k94q,gx_pts0,gx_pts1,hg,hn,n0,v1,h1,h2,h3]
 have hi:=axSt_ix (G:=gD n X Y x y r) (G':=gD n X Y x y r) n0
 have hr:inR (axSt n (gD n X Y x y r) 0 (gD n X Y x y r) 2).2.2.1:=axSt_in (fun _ => rg_inR gD_rg) (fun _ => rg_inR gD_rg) 2
 generalize axSt n (gD n X Y x y r) 0 (gD n X Y x y r) 2 = s at *
 exact ⟨vX,hi.1,hi.2,by omega,vX _ (by omega),vX _ (nxt_lt (by omega)),hr,of_eq_true (iNeg hr),alk_one rfl⟩
theorem con117:ConOK Tryz.prog 117 k117:=ConOK.goR (G:=[(62,k94),(122,k122),(120,k173),(47,k63),(113,k162),(116,k169),(119,k172),(127,k179),(111,k167)]) (H:=[(3,⟨[(10,.made 9)],[]⟩),(4,⟨[(9,.slot 4)],[]⟩)]) (.cons kon94 (.cons kon122 (.cons kon173 (.cons kon63 (.cons kon162 (.cons kon169 (.cons kon172 (.cons kon179 (.cons kon167 .nil))))))))) Tryz.func117 fun l ob rr hc hob => by
 unfold k117 at hc
 split at hc
 ·rename_i n g x y r
  cases hc
  have hs:spots n g:=hob _ (by simp)
  exact ⟨[.agg [.ro n 2 fun i => [i64 (gx g 0 i),i64 (gx g 1 i)]],.agg [i64 x,i64 y,i64 r]],fun w I vs h => Rs_two (Rs_poly hs) (fun v h => h) h,by kernel_rfl,vc117 n _ _ x y r (fun i hi => (hs i hi).2) (hob _ (by simp)) (hob _ (by simp)) (hob _ (by simp)) (hob _ (by simp)) (hob _ (by simp)) (hob _ (by simp)) (hob _ (by simp))⟩
 ·cases hc
end Go.Ax
end
section
/-
  A polygon and a disc, by the program; against which edge.
-/
set_option maxHeartbeats 4000000
set_option maxRecDepth 100000
namespace Go.Ax
open Go.Proofs
def k61:Con
 | [.agg [.ro n 2 g],.agg [.v (.int .i64 x),.v (.int .i64 y),.v (.int .i64 r)]] => some ([spots n g,n ≤ 1000,0 < n,∀ i,i < n → validS (gx g 0 i) (gx g 1 i) = true,validS x y = true,inR r,inR x,inR y],mfA (pdS n (gx g 0) (gx g 1) x y r))
 | _ => none
def rdRw (n:Nat) (X Y:Nat → Int) (x y r:Int):Nat → Mem
 | 0 => [(13,fam1 36 2 [i64 0,bo false] none),(12,fam1 58 5 [i64 0,bo false,i64 0,bo false,.v (.slice none 0 0)] none)]
 | j + 1 => [(13,fam1 36 2 [i64 (rdL n X Y x y (leI (rdL n X Y x y) j)).1,bo (rdL n X Y x y (leI (rdL n X Y x y) j)).2] none),
   (12,fam1 58 5 [i64 (rdV n X Y x y (leI (rdL n X Y x y) j)).1.1,bo (rdV n X Y x y (leI (rdL n X Y x y) j)).1.2,i64 (rdV n X Y x y (leI (rdL n X Y x y) j)).2.1,bo (rdV n X Y x y (leI (rdL n X Y x y) j)).2.2,.own 16 0 1 6] none),
   (16,famN 1 6 71 (tchs (fun _ => rdP n X Y x y (leI (rdL n X Y x y) j)) (fun _ => nPos (nSub (nRat r 256) (rdL n X Y x y (leI (rdL n X Y x y) j))))) none)]
theorem rdRw_0 {n:Nat} {X Y:Nat → Int} {x y r:Int}:rdRw n X Y x y r 0 = [(13,fam1 36 2 [i64 0,bo false] none),(12,fam1 58 5 [i64 0,bo false,i64 0,bo false,.v (.slice none 0 0)] none)]:=(rfl)
theorem rdRw_s {n:Nat} {X Y:Nat → Int} {x y r:Int} {j:Nat}:rdRw n X Y x y r (j + 1) = [(13,fam1 36 2 [i64 (rdL n X Y x y (leI (rdL n X Y x y) j)).1,bo (rdL n X Y x y (leI (rdL n X Y x y) j)).2] none),
   (12,fam1 58 5 [i64 (rdV n X Y x y (leI (rdL n X Y x y) j)).1.1,bo (rdV n X Y x y (leI (rdL n X Y x y) j)).1.2,i64 (rdV n X Y x y (leI (rdL n X Y x y) j)).2.1,bo (rdV n X Y x y (leI (rdL n X Y x y) j)).2.2,.own 16 0 1 6] none),
   (16,famN 1 6 71 (tchs (fun _ => rdP n X Y x y (leI (rdL n X Y x y) j)) (fun _ => nPos (nSub (nRat r 256) (rdL n X Y x y (leI (rdL n X Y x y) j))))) none)]:=(rfl)
theorem leI_0 {h:Nat → Nb}:leI h 0 = 0:=(rfl)
theorem rdV_n {n:Nat} {X Y:Nat → Int} {x y:Int} {i:Nat} (h:(vUnit (rdM n X Y x y i)).1 = false ∨ 0 < (rdT n X Y x y i).1 ∧ (rdT n X Y x y i).1 < 4294967296):rdV n X Y x y i = vNorm (X i) (Y i) (X (nxt n i)) (Y (nxt n i)):=if_pos h.symm
theorem rdV_u {n:Nat} {X Y:Nat → Int} {x y:Int} {i:Nat} (h:(vUnit (rdM n X Y x y i)).1 = true ∧ (decide (0 < (rdT n X Y x y i).1) && decide ((rdT n X Y x y i).1 < 4294967296)) = false):rdV n X Y x y i = (vUnit (rdM n X Y x y i)).2:=if_neg (by
 rintro (q | q)
 ·have:=h.2
  rw [decide_eq_true q.1,decide_eq_true q.2] at this
  cases this
 ·rw [h.1] at q
  cases q)
theorem vc61 (n:Nat) (X Y:Nat → Int) (x y r:Int) (hX:∀ i,i < n → inR (X i) ∧ inR (Y i)) (hn:n ≤ 1000) (n0:0 < n) (vX:∀ i,i < n → validS (X i) (Y i) = true) (v1:validS x y = true) (h3:inR r) (h1:inR x) (h2:inR y) :
  fnVC Tryz.prog [(106,c106),(117,k117),(47,k63),(85,c85),(104,c104),(105,c105),(98,k132),(93,k127),(118,k171),(116,k169),(96,k130),(119,k172),(114,k161),(87,c87),(109,k165),(120,k173),(113,k162),(112,k160),(111,k167),(1000000 + 161,c161)] [(10,⟨[(14,.made 13)],[]⟩),(11,⟨[(9,.made 8)],[]⟩),(19,⟨[(11,.slot 6)],[]⟩)] Tryz.f61 [.agg [.ro n 2 fun i => [i64 (X i),i64 (Y i)]],.agg [i64 x,i64 y,i64 r]] (alk (mfA (pdS n X Y x y r))):=by
 refine fnVC_go (rs:=[.cell 4 58]) rfl rfl ?_
 have hg:spots n fun i => [i64 (X i),i64 (Y i)]:=fun i hi => ⟨rfl,hX i hi⟩
 simp only [go_sem,c106,k117,k63,c85,c104,c105,k132,k127,k171,k169,k130,k172,k161,c87,k165,k173,k162,k160,k167,gx_pts0,gx_pts1,hg,hn,n0,v1,h1,h2,h3]
 intro z hz
 refine ⟨by omega,vX,fun hi => ⟨vX,?_⟩,fun hi => ?_⟩
 ·rw [show pdS n X Y x y r = deepS n X Y x y r (axSt n (gD n X Y x y r) 0 (gD n X Y x y r) 2) from if_pos (hz.symm.trans hi)]
  exact fun _ _ _ h => h
 rw [show pdS n X Y x y r = rdS n X Y x y r from if_neg (by rw [← hz,hi]; decide)]
 have eI:nInt 1 = (4294967296,false):=by decide
 have eT:∀ i,nCl (nRat (dtW (mnW (X i) x) (mnW (Y i) y) (mnW (X i) (X (nxt n i))) (mnW (Y i) (Y (nxt n i)))) (dtW (mnW (X i) (X (nxt n i))) (mnW (Y i) (Y (nxt n i))) (mnW (X i) (X (nxt n i))) (mnW (Y i) (Y (nxt n i))))) (0,false) (4294967296,false) = rdT n X Y x y i:=fun i => rfl
 have eP:∀ i,vAdd (vLoc (X i) (Y i)) (vScale (vLoc (mnW (X i) (X (nxt n i))) (mnW (Y i) (Y (nxt n i)))) (rdT n X Y x y i)) = rdP n X Y x y i:=fun i => rfl
 have eM:∀ i,vSub (vLoc x y) (rdP n X Y x y i) = rdM n X Y x y i:=fun i => rfl
 have eL:∀ i,vLen (rdM n X Y x y i) = rdL n X Y x y i:=fun i => rfl
 refine rangeC_go (fun (j:Nat) => j ≤ n) (fun j => j) (rdRw n X Y x y r) [10,2,1,0] [29,30,8,9,31,32,33,10,34,35,36,37,38,39,40,41,42,43,44,45,46,11,47,48,49,50,51,52,53,54,12,55,56,57,13,58,59,14,60,61,62,63,64,65,66,67,68,69,71,72,70,73,74,15,16,75,76,77,78,79,80,81,82,83,84,85,86,87,88,89,90,91,92,93,94,95,96,97,98,99,100] 1 0 (N:=n) (sq:=edgeE n fun i => [i64 (X i),i64 (Y i)]) (ob:=[spots n fun i => [i64 (X i),i64 (Y i)],n ≤ 9223372036854775806]) rfl (owe2 hg (by omega)) (by kernel_rfl) rfl (fun i _ => ⟨rfl,rfl⟩) (Nat.zero_le _) rfl ⟨[],?_,?_,?_⟩ ?_ ?_
 ·simp only [go_sem,rdRw_0]
 ·simp only [go_sem]
 ·simp [goodNames,asg,rdRw]
 ·intro j hj hlt
  have hlt:j < n:=hlt
  have hxi:=hX j hlt
  cases j with
  | zero =>
   simp only [go_sem,c106,k117,k63,c85,c104,c105,k132,k127,k171,k169,k130,k172,k161,c87,k165,k173,k162,k160,k167,edgeE,rdRw_0,hxi,h1,h2,h3]
   simp only [forall_eq,mnW_eq,dtW_eq,eI,eT,eP,eM,eL,false_imp_iff,true_imp_iff,true_and]
   refine ⟨dtW_inR,dtW_inR,wrap_inR _,wrap_inR _,fun a b => ⟨a,b⟩,fun hv => ⟨vX 0 hlt,vX _ (nxt_lt hlt),1,by omega,rfl,[(16,some 104)],?_⟩,fun hv => ⟨1,by omega,rfl,[(16,some 100)],?_⟩⟩
   ·have eV:=rdV_n (n:=n) (X:=X) (Y:=Y) (x:=x) (y:=y) (i:=0) hv
    simp only [go_sem,rdRw_s,leI_0,eV]
    refine ⟨?_,by simp [goodNames,asg]⟩
    exact fun q hq => by
     have e:q = 0:=by omega
     subst e
     exact fitL_clean rfl
   ·have eV:=rdV_u (n:=n) (X:=X) (Y:=Y) (x:=x) (y:=y) (i:=0) hv
    simp only [go_sem,rdRw_s,leI_0,eV]
    refine ⟨?_,by simp [goodNames,asg]⟩
    exact fun q hq => by
     have e:q = 0:=by omega
     subst e
     exact fitL_clean rfl
  | succ j =>
   simp only [go_sem,c106,k117,k63,c85,c104,c105,k132,k127,k171,k169,k130,k172,k161,c87,k165,k173,k162,k160,k167,edgeE,rdRw_s,hxi,h1,h2,h3]
   simp only [forall_eq,mnW_eq,dtW_eq,eI,eT,eP,eM,eL,true_and]
   have hL:∀ i,inR (rdL n X Y x y i).1:=fun i => of_eq_true iHyp
   refine ⟨dtW_inR,dtW_inR,wrap_inR _,wrap_inR _,fun hc => ⟨j + 2,by omega,rfl,[(16,some 16)],?_⟩,fun hc => ⟨fun a b => ⟨a,b⟩,fun hv => ⟨vX _ hlt,vX _ (nxt_lt hlt),j + 2,by omega,rfl,[(16,some 104)],?_⟩,fun hv => ⟨j + 2,by omega,rfl,[(16,some 100)],?_⟩⟩⟩
   ·have eI2:leI (rdL n X Y x y) (j + 1) = leI (rdL n X Y x y) j:=if_neg (by omega)
    simp only [go_sem,rdRw_s,eI2]
    refine ⟨?_,by simp [goodNames,asg]⟩
    exact fun q hq => by
     have e:q = 0:=by omega
     subst e
     exact fitL_clean rfl
   ·have eI2:leI (rdL n X Y x y) (j + 1) = j + 1:=if_pos (by omega)
    have eV:=rdV_n (n:=n) (X:=X) (Y:=Y) (x:=x) (y:=y) (i:=j + 1) hv
    simp only [go_sem,rdRw_s,eI2,eV]
    refine ⟨?_,by simp [goodNames,asg]⟩
    exact fun q hq => by
     have e:q = 0:=by omega
     subst e
     exact fitL_clean rfl
   ·have eI2:leI (rdL n X Y x y) (j + 1) = j + 1:=if_pos (by omega)
    have eV:=rdV_u (n:=n) (X:=X) (Y:=Y) (x:=x) (y:=y) (i:=j + 1) hv
    simp only [go_sem,rdRw_s,eI2,eV]
    refine ⟨?_,by simp [goodNames,asg]⟩
    exact fun q hq => by
     have e:q = 0:=by omega
     subst e
     exact fitL_clean rfl
 ·intro j hj he
  have e:j = (n - 1) + 1:=by
   have:j = n:=he
   omega
  rw [e]
  simp only [go_sem,c106,k117,k63,c85,c104,c105,k132,k127,k171,k169,k130,k172,k161,c87,k165,k173,k162,k160,k167,rdRw_s]
  refine alk_mf rfl rfl fun q hq => ?_
  rfl
theorem con61:ConOK Tryz.prog 61 k61:=ConOK.goR (G:=[(106,c106),(117,k117),(47,k63),(85,c85),(104,c104),(105,c105),(98,k132),(93,k127),(118,k171),(116,k169),(96,k130),(119,k172),(114,k161),(87,c87),(109,k165),(120,k173),(113,k162),(112,k160),(111,k167),(1000000 + 161,c161)]) (H:=[(10,⟨[(14,.made 13)],[]⟩),(11,⟨[(9,.made 8)],[]⟩),(19,⟨[(11,.slot 6)],[]⟩)]) (.cons con106 (.cons con117 (.cons kon63 (.cons con85 (.cons con104 (.cons con105 (.cons kon132 (.cons kon127 (.cons kon171 (.cons kon169 (.cons kon130 (.cons kon172 (.cons kon161 (.cons con87 (.cons kon165 (.cons kon173 (.cons kon162 (.cons kon160 (.cons kon167 (.seq seq161 .nil)))))))))))))))))))) Tryz.func61 fun l ob rr hc hob => by
 unfold k61 at hc
 split at hc
 ·rename_i n g x y r
  cases hc
  have hs:spots n g:=hob _ (by simp)
  exact ⟨[.agg [.ro n 2 fun i => [i64 (gx g 0 i),i64 (gx g 1 i)]],.agg [i64 x,i64 y,i64 r]],fun w I vs h => Rs_two (Rs_poly hs) (fun v h => h) h,by kernel_rfl,vc61 n _ _ x y r (fun i hi => (hs i hi).2) (hob _ (by simp)) (hob _ (by simp)) (hob _ (by simp)) (hob _ (by simp)) (hob _ (by simp)) (hob _ (by simp)) (hob _ (by simp))⟩
 ·cases hc
end Go.Ax
end
section
/-
  Against which edge a polygon lies, by the program.
-/
set_option maxHeartbeats 4000000
set_option maxRecDepth 100000
namespace Go.Ax
open Go.Proofs
def k123:Con
 | [.agg [.ro n 2 g],.agg [.v (.int .i64 x),.v (.bool e),.v (.int .i64 y),.v (.bool f)]] => some ([spots n g,n ≤ 1000,0 < n,∀ i,i < n → validS (gx g 0 i) (gx g 1 i) = true,inR x,inR y],
   .tup [.agg [i64 (gx g 0 (leI (agK n (gx g 0) (gx g 1) ((x,e),(y,f))) (n - 1))),i64 (gx g 1 (leI (agK n (gx g 0) (gx g 1) ((x,e),(y,f))) (n - 1)))],.agg [i64 (gx g 0 (nxt n (leI (agK n (gx g 0) (gx g 1) ((x,e),(y,f))) (n - 1)))),i64 (gx g 1 (nxt n (leI (agK n (gx g 0) (gx g 1) ((x,e),(y,f))) (n - 1))))]])
 | _ => none
def agRw (n:Nat) (X Y:Nat → Int) (nv:V2):Nat → Mem
 | 0 => [(5,fam1 4 1 [bo true] none),(4,fam1 36 2 [i64 0,bo false] none),(3,fam1 29 2 [i64 0,i64 0] none),(2,fam1 29 2 [i64 0,i64 0] none)]
 | j + 1 => [(5,fam1 4 1 [bo false] none),(4,fam1 36 2 [i64 (agK n X Y nv (leI (agK n X Y nv) j)).1,bo (agK n X Y nv (leI (agK n X Y nv) j)).2] none),(3,fam1 29 2 [i64 (X (nxt n (leI (agK n X Y nv) j))),i64 (Y (nxt n (leI (agK n X Y nv) j)))] none),(2,fam1 29 2 [i64 (X (leI (agK n X Y nv) j)),i64 (Y (leI (agK n X Y nv) j))] none)]
section
variable {n j:Nat} {X Y:Nat → Int} {nv:V2}
theorem agRw_0:agRw n X Y nv 0 = [(5,fam1 4 1 [bo true] none),(4,fam1 36 2 [i64 0,bo false] none),(3,fam1 29 2 [i64 0,i64 0] none),(2,fam1 29 2 [i64 0,i64 0] none)]:=(rfl)
theorem agRw_s:agRw n X Y nv (j + 1) = [(5,fam1 4 1 [bo false] none),(4,fam1 36 2 [i64 (agK n X Y nv (leI (agK n X Y nv) j)).1,bo (agK n X Y nv (leI (agK n X Y nv) j)).2] none),(3,fam1 29 2 [i64 (X (nxt n (leI (agK n X Y nv) j))),i64 (Y (nxt n (leI (agK n X Y nv) j)))] none),(2,fam1 29 2 [i64 (X (leI (agK n X Y nv) j)),i64 (Y (leI (agK n X Y nv) j))] none)]:=(rfl)
end
theorem vc123 (n:Nat) (X Y:Nat → Int) (nv:V2) (hX:∀ i,i < n → inR (X i) ∧ inR (Y i)) (hn:n ≤ 1000) (n0:0 < n) (vX:∀ i,i < n → validS (X i) (Y i) = true) (h1:inR nv.1.1) (h2:inR nv.2.1) :
  fnVC Tryz.prog [(85,c85),(120,k173),(126,k178),(87,c87),(1000000 + 161,c161)] [(6,⟨[(6,.made 5)],[]⟩),(8,⟨[(3,.slot 4),(4,.slot 5),(5,.slot 6),(6,.slot 7)],[(1,[.slot 4]),(2,[.slot 4,.slot 5])]⟩),(9,⟨[(2,.slot 4),(3,.slot 5)],[(1,[.slot 4])]⟩)] Tryz.f123 [.agg [.ro n 2 fun i => [i64 (X i),i64 (Y i)]],.agg [i64 nv.1.1,bo nv.1.2,i64 nv.2.1,bo nv.2.2]] (· = .tup [.agg [i64 (X (leI (agK n X Y nv) (n - 1))),i64 (Y (leI (agK n X Y nv) (n - 1)))],.agg [i64 (X (nxt n (leI (agK n X Y nv) (n - 1)))),i64 (Y (nxt n (leI (agK n X Y nv) (n - 1))))]]):=by
 refine fnVC_go (rs:=[.cell 4 29,.cell 5 29]) rfl rfl ?_
 have hg:spots n fun i => [i64 (X i),i64 (Y i)]:=fun i hi => ⟨rfl,hX i hi⟩
 simp only [go_sem,c85,k173,k178,c87,gx_pts0,gx_pts1,hg,hn,n0,h1,h2]
 have eK:∀ j,vDot (vNorm (X j) (Y j) (X (nxt n j)) (Y (nxt n j))) nv = agK n X Y nv j:=fun j => rfl
 refine rangeC_go (fun (j:Nat) => j ≤ n) (fun j => j) (agRw n X Y nv) [1,0] [13,14,8,9,15,16,17,18,19,10,20,21,22,23,24,25,26,27,28,29] 0 0 (N:=n) (sq:=edgeE n fun i => [i64 (X i),i64 (Y i)]) (ob:=[spots n fun i => [i64 (X i),i64 (Y i)],n ≤ 9223372036854775806]) rfl (owe2 hg (by omega)) (by kernel_rfl) rfl (fun i _ => ⟨rfl,rfl⟩) (Nat.zero_le _) rfl ⟨[],?_,?_,?_⟩ ?_ ?_
 ·simp only [go_sem,agRw_0]
 ·simp only [go_sem]
 ·simp [goodNames,asg,agRw_0]
 ·intro j hj hlt
  have hlt:j < n:=hlt
  cases j with
  | zero =>
   simp only [go_sem,c85,k173,k178,c87,edgeE,agRw_0,h1,h2]
   simp only [forall_eq,eK,false_imp_iff,true_imp_iff,true_and]
   refine ⟨vX 0 hlt,vX _ (nxt_lt hlt),fun h => (by cases h),fun _ => ⟨1,by omega,rfl,[],?_⟩,fun h => (by cases h.1)⟩
   simp only [go_sem,agRw_s,leI_0]
   simp [goodNames,asg]
  | succ j =>
   simp only [go_sem,c85,k173,k178,c87,edgeE,agRw_s,h1,h2]
   simp only [forall_eq,eK,false_imp_iff,true_imp_iff,true_and]
   refine ⟨vX _ hlt,vX _ (nxt_lt hlt),fun h => ⟨j + 2,by omega,rfl,[],?_⟩,fun h => ⟨j + 2,by omega,rfl,[],?_⟩⟩
   ·have eI2:leI (agK n X Y nv) (j + 1) = j + 1:=if_pos (h.resolve_left id)
    simp only [go_sem,agRw_s,eI2]
    simp [goodNames,asg]
   ·have eI2:leI (agK n X Y nv) (j + 1) = leI (agK n X Y nv) j:=if_neg h
    simp only [go_sem,agRw_s,eI2]
    simp [goodNames,asg]
 ·intro j hj he
  have e:j = (n - 1) + 1:=by
   have:j = n:=he
   omega
  rw [e]
  simp only [go_sem,c85,k173,k178,c87,agRw_s]
theorem con123:ConOK Tryz.prog 123 k123:=ConOK.go (G:=[(85,c85),(120,k173),(126,k178),(87,c87),(1000000 + 161,c161)]) (H:=[(6,⟨[(6,.made 5)],[]⟩),(8,⟨[(3,.slot 4),(4,.slot 5),(5,.slot 6),(6,.slot 7)],[(1,[.slot 4]),(2,[.slot 4,.slot 5])]⟩),(9,⟨[(2,.slot 4),(3,.slot 5)],[(1,[.slot 4])]⟩)]) (.cons con85 (.cons kon173 (.cons kon178 (.cons con87 (.seq seq161 .nil))))) Tryz.func123 fun l ob rr hc hob => by
 unfold k123 at hc
 split at hc
 ·rename_i n g x e y f
  cases hc
  have hs:spots n g:=hob _ (by simp)
  exact ⟨[.agg [.ro n 2 fun i => [i64 (gx g 0 i),i64 (gx g 1 i)]],.agg [i64 x,bo e,i64 y,bo f]],fun w I vs h => Rs_two (Rs_poly hs) (fun v h => h) h,by kernel_rfl,vc123 n _ _ ((x,e),(y,f)) (fun i hi => (hs i hi).2) (hob _ (by simp)) (hob _ (by simp)) (hob _ (by simp)) (hob _ (by simp)) (hob _ (by simp))⟩
 ·cases hc
end Go.Ax
end
section
/-
  Ways and boxes.
-/
set_option maxHeartbeats 4000000
set_option maxRecDepth 100000
namespace Go.Ax
open Go.Proofs
section
variable {P:Program} {G:Ctx} {key:Nat} {d:Option Tmp} {q ty:TypeId} {pos:String} {af:Array Edge} {gd:Option (Nat × Bool)} {g:Option Bool} {ρ0:Operand → AV} {m:Mem}
def idzE (P:Program) (q:TypeId) (a b:AV):Option Eff:=match flat a with
 | some x => match flat b with
  | some y => match pureRun P (Instr.index q x y) with
   | some v => some ⟨[],ofVal v,.none⟩
   | none => none
  | none => none
 | none => none
theorem aStep_idz {x i:Operand}:aStep P G key g ⟨d,.index q x i,ty,pos,af,gd⟩ ρ0 m = idzE P q (strip (ρ0 x)) (strip (ρ0 i)):=by
 show effOf (aPure P (fun x => strip (ρ0 x)) ⟨d,.index q x i,ty,pos,af,gd⟩) = _
 unfold aPure idzE
 dsimp only [Op.operands,List.map,flatAll]
 cases hx:flat (strip (ρ0 x)) with
 | none => rfl
 | some vx =>
  dsimp only
  cases hi:flat (strip (ρ0 i)) with
  | none => rfl
  | some vi =>
   dsimp only
   have:execOp (fun x => (flat (strip (ρ0 x))).getD undef) ⟨d,.index q x i,ty,pos,af,gd⟩ = Sem.bind (Instr.index q vx vi) fun v => Sem.pure (Next.value v):=by
    show Sem.bind (Instr.index q ((flat (strip (ρ0 x))).getD undef) ((flat (strip (ρ0 i))).getD undef)) (fun v => Sem.pure (Next.value v)) = _
    rw [hx,hi]; rfl
   rw [this,pureRun_bind]
   cases pureRun P (Instr.index q vx vi) <;> rfl
end
theorem idx125_0 {a b:Int}:idzE Tryz.prog 138 (.agg [i64 a,i64 b]) (.v (.int .i64 0)) = some ⟨[],i64 a,.none⟩:=by kernel_rfl
theorem idx125_1 {a b:Int}:idzE Tryz.prog 138 (.agg [i64 a,i64 b]) (.v (.int .i64 1)) = some ⟨[],i64 b,.none⟩:=by kernel_rfl
attribute [go_sem] aStep_idz idx125_0 idx125_1
def wayB (a b c d:Int) (k:Nat):Int:=joinT (IntKind.i64.wrap (a - 0)) (IntKind.i64.wrap (b - 0)) (IntKind.i64.wrap (a + 0)) (IntKind.i64.wrap (b + 0)) (IntKind.i64.wrap (c - 0)) (IntKind.i64.wrap (d - 0)) (IntKind.i64.wrap (c + 0)) (IntKind.i64.wrap (d + 0)) k
def crS (a b c d x0 y0 x1 y1:Int) (j:Nat):Int:=turnS a b c d (if j < 2 then x0 else x1) (if j % 2 = 0 then y0 else y1)
def alS (x0 y0 x1 y1 a b c d:Int):Bool:=validS a b && (validS c d && (meetsS x0 y0 x1 y1 (wayB a b c d 0) (wayB a b c d 1) (wayB a b c d 2) (wayB a b c d 3) && (anyB (fun j => decide (crS a b c d x0 y0 x1 y1 j ≤ 0)) 4 && anyB (fun j => decide (0 ≤ crS a b c d x0 y0 x1 y1 j)) 4)))
def c38:Con
 | [.agg [.v (.int .i64 x0),.v (.int .i64 y0),.v (.int .i64 x1),.v (.int .i64 y1)],.agg [.v (.int .i64 a),.v (.int .i64 b)],.agg [.v (.int .i64 c),.v (.int .i64 d)]] => some ([inR x0,inR y0,inR x1,inR y1,inR a,inR b,inR c,inR d],bo (alS x0 y0 x1 y1 a b c d))
 | _ => none
theorem con38:ConOK Tryz.prog 38 c38:=ConOK.of (G:=[(50,c50),(51,c51),(29,c29),(54,c54),(86,c86)]) (H:=[]) (.cons con50 (.cons con51 (.cons con29 (.cons con54 (.cons con86 .nil))))) Tryz.func38 fun l ob r hc hob => by
 unfold c38 at hc
 split at hc
 ·rename_i x0 y0 x1 y1 a b c d
  cases hc
  have h_0:inR x0:=hob _ (by simp)
  have h_1:inR y0:=hob _ (by simp)
  have h_2:inR x1:=hob _ (by simp)
  have h_3:inR y1:=hob _ (by simp)
  have h_4:inR a:=hob _ (by simp)
  have h_5:inR b:=hob _ (by simp)
  have h_6:inR c:=hob _ (by simp)
  have h_7:inR d:=hob _ (by simp)
  refine ⟨by kernel_rfl,fnVC_go (rs:=[.tmp 6]) rfl rfl ?_⟩
  simp only [go_sem,c50,c51,c29,c54,c86]
  have hsp:spots 2 (rowsOf 2 [i64 a,i64 b,i64 c,i64 d]):=spots2 rfl rfl h_4 h_5 h_6 h_7
  have hfa:=fair2r (a:=a) (b:=b) (c:=c) (d:=d)
  rw [hfa]
  intro z hz
  have wv:z = true → validS a b = true ∧ validS c d = true ∧ IntKind.i64.wrap (a - 0) = a ∧ IntKind.i64.wrap (b - 0) = b ∧ IntKind.i64.wrap (a + 0) = a ∧ IntKind.i64.wrap (b + 0) = b ∧ IntKind.i64.wrap (c - 0) = c ∧ IntKind.i64.wrap (d - 0) = d ∧ IntKind.i64.wrap (c + 0) = c ∧ IntKind.i64.wrap (d + 0) = d:=fun h => by
   have hv:validS a b = true ∧ validS c d = true:=by rw [hz] at h; simpa using h
   refine ⟨hv.1,hv.2,?_,?_,?_,?_,?_,?_,?_,?_⟩ <;> (rw [wrap_in (by unfold inR at *; omega)]; omega)
  have wj:∀ k,z = true → inR (wayB a b c d k):=fun k h => by
   obtain ⟨v1,v2,e1,e2,e3,e4,e5,e6,e7,e8⟩:=wv h
   unfold wayB joinT
   rw [e1,e2,e3,e4,e5,e6,e7,e8]
   rw [validS_iff] at v1 v2
   unfold inR
   split
   ·split <;> omega
   ·omega
  refine ⟨hsp,fun h => ?_,fun _ => trivial,fun z1 hz1 => ⟨fun _ => h_0,fun _ => h_1,fun _ => h_2,fun _ => h_3,fun h => wj 0 h,fun h => wj 1 h,fun h => wj 2 h,fun h => wj 3 h,fun h => ?_,fun h => ?_⟩⟩
  ·obtain ⟨v1,v2,e1,e2,e3,e4,e5,e6,e7,e8⟩:=wv h
   rw [e1,e2,e3,e4,e5,e6,e7,e8]
   exact ⟨⟨h_4,h_5,h_4,h_5⟩,h_6,h_7,h_6,h_7⟩
  ·unfold alS wayB
   rcases h with h | h
   ·rw [hz] at h
    rw [← Bool.and_assoc,h,Bool.false_and]
   ·rw [hz1] at h
    rw [h,Bool.false_and,Bool.and_false,Bool.and_false]
  ·obtain ⟨v1,v2,_⟩:=wv h.1
   have hm:=h.2
   rw [hz1] at hm
   have hms:=of_decide_eq_true hm
   have hcb:=checkBoxS_iff.1 hms.1
   have q00:validS x0 y0 = true:=validS_iff.2 (by omega)
   have q01:validS x0 y1 = true:=validS_iff.2 (by omega)
   have q10:validS x1 y0 = true:=validS_iff.2 (by omega)
   have q11:validS x1 y1 = true:=validS_iff.2 (by omega)
   have eal:alS x0 y0 x1 y1 a b c d = (anyB (fun j => decide (crS a b c d x0 y0 x1 y1 j ≤ 0)) 4 && anyB (fun j => decide (0 ≤ crS a b c d x0 y0 x1 y1 j)) 4):=by
    unfold alS wayB
    rw [v1,v2,hm]; rfl
   have c0:crS a b c d x0 y0 x1 y1 0 = turnS a b c d x0 y0:=rfl
   have c1:crS a b c d x0 y0 x1 y1 1 = turnS a b c d x0 y1:=rfl
   have c2:crS a b c d x0 y0 x1 y1 2 = turnS a b c d x1 y0:=rfl
   have c3:crS a b c d x0 y0 x1 y1 3 = turnS a b c d x1 y1:=rfl
   rw [eal]
   clear eal wv wj hms hm hz hz1
   generalize crS a b c d x0 y0 x1 y1 = T at *
   have w1:IntKind.i64.wrap 1 = 1:=wrap_in (by unfold inR; omega)
   have w2:IntKind.i64.wrap 2 = 2:=wrap_in (by unfold inR; omega)
   refine loopC_go (fun (i:Nat) => i ≤ 2) (fun i => 2 - i) (fun i => [(35,i64 i),(7,bo (anyB (fun j => decide (T j ≤ 0)) (2 * i))),(8,bo (anyB (fun j => decide (0 ≤ T j)) (2 * i)))]) (fun _ => []) [2,1,0] [36,37,10,38,39,40,41,42,43,44,45,12,46,47,48,49,50,51,13,52,53,54,55,56,57,58,59,60,61,7,8,62,43,63,35] 0 (by kernel_rfl) ?_ (Nat.zero_le _) ?_ ?_
   ·intro x _; simp [goodNames]
   ·simp only [go_sem,Nat.mul_zero,anyB]
   ·intro i hi
    have hi:i = 0 ∨ i = 1 ∨ i = 2:=by omega
    rcases hi with rfl | rfl | rfl
    ·simp only [go_sem]
     refine ⟨fun _ => ?_,fun h => (by cases h)⟩
     refine loopC_go (fun (j:Nat) => j ≤ 2) (fun j => 2 - j) (fun j => [(43,i64 j),(7,bo (anyB (fun j => decide (T j ≤ 0)) (0 + j))),(8,bo (anyB (fun j => decide (0 ≤ T j)) (0 + j)))]) (fun _ => []) [2,1,0] [44,45,12,46,47,48,49,50,51,13,52,53,54,55,56,57,58,59,60,61,7,8,62,43] 0 (by kernel_rfl) ?_ (Nat.zero_le _) ?_ ?_
     ·intro x _; simp [goodNames]
     ·simp only [go_sem]
     ·intro j hj
      have hj:j = 0 ∨ j = 1 ∨ j = 2:=by omega
      rcases hj with rfl | rfl | rfl
      ·simp only [go_sem,c86]
       refine ⟨fun _ z hz => ⟨v1,v2,q00,fun z1 hz1 => ⟨1,by omega,by omega,by rw [hz1,w1]; rfl,?_,?_⟩⟩,fun h => by cases h⟩
       ·rw [hz,← c0]; rfl
       ·rw [hz,← c0]; rfl
      ·simp only [go_sem,c86]
       refine ⟨fun _ z hz => ⟨v1,v2,q01,fun z1 hz1 => ⟨2,by omega,by omega,by rw [hz1,w2]; rfl,?_,?_⟩⟩,fun h => by cases h⟩
       ·rw [hz,← c1]; rfl
       ·rw [hz,← c1]; rfl
      ·simp only [go_sem]
       refine ⟨fun h => h.elim,fun _ z hz => ⟨1,by omega,by omega,by rw [hz,w1]; rfl,rfl,rfl⟩⟩
    ·simp only [go_sem]
     refine ⟨fun _ => ?_,fun h => (by cases h)⟩
     refine loopC_go (fun (j:Nat) => j ≤ 2) (fun j => 2 - j) (fun j => [(43,i64 j),(7,bo (anyB (fun j => decide (T j ≤ 0)) (2 + j))),(8,bo (anyB (fun j => decide (0 ≤ T j)) (2 + j)))]) (fun _ => []) [2,1,0] [44,45,12,46,47,48,49,50,51,13,52,53,54,55,56,57,58,59,60,61,7,8,62,43] 0 (by kernel_rfl) ?_ (Nat.zero_le _) ?_ ?_
     ·intro x _; simp [goodNames]
     ·simp only [go_sem]
     ·intro j hj
      have hj:j = 0 ∨ j = 1 ∨ j = 2:=by omega
      rcases hj with rfl | rfl | rfl
      ·simp only [go_sem,c86]
       refine ⟨fun _ z hz => ⟨v1,v2,q10,fun z1 hz1 => ⟨1,by omega,by omega,by rw [hz1,w1]; rfl,?_,?_⟩⟩,fun h => by cases h⟩
       ·rw [hz,← c2]; rfl
       ·rw [hz,← c2]; rfl
      ·simp only [go_sem,c86]
       refine ⟨fun _ z hz => ⟨v1,v2,q11,fun z1 hz1 => ⟨2,by omega,by omega,by rw [hz1,w2]; rfl,?_,?_⟩⟩,fun h => by cases h⟩
       ·rw [hz,← c3]; rfl
       ·rw [hz,← c3]; rfl
      ·simp only [go_sem]
       refine ⟨fun h => h.elim,fun _ z hz => ⟨2,by omega,by omega,by rw [hz,w2]; rfl,rfl,rfl⟩⟩
    ·simp only [go_sem]
     exact fun h => h.elim
 ·cases hc
end Go.Ax
end