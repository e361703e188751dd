/-
  Regions that draw their order, continued.
-/
import Derived.Test.YtafigekkhpepkaaGreatCM1
import Derived.LoopNIn
import Derived.RangeFuncLeaves
import Derived.RangeFuncNested
import Derived.Scope
import Derived.Test.YtafigekkhpepkaaGreatRows
import Derived.KernelRfl
set_option linter.unusedVariables false
set_option linter.unusedSimpArgs false
section
namespace Go.Ax
open Go.RowKit
section
variable {P:Program} {G:Ctx} {ops:Array Oper} {base:Nat} {hot:Hot}
theorem aStep_free {key:Nat} {g:Option Bool} {o:Oper} {ρ0:Operand→AV} {m:Mem} {e:Eff} (hk:opKind o.op = 0) (h:aStep P G key g o ρ0 m = some e):e.u = .none∧∀ key' m',aStep P G key' g o ρ0 m' = some e:=by
 unfold aStep at h
 split at h
 ·rename_i f args ats ho; rw [ho] at hk; simp [opKind] at hk
 ·rename_i r name args ats ho; rw [ho] at hk; simp [opKind] at hk
 ·rename_i hn1 hn2
  by_cases hext:isExt o.op = true
  ·rw [hext] at h
   dsimp only at h
   have e2:∀ key' m',aStep P G key' g o ρ0 m' = aExt P key' g o ρ0 m':=fun key' m' => by
    unfold aStep
    split
    ·rename_i f args ats ho; exact absurd ho (hn1 _ _ _)
    ·rename_i r name args ats ho; exact absurd ho (hn2 _ _ _ _)
    ·rw [hext]
   simp only [e2]
   unfold aExt at h ⊢
   split at h
   ·rename_i ho; rw [ho] at hk; simp [opKind] at hk
   ·refine ⟨?_,fun _ _ => h⟩
    unfold aCut at h
    (repeat' split at h) <;> first | (cases h; done) | (cases h; rfl)
   ·rename_i ho; rw [ho] at hk; simp [opKind] at hk
   ·cases h
  rw [Bool.not_eq_true] at hext
  rw [hext] at h
  dsimp only at h
  have e2:∀ key' m',aStep P G key' g o ρ0 m' = aop P key' g o ρ0 m':=fun key' m' => by
   unfold aStep
   split
   ·rename_i f args ats ho; exact absurd ho (hn1 _ _ _)
   ·rename_i r name args ats ho; exact absurd ho (hn2 _ _ _ _)
   ·rw [hext]
  simp only [e2]
  unfold aop at h ⊢
  dsimp only at h ⊢
  obtain ⟨dst,op,type,pos,after,guard⟩:=o
  dsimp only at h hk ⊢
  cases op
  case alloc => simp [opKind] at hk
  case box => simp [opKind] at hk
  case load => simp [opKind] at hk
  case store => simp [opKind] at hk
  case buildSlice => simp [opKind] at hk
  case pick => exact ⟨effOf2_u h,fun _ _ => h⟩
  case indexAddr => exact ⟨effOf2_u h,fun _ _ => h⟩
  case move => cases h; exact ⟨rfl,fun _ _ => rfl⟩
  case assign => cases h; exact ⟨rfl,fun _ _ => rfl⟩
  case makeFunc fn first cap =>
   cases fn <;> dsimp only at h ⊢ <;> first | exact ⟨effOf_u h,fun _ _ => h⟩ | skip
   refine ⟨?_,fun _ _ => h⟩
   split at h <;> cases h
   rfl
  case makeInterface t x =>
   refine ⟨?_,fun _ _ => h⟩
   dsimp only at h
   split at h <;> cases h
   rfl
  case extract x i =>
   refine ⟨?_,fun _ _ => h⟩
   dsimp only at h
   split at h <;> exact effOf_u h
  case nilCheck x =>
   refine ⟨?_,fun _ _ => h⟩
   dsimp only at h
   split at h
   ·cases h; rfl
   ·exact effOf_u h
  case typeAssert x t u ok =>
   cases ok <;> dsimp only at h ⊢
   all_goals
    refine ⟨?_,fun _ _ => h⟩
    (repeat' split at h) <;> first | (cases h; done) | exact effOf_u h | (cases h; rfl)
  case binOp op t x y u =>
   cases op <;> dsimp only at h ⊢ <;> first | exact ⟨effOf_u h,fun _ _ => h⟩ | skip
   all_goals
    refine ⟨?_,fun _ _ => h⟩
    split at h
    ·cases h; rfl
    ·exact effOf_u h
  case call c =>
   obtain ⟨callee,args,ats⟩:=c
   cases callee
   case value f => simp [opKind] at hk
   case invoke r s => simp [opKind] at hk
   case builtin b =>
    cases b <;> dsimp only at h ⊢ <;> first | exact ⟨effOf_u h,fun _ _ => h⟩ | skip
    all_goals first | (simp [opKind] at hk; done) | skip
    refine ⟨?_,fun _ _ => h⟩
    (repeat' split at h) <;> first | (cases h; done) | exact effOf_u h | (cases h; rfl)
  all_goals exact ⟨effOf_u h,fun _ _ => h⟩
theorem aStep_mild {key:Nat} {g:Option Bool} {o:Oper} {ρ0:Operand→AV} {m:Mem} {e:Eff} (hk:opKind o.op = 1) (h:aStep P G key g o ρ0 m = some e) (hm:∀ s n,e.u≠.many s n):e.u = .none∨∃ x,e.u = .new x:=by
 unfold aStep at h
 split at h
 ·split at h
  ·split at h
   ·obtain ⟨_,_,_,_,_,_,_,⟨s,n,hu⟩ | ⟨y,hu⟩⟩:=aMut_inv h
    ·exact absurd hu (hm s n)
    ·exact .inr ⟨y,hu⟩
   ·exact .inl (effOf2_u h)
  ·cases h
 ·split at h
  ·split at h
   ·exact .inl (effOf2_u h)
   ·cases h
  ·cases h; exact .inl rfl
  ·cases h
 ·rename_i hn1 hn2
  split at h
  ·unfold aExt at h
   split at h
   ·unfold aMake at h
    (repeat' split at h) <;> first | (cases h; done) | (cases h; exact .inr ⟨_,rfl⟩)
   ·rename_i ho; rw [ho] at hk; simp [opKind] at hk
   ·rename_i ho; rw [ho] at hk; simp [opKind] at hk
   ·cases h
  rename_i hx2
  clear hx2
  unfold aop at h
  dsimp only at h
  obtain ⟨dst,op,type,pos,after,guard⟩:=o
  dsimp only at h hk hn1 hn2
  cases op <;> (try (simp [opKind] at hk; done))
  case makeSlice => exact .inl (effOf_u h)
  case call c =>
   exfalso
   clear h
   have k1:∀ c:Call,opKind (.call c) = 1→(∀ f args ats,c≠⟨.value f,args,ats⟩)→(∀ r s args ats,c≠⟨.invoke r s,args,ats⟩)→False:=fun c h1 h2 h3 => by
    obtain ⟨callee,args,ats⟩:=c
    cases callee with
    | value f => exact h2 _ _ _ rfl
    | invoke r s => exact h3 _ _ _ _ rfl
    | builtin b => cases b <;> simp [opKind] at h1
   exact k1 c hk (fun f args ats e => hn1 f args ats (by rw [e])) (fun r s args ats e => hn2 r s args ats (by rw [e]))
  case alloc =>
   dsimp only at h
   split at h <;> cases h
   exact .inr ⟨_,rfl⟩
  case box =>
   dsimp only at h
   split at h <;> cases h
   exact .inr ⟨_,rfl⟩
  case load => exact .inl (effOf2_u h)
  case buildSlice =>
   dsimp only at h
   unfold aBuildSlice at h
   (repeat' split at h) <;> first | (cases h; done) | skip
   all_goals first
    | (cases h; exact .inl rfl)
    | (cases h; exact .inr ⟨_,rfl⟩)
def stApp (base i:Nat) (o:Oper) (e:Eff) (s:St):St:={ s with t:=putSlot o.dst e.val s.t,m:=e.u.app (base + i) s.m }
def runL (P:Program) (G:Ctx) (hot:Hot) (ops:Array Oper) (base:Nat):List (Nat×Oper)→St→St→Prop
 | [],s,s' => s = s'
 | (i,o) :: rest,s,s' => ∃ e,stepE P G ops (base + i) o s.t (restr hot base i o s.t s.m) = some e∧rootOK (some hot) base i s.t e.u = true∧(∀ p ∈ e.ob,p)∧runL P G hot ops base rest (stApp base i o e s) s'
structure StEq (s s':St):Prop where
 t:slot s.t = slot s'.t
 m:s.m = s'.m
 nx:s.nx = s'.nx
theorem StEq.refl (s:St):StEq s s:=⟨rfl,rfl,rfl⟩
theorem StEq.trans {a b c:St} (h:StEq a b) (k:StEq b c):StEq a c:=⟨h.t.trans k.t,h.m.trans k.m,h.nx.trans k.nx⟩
theorem StEq.symm {a b:St} (h:StEq a b):StEq b a:=⟨h.t.symm,h.m.symm,h.nx.symm⟩
theorem opd_congr {t t':Slots} (h:slot t = slot t'):opd t = opd t':=by
 funext x
 cases x <;> simp [opd,h]
theorem stepE_congr {key:Nat} {o:Oper} {t t':Slots} {m:Mem} (h:slot t = slot t'):stepE P G ops key o t m = stepE P G ops key o t' m:=by
 unfold stepE
 rw [opd_congr h,h]
theorem slot_app {o:Oper} {e:Eff} {s:St} {i:Nat} (j:Nat):slot (stApp base i o e s).t j = if o.dst = some j then e.val else slot s.t j:=slot_put _ _ _
theorem keyOf_congr {t t':Slots} (h:slot t = slot t'):keyOf base t = keyOf base t':=by
 funext r
 cases r with
 | made a => rfl
 | call => rfl
 | slot q => simp only [keyOf,h]
theorem hidden_congr {t t':Slots} {k:Nat} (h:keyOf base t = keyOf base t'):∀ (l:List Root),hidden base t k l = hidden base t' k l
 | [] => rfl
 | r :: rest => by simp only [hidden,h,hidden_congr h rest]
theorem restr_congr {i:Nat} {o:Oper} {t t':Slots} {m:Mem} (h:slot t = slot t'):restr hot base i o t m = restr hot base i o t' m:=by
 unfold restr
 congr 1
 funext e
 rw [hidden_congr (keyOf_congr h)]
theorem rootOK_congr {i:Nat} {t t':Slots} {u:Upd} (h:slot t = slot t'):rootOK (some hot) base i t u = rootOK (some hot) base i t' u:=by
 unfold rootOK
 rw [keyOf_congr h]
theorem StEq.app {s s':St} (h:StEq s s') (i:Nat) (o:Oper) (e:Eff):StEq (stApp base i o e s) (stApp base i o e s'):=
 ⟨by funext j; rw [slot_app,slot_app,h.t],by simp [stApp,h.m],h.nx⟩
theorem runL_congr:∀ {L:List (Nat×Oper)} {s s1 s':St},StEq s s1→runL P G hot ops base L s s'→∃ s'',runL P G hot ops base L s1 s''∧StEq s' s''
 | [],s,s1,s',h,hr => by simp only [runL] at hr; subst hr; exact ⟨s1,rfl,h⟩
 | (i,o) :: rest,s,s1,s',h,hr => by
  obtain ⟨e,h1,h0,h2,h3⟩:=hr
  obtain ⟨s'',h4,h5⟩:=runL_congr (h.app i o e) h3
  exact ⟨s'',⟨e,by rw [← stepE_congr h.t,← h.m,← restr_congr h.t]; exact h1,by rw [← rootOK_congr h.t]; exact h0,h2,h4⟩,h5⟩
theorem regP_runL {K:St→Prop}:∀ (rest:List Oper) (i:Nat) (s:St),regP P G (some hot) ops base rest i s K→∃ s',runL P G hot ops base ((List.range' i rest.length).zip rest) s s'∧K s'
 | [],i,s,h => ⟨s,rfl,h⟩
 | o :: rest,i,s,h => by
  simp only [regP,memFor,optK,boolK] at h
  split at h
  ·rename_i e he
   split at h
   ·rename_i hro
    obtain ⟨hob,h⟩:=conj_iff.1 h
    obtain ⟨s',h1,h2⟩:=regP_runL rest (i + 1) _ h
    exact ⟨s',⟨e,he,hro,hob,h1⟩,h2⟩
   ·exact h.elim
  ·exact h.elim
theorem insRow_comm {k k':Nat} {x y:Fam} (hne:k≠k'):∀ (m:Mem),insRow k x (insRow k' y m) = insRow k' y (insRow k x m)
 | [] => by
  simp only [insRow]
  by_cases h:k' < k
  ·have h':¬ k < k':=by omega
   simp [h,h']
  ·have h':k < k':=by omega
   simp [h,h']
 | (q,z) :: rest => by
  simp only [insRow]
  by_cases h1:q < k <;> by_cases h2:q < k'
  ·simp only [h1,h2,if_true,insRow]
   by_cases h:k' < k
   ·have h':¬ k < k':=by omega
    simp [h,h',h2]
   ·have h':k < k':=by omega
    simp [h,h',h1]
  ·have h3:k' < k:=by omega
   have h4:¬ k < k':=by omega
   simp [h1,h2,insRow,h3,h4]
  ·have h3:k < k':=by omega
   have h4:¬ k' < k:=by omega
   simp [h1,h2,insRow,h3,h4]
  ·simp only [h1,h2,if_false,insRow]
   rw [insRow_comm hne rest]
theorem filter_ins {p:Nat×Fam→Bool} {k:Nat} {x:Fam} (h:p (k,x) = false):∀ (m:Mem),(insRow k x m).filter p = m.filter p
 | [] => by simp [insRow,h]
 | (q,z) :: rest => by
  simp only [insRow]
  split
  ·rw [List.filter_cons]; simp [h]
  ·rw [List.filter_cons,List.filter_cons,filter_ins h rest]
theorem filter_set {p:Nat×Fam→Bool} {k:Nat} {x:Fam} (h:∀ y,p (k,y) = false):∀ (m:Mem),(setRow k x m).filter p = m.filter p
 | [] => rfl
 | (q,z) :: rest => by
  simp only [setRow]
  split
  ·rename_i e; subst e
   rw [List.filter_cons,List.filter_cons]; simp [h]
  ·rw [List.filter_cons,List.filter_cons,filter_set h rest]
theorem set_ins {k k':Nat} {x y:Fam} (hne:k≠k'):∀ (m:Mem),setRow k x (insRow k' y m) = insRow k' y (setRow k x m)
 | [] => by
  have h':¬ k' = k:=fun h => hne h.symm
  simp [insRow,setRow,h']
 | (q,z) :: rest => by
  have h':¬ k' = k:=fun h => hne h.symm
  have ih:=set_ins hne (x:=x) (y:=y) rest
  by_cases h:q < k' <;> by_cases e:q = k
  ·subst e; simp [insRow,setRow,h,h']
  ·simp [insRow,setRow,h,e,h']
  ·subst e; simp [insRow,setRow,h,h']
  ·simp [insRow,setRow,h,e,h',ih]
theorem set_set {k k':Nat} {x y:Fam} (hne:k≠k'):∀ (m:Mem),setRow k x (setRow k' y m) = setRow k' y (setRow k x m)
 | [] => rfl
 | (q,z) :: rest => by
  have h':¬ k' = k:=fun h => hne h.symm
  by_cases e:q = k <;> by_cases e':q = k'
  ·exact absurd (e.symm.trans e') hne
  ·subst e; simp [setRow,e']
  ·subst e'; simp [setRow,e]
  ·simp only [setRow,e,e',if_false]
   rw [set_set hne rest]
def Upd.tgt:Upd→Option Nat
 | .set r _ => some r
 | .swap r _ => some r
 | _ => Option.none
theorem app_comm {u v:Upd} {k k':Nat} (hmu:∀ s n,u≠.many s n) (hmv:∀ s n,v≠.many s n) (hk:k≠k') (h1:∀ r,u.tgt = some r→r≠k') (h2:∀ r,v.tgt = some r→r≠k) (h3:∀ r r',u.tgt = some r→v.tgt = some r'→r≠r') (m:Mem):v.app k' (u.app k m) = u.app k (v.app k' m):=by
 cases u with
 | many s n => exact absurd rfl (hmu s n)
 | none => rfl
 | new x => cases v with
  | many s n => exact absurd rfl (hmv s n)
  | none => rfl
  | new y => exact insRow_comm (Ne.symm hk) _
  | set r y => exact set_ins (h2 r rfl) _
  | swap r y =>
   show insRow k' y (setRow r dead (insRow k x m)) = insRow k x (insRow k' y (setRow r dead m))
   rw [set_ins (h2 r rfl),insRow_comm (Ne.symm hk)]
 | set r x => cases v with
  | many s n => exact absurd rfl (hmv s n)
  | none => rfl
  | new y => exact (set_ins (h1 r rfl) _).symm
  | set r' y => exact set_set (Ne.symm (h3 r r' rfl rfl)) _
  | swap r' y =>
   show insRow k' y (setRow r' dead (setRow r x m)) = setRow r x (insRow k' y (setRow r' dead m))
   rw [set_ins (h1 r rfl),set_set (h3 r r' rfl rfl)]
 | swap r x => cases v with
  | many s n => exact absurd rfl (hmv s n)
  | none => rfl
  | new y =>
   show insRow k' y (insRow k x (setRow r dead m)) = insRow k x (setRow r dead (insRow k' y m))
   rw [set_ins (h1 r rfl),insRow_comm (Ne.symm hk)]
  | set r' y =>
   show setRow r' y (insRow k x (setRow r dead m)) = insRow k x (setRow r dead (setRow r' y m))
   rw [set_ins (h2 r' rfl),set_set (h3 r r' rfl rfl)]
  | swap r' y =>
   show insRow k' y (setRow r' dead (insRow k x (setRow r dead m))) = insRow k x (setRow r dead (insRow k' y (setRow r' dead m)))
   rw [set_ins (h2 r' rfl),set_ins (h1 r rfl),set_set (h3 r r' rfl rfl),insRow_comm (Ne.symm hk)]
theorem hidden_mem {t:Slots} {k:Nat} {r:Root} (hk:keyOf base t r = some k):∀ {l:List Root},r ∈ l→hidden base t k l = true
 | x :: rest,h => by
  simp only [hidden,Bool.or_eq_true]
  rcases List.mem_cons.1 h with e | h
  ·subst e; left; rw [hk]; simp
  ·exact .inr (hidden_mem hk h)
theorem rootOK_tgt {i:Nat} {t:Slots} {u:Upd} {r:Nat} (hr:rootOK (some hot) base i t u = true) (ht:u.tgt = some r):(match rootOf hot.root i with
   | some x => match keyOf base t x with
    | some q => decide (q = r)
    | none => false
   | none => true) = true:=by
 cases u with
 | none => cases ht
 | new x => cases ht
 | set r' x => cases ht; exact hr
 | swap r' x => cases ht; exact hr
 | many s n => cases ht
theorem restr_app {i j:Nat} {y:Oper} {t:Slots} {u:Upd} {m:Mem} (hu:u = .none∨(∃ x,u = .new x)∨(∃ r,u.tgt = some r)∧rootIn hot i j = true) (hr:rootOK (some hot) base i t u = true) (hi:(y.after.any fun e => e.on == i && Region.binds .any e) = false):restr hot base j y t (u.app (base + i) m) = restr hot base j y t m:=by
 have fnew:∀ (x:Fam) (m:Mem),restr hot base j y t (insRow (base + i) x m) = restr hot base j y t m:=fun x m => by
  unfold restr
  refine filter_ins ?_ m
  have e1:decide (base + i < base) = false:=by simp
  have e2:(y.after.any fun x => decide (base + x.on = base + i) && Region.binds .any x) = false:=by
   rw [← hi]
   congr 1
   funext e
   by_cases h:e.on = i
   ·simp [h]
   ·have:¬ base + e.on = base + i:=by omega
    simp [h]
  simp only [e1,e2,Bool.or_self,Bool.false_and]
 have fset:∀ (r:Nat) (x:Fam) (m:Mem),u.tgt = some r→rootIn hot i j = true→restr hot base j y t (setRow r x m) = restr hot base j y t m:=fun r x m ht h => by
  unfold restr
  refine filter_set (fun z => ?_) m
  unfold rootIn at h
  have hr:=rootOK_tgt hr ht
  split at h
  ·rename_i q hq
   rw [hq] at hr
   dsimp only at hr
   split at hr
   ·rename_i k hk
    have:k = r:=by simpa using hr
    subst this
    rw [hidden_mem hk (by simpa using h)]
    simp
   ·cases hr
  ·cases h
 rcases hu with rfl | ⟨x,rfl⟩ | ⟨⟨r,ht⟩,h⟩
 ·rfl
 ·exact fnew x m
 ·cases u with
  | none => cases ht
  | new x => cases ht
  | set r' x => exact fset r' x m rfl h
  | swap r' x => exact (fnew x _).trans (fset r' dead m rfl h)
  | many s n => cases ht
theorem keyOf_put {d:Option Tmp} {x:AV} {t:Slots} {r:Root} (h:r.off d = true):keyOf base (putSlot d x t) r = keyOf base t r:=by
 cases r with
 | made a => rfl
 | call => rfl
 | slot q =>
  simp only [keyOf,slot_put]
  rw [if_neg]
  simpa [Root.off] using h
theorem hidden_put {d:Option Tmp} {x:AV} {t:Slots} {k:Nat}:∀ {l:List Root},l.all (Root.off d) = true→hidden base (putSlot d x t) k l = hidden base t k l
 | [],_ => rfl
 | r :: rest,h => by
  simp only [List.all_cons,Bool.and_eq_true] at h
  simp only [hidden,keyOf_put h.1,hidden_put h.2]
theorem restr_put {i:Nat} {o:Oper} {d:Option Tmp} {x:AV} {t:Slots} {m:Mem} (h:rootsOff hot i d = true):restr hot base i o (putSlot d x t) m = restr hot base i o t m:=by
 unfold rootsOff at h
 simp only [Bool.and_eq_true] at h
 unfold restr
 congr 1
 funext e
 rw [hidden_put h.1]
theorem rootOK_put {i:Nat} {d:Option Tmp} {x:AV} {t:Slots} {u:Upd} (h:rootsOff hot i d = true):rootOK (some hot) base i (putSlot d x t) u = rootOK (some hot) base i t u:=by
 unfold rootsOff at h
 simp only [Bool.and_eq_true] at h
 unfold rootOK
 have key:∀ r,(match rootOf hot.root i with
   | some y => match keyOf base (putSlot d x t) y with
    | some q => decide (q = r)
    | none => false
   | none => true) = (match rootOf hot.root i with
   | some y => match keyOf base t y with
    | some q => decide (q = r)
    | none => false
   | none => true):=fun r => by
  cases hq:rootOf hot.root i with
  | none => rfl
  | some q =>
   have h2:=h.2
   rw [hq] at h2
   dsimp only at h2 ⊢
   rw [keyOf_put h2]
 cases u with
 | set r y => exact key r
 | swap r y => exact key r
 | _ => rfl
theorem stepE_put {key:Nat} {o:Oper} {d:Option Tmp} {x:AV} {t:Slots} {m:Mem} (hs:∀ cs b,o.op≠.select cs b) (h:∀ k,d = some k→k ∉ o.looksAt ops):stepE P G ops key o (putSlot d x t) m = stepE P G ops key o t m:=by
 have h1:∀ y ∈ o.op.operands,opd (putSlot d x t) y = opd t y:=fun y hy => by
  cases y with
  | tmp j =>
   simp only [opd,slot_put]
   split
   ·rename_i e
    exact absurd (by unfold Oper.looksAt; exact List.mem_append_left _ (List.mem_filterMap.2 ⟨Operand.tmp j,by simpa using hy,rfl⟩)) (h j e)
   ·rfl
  | _ => rfl
 have h2:∀ g,o.guard = some g→guardOf ops (slot (putSlot d x t)) g = guardOf ops (slot t) g:=fun g hg => by
  unfold guardOf
  cases hd:(ops[g.1]?).bind (·.dst) with
  | none => rfl
  | some k =>
   have:slot (putSlot d x t) k = slot t k:=by
    rw [slot_put]
    split
    ·rename_i e
     refine absurd ?_ (h k e)
     unfold Oper.looksAt
     obtain ⟨g1,g2⟩:=g
     refine List.mem_append_right _ ?_
     simp only [hg]
     dsimp only at hd
     rw [hd]
     simp
    ·rfl
   simp only [this]
 have h3:owed o (opd (putSlot d x t)) = owed o (opd t):=by
  unfold owed
  rw [List.map_congr_left fun y hy => h1 y (by simpa using hy)]
 unfold stepE
 cases hg:o.guard with
 | none => simp only [aStep_congr (g:=none) hs h1,h3]
 | some g =>
  simp only [h2 g hg,h3]
  cases guardOf ops (slot t) g with
  | none => rfl
  | some b => simp only [aStep_congr (g:=some b) hs h1]
theorem stepE_free {key:Nat} {o:Oper} {t:Slots} {m:Mem} {e:Eff} (hk:opKind o.op = 0) (h:stepE P G ops key o t m = some e):e.u = .none∧∀ key' m',stepE P G ops key' o t m' = some e:=by
 unfold stepE at h ⊢
 split at h
 ·split at h
  ·rename_i e0 h0
   cases h
   obtain ⟨h1,h2⟩:=aStep_free hk h0
   exact ⟨h1,fun key' m' => by simp only [h2]⟩
  ·cases h
 ·split at h
  ·split at h
   ·rename_i e0 h0
    obtain ⟨h1,h2⟩:=aStep_free hk h0
    split at h
    ·rename_i hm
     cases h
     exact ⟨h1,fun key' m' => by simp only [h2,hm]⟩
    ·cases h
   ·cases h
  ·cases h
theorem stepE_mild {key:Nat} {o:Oper} {t:Slots} {m:Mem} {e:Eff} (hk:opKind o.op = 1) (h:stepE P G ops key o t m = some e) (hm:∀ s n,e.u≠.many s n):e.u = .none∨∃ x,e.u = .new x:=by
 unfold stepE at h
 split at h
 ·split at h
  ·rename_i e0 h0
   cases h
   exact (aStep_mild hk h0 hm:e0.u = .none∨∃ x,e0.u = .new x)
  ·cases h
 ·split at h
  ·split at h
   ·rename_i e0 h0
    split at h
    ·cases h
     exact (aStep_mild hk h0 hm:e0.u = .none∨∃ x,e0.u = .new x)
    ·cases h
   ·cases h
  ·cases h
theorem stepE_sel {key:Nat} {o:Oper} {t:Slots} {m:Mem} {e:Eff} (h:stepE P G ops key o t m = some e):∀ cs b,o.op≠.select cs b:=by
 intro cs b hc
 have key':∀ g,aStep P G key g o (opd t) m = none:=fun g => by
  unfold aStep
  rw [hc]
  dsimp only [isExt]
  unfold aop
  rw [hc]
  dsimp only
  unfold effOf aPure execOp
  rw [hc]
  dsimp only
  have:∀ (s:Sem (Array CommCase)) v,pureRun P (s.bind fun x => .pure (Next.comm x b .select))≠some (.value v):=by
   intro s
   induction s with
   | pure d => intro v hv; simp [pureRun,Sem.bind] at hv
   | program k ih => intro v hv; exact ih P v hv
   | _ => intro v hv; simp [pureRun,Sem.bind] at hv
  split
  ·rename_i x hx
   exfalso
   split at hx
   ·split at hx
    ·rename_i v hv
     exact this _ v hv
    ·cases hx
   ·cases hx
  ·rfl
 unfold stepE at h
 split at h
 ·simp [key'] at h
 ·split at h
  ·simp [key'] at h
  ·cases h
theorem aStep_kind {key:Nat} {g:Option Bool} {o:Oper} {ρ0:Operand→AV} {m:Mem} {e:Eff} (hk:opKind o.op = 2) (h:aStep P G key g o ρ0 m = some e):∃ r x y,e.u = .set r x∧look m r = some y:=by
 unfold aStep at h
 split at h
 ·rename_i f args ats ho; rw [ho] at hk; simp [opKind] at hk
 ·rename_i r name args ats ho; rw [ho] at hk; simp [opKind] at hk
 ·split at h
  ·exfalso
   unfold aExt at h
   split at h
   ·rename_i ho; rw [ho] at hk; simp [opKind] at hk
   ·rename_i ho; rw [ho] at hk; simp [opKind] at hk
   ·rename_i ho; rw [ho] at hk; simp [opKind] at hk
   ·cases h
  unfold aop at h
  dsimp only at h
  obtain ⟨dst,op,type,pos,after,guard⟩:=o
  dsimp only at h hk
  cases op <;> (try (simp [opKind] at hk; done))
  case store =>
   dsimp only at h
   unfold aStore at h
   (repeat' split at h) <;> first | (cases h; done) | (cases h; exact ⟨_,_,_,rfl,by assumption⟩)
  all_goals
   exfalso
   clear h
   revert hk
   unfold opKind
   split <;> first | (simp; done) | (rename_i e; cases e)
theorem stepE_kind {key:Nat} {o:Oper} {t:Slots} {m:Mem} {e:Eff} (hk:opKind o.op = 2) (h:stepE P G ops key o t m = some e):∃ r x y,e.u = .set r x∧look m r = some y:=by
 unfold stepE at h
 split at h
 ·split at h
  ·rename_i e0 h0
   cases h
   obtain ⟨r,x,y,h1,h2⟩:=aStep_kind hk h0
   exact ⟨r,x,y,h1,h2⟩
  ·cases h
 ·split at h
  ·split at h
   ·rename_i e0 h0
    obtain ⟨r,x,y,h1,h2⟩:=aStep_kind hk h0
    split at h
    ·rename_i hm
     rw [h1] at hm
     simp [Upd.mild] at hm
    ·cases h
   ·cases h
  ·cases h
theorem aExt_append {key:Nat} {g:Option Bool} {o:Oper} {ρ0:Operand→AV} {m:Mem} {e:Eff} (hk:opKind o.op = 3) (h:aExt P key g o ρ0 m = some e):(∃ x,e.u = .new x)∨∃ r x y,e.u = .swap r x∧look m r = some y:=by
 unfold aExt at h
 split at h
 ·rename_i ho; rw [ho] at hk; simp [opKind] at hk
 ·rename_i ho; rw [ho] at hk; simp [opKind] at hk
 ·split at h
  ·split at h
   ·unfold aAppend at h
    (repeat' split at h) <;> first | (cases h; done) | (cases h; exact .inl ⟨_,rfl⟩) | (cases h; exact .inr ⟨_,_,_,rfl,by assumption⟩)
   ·cases h
  ·cases h
 ·cases h
theorem kind3_ext {op:Op} (hk:opKind op = 3):isExt op = true:=by
 unfold opKind at hk
 split at hk <;> first | (simp at hk; done) | rfl
theorem aStep_kind3 {key:Nat} {g:Option Bool} {o:Oper} {ρ0:Operand→AV} {m:Mem} {e:Eff} (hk:opKind o.op = 3) (h:aStep P G key g o ρ0 m = some e):(∃ x,e.u = .new x)∨∃ r x y,e.u = .swap r x∧look m r = some y:=by
 unfold aStep at h
 split at h
 ·rename_i f args ats ho; rw [ho] at hk; simp [opKind] at hk
 ·rename_i r name args ats ho; rw [ho] at hk; simp [opKind] at hk
 ·rw [kind3_ext hk] at h
  exact aExt_append hk h
theorem stepE_kind3 {key:Nat} {o:Oper} {t:Slots} {m:Mem} {e:Eff} (hk:opKind o.op = 3) (h:stepE P G ops key o t m = some e):(∃ x,e.u = .new x)∨∃ r x y,e.u = .swap r x∧look m r = some y:=by
 unfold stepE at h
 split at h
 ·split at h
  ·rename_i e0 h0
   cases h
   exact (aStep_kind3 hk h0:(∃ x,e0.u = .new x)∨∃ r x y,e0.u = .swap r x∧look m r = some y)
  ·cases h
 ·split at h
  ·split at h
   ·rename_i e0 h0
    split at h
    ·cases h
     exact (aStep_kind3 hk h0:(∃ x,e0.u = .new x)∨∃ r x y,e0.u = .swap r x∧look m r = some y)
    ·cases h
   ·cases h
  ·cases h
theorem stepE_tgt {key:Nat} {o:Oper} {t:Slots} {m:Mem} {e:Eff} (hk:opKind o.op = 1∨opKind o.op = 2∨opKind o.op = 3) (h:stepE P G ops key o t m = some e) (hm:∀ s n,e.u≠.many s n):(e.u = .none∨(∃ x,e.u = .new x))∨((opKind o.op = 2∨opKind o.op = 3)∧∃ r y,e.u.tgt = some r∧look m r = some y):=by
 rcases hk with hk | hk | hk
 ·exact .inl (stepE_mild hk h hm)
 ·obtain ⟨r,x,y,h1,h2⟩:=stepE_kind hk h
  exact .inr ⟨.inl hk,r,y,by rw [h1]; rfl,h2⟩
 ·rcases stepE_kind3 hk h with h1 | ⟨r,x,y,h1,h2⟩
  ·exact .inl (.inr h1)
  ·exact .inr ⟨.inr hk,r,y,by rw [h1]; rfl,h2⟩
theorem look_filterK {p:Nat×Fam→Bool} {q:Nat→Bool} (hp:∀ r x,p (r,x) = q r) {r:Nat} {y:Fam}:∀ {m:Mem},look (m.filter p) r = some y→q r = true
 | [],h => by simp [look] at h
 | (k,z) :: rest,h => by
  rw [List.filter_cons] at h
  split at h
  ·rename_i hk
   simp only [look] at h
   split at h
   ·rename_i e; subst e; rw [← hp k z]; exact hk
   ·exact look_filterK hp h
  ·exact look_filterK hp h
theorem look_restr1 {i:Nat} {o:Oper} {t:Slots} {m:Mem} {r:Nat} {y:Fam} (h:look (restr hot base i o t m) r = some y):(r < base∨∃ e ∈ o.after,base + e.on = r∧Region.binds .any e = true)∧hidden base t r (hideOf hot.hide i) = false:=by
 have:=look_filterK (q:=fun k => (decide (k < base) || o.after.any fun x => decide (base + x.on = k) && Region.binds .any x) && !hidden base t k (hideOf hot.hide i)) (fun _ _ => rfl) h
 simp only [Bool.and_eq_true,Bool.or_eq_true,decide_eq_true_eq,Bool.not_eq_true'] at this
 refine ⟨this.1.imp id fun h => ?_,this.2⟩
 rw [Array.any_eq_true'] at h
 obtain ⟨e,he,h⟩:=h
 exact ⟨e,he,by simpa using h⟩
theorem notCall {i:Nat} {op:Op} {t:Slots} {u:Upd} (h:kindAt hot i op = 1∨(kindAt hot i op = 2∨kindAt hot i op = 3)) (hr:rootOK (some hot) base i t u = true):opKind op = kindAt hot i op∧∀ sets n,u≠.many sets n:=by
 have hca:callAt hot i = false:=by
  cases hcc:callAt hot i with
  | false => rfl
  | true => unfold kindAt at h; rw [if_pos hcc] at h; omega
 refine ⟨by unfold kindAt; rw [hca]; simp,fun sets n e => ?_⟩
 subst e
 unfold rootOK at hr
 dsimp only at hr
 rw [hca] at hr
 cases hr
theorem swap {i j:Nat} {x y:Oper} {L:List (Nat×Oper)} {s s':St} (hij:i≠j) (hc:comm hot ops i j x y = true) (h:runL P G hot ops base ((i,x) :: (j,y) :: L) s s'):∃ s'',runL P G hot ops base ((j,y) :: (i,x) :: L) s s''∧StEq s' s'':=by
 obtain ⟨ex,hx,hxr,hxo,ey,hy,hyr,hyo,hL⟩:=h
 unfold comm at hc
 simp only [Bool.and_eq_true,Bool.not_eq_true'] at hc
 obtain ⟨⟨⟨⟨⟨hap,hk⟩,ha1⟩,ha2⟩,ho1⟩,ho2⟩:=hc
 obtain ⟨p1,p2,p3⟩:=Oper.apart_spec hap
 have et:(stApp base i x ex s).t = putSlot x.dst ex.val s.t:=rfl
 have em:(stApp base i x ex s).m = ex.u.app (base + i) s.m:=rfl
 rw [et,em,restr_put ho2,stepE_put (stepE_sel hy) p1] at hy
 rw [et,rootOK_put ho2] at hyr
 have tgt_of:∀ {u:Upd},(u = .none∨∃ x,u = .new x)→u.tgt = none:=fun h => by
  rcases h with h | ⟨x,h⟩ <;> (rw [h]; rfl)
 have kinds:((((∀ r,ex.u.tgt = some r→r≠base + j)∧(∀ r,ey.u.tgt = some r→r≠base + i)∧(∀ r r',ex.u.tgt = some r→ey.u.tgt = some r'→r≠r'))∧(∀ s n,ex.u≠.many s n)∧(∀ s n,ey.u≠.many s n))∨ex.u = .none∨ey.u = .none) ∧
   stepE P G ops (base + j) y s.t (restr hot base j y s.t s.m) = some ey∧stepE P G ops (base + i) x s.t (restr hot base i x s.t (ey.u.app (base + j) s.m)) = some ex:=by
  simp only [Bool.or_eq_true,Bool.and_eq_true,beq_iff_eq] at hk
  rcases hk with (hk | hk) | ⟨hk1,hk2⟩
  ·obtain ⟨f1,f2⟩:=stepE_free hk hx
   refine ⟨.inr (.inl f1),?_,f2 _ _⟩
   rw [f1] at hy; exact hy
  ·obtain ⟨f1,f2⟩:=stepE_free hk hy
   refine ⟨.inr (.inr f1),f2 _ _,?_⟩
   rw [f1]; exact hx
  ·obtain ⟨kx,mx⟩:=notCall (hk1.imp id And.left) hxr
   obtain ⟨ky,my⟩:=notCall (hk2.imp id And.left) hyr
   rw [← kx] at hk1
   rw [← ky] at hk2
   have rt1:opKind x.op = 2∨opKind x.op = 3→rootIn hot i j = true:=fun h => by
    rcases hk1 with h1 | h1
    ·omega
    ·exact h1.2
   have rt2:opKind y.op = 2∨opKind y.op = 3→rootIn hot j i = true:=fun h => by
    rcases hk2 with h1 | h1
    ·omega
    ·exact h1.2
   have t1:=stepE_tgt (hk1.imp id And.left) hx mx
   have t2:=stepE_tgt (hk2.imp id And.left) hy my
   rw [restr_app (t1.elim (fun h => h.imp id .inl) fun h => .inr (.inr ⟨h.2.imp fun r h => h.elim fun _ h => h.1,rt1 h.1⟩)) hxr ha1] at hy
   have t2:=stepE_tgt (hk2.imp id And.left) hy my
   refine ⟨.inl ⟨?_,mx,my⟩,hy,by rw [restr_app (t2.elim (fun h => h.imp id .inl) fun h => .inr (.inr ⟨h.2.imp fun r h => h.elim fun _ h => h.1,rt2 h.1⟩)) hyr ha2]; exact hx⟩
   have notnew:∀ {i j:Nat} {x:Oper} {r:Nat} {y:Fam},look (restr hot base i x s.t s.m) r = some y→(x.after.any fun e => e.on == j && Region.binds .any e) = false→r≠base + j:=by
    intro i j x r y h4 ha e
    subst e
    rcases (look_restr1 h4).1 with h5 | ⟨e,h5,h6,h7⟩
    ·omega
    ·have:e.on = j:=by omega
     have hh:(x.after.any fun e => e.on == j && Region.binds .any e) = true:=by
      rw [Array.any_eq_true']
      exact ⟨e,h5,by simp [this,h7]⟩
     rw [hh] at ha
     cases ha
   refine ⟨fun r hr => ?_,fun r hr => ?_,fun r r' hr hr' e => ?_⟩
   ·rcases t1 with t1 | ⟨_,q,z,h1,h2⟩
    ·rw [tgt_of t1] at hr; cases hr
    ·rw [h1] at hr; cases hr
     exact notnew h2 ha2
   ·rcases t2 with t2 | ⟨_,q,z,h1,h2⟩
    ·rw [tgt_of t2] at hr; cases hr
    ·rw [h1] at hr; cases hr
     exact notnew h2 ha1
   ·subst e
    rcases t1 with t1 | ⟨kx,q,z,h1,h2⟩
    ·rw [tgt_of t1] at hr; cases hr
    ·rcases t2 with t2 | ⟨ky,q',z',h1',h2'⟩
     ·rw [tgt_of t2] at hr'; cases hr'
     ·rw [h1] at hr; cases hr
      rw [h1'] at hr'; cases hr'
      have hh:=(look_restr1 h2').2
      have i1:=rt1 kx
      unfold rootIn at i1
      have hxr':=rootOK_tgt hxr h1
      split at i1
      ·rename_i q2 hq
       rw [hq] at hxr'
       dsimp only at hxr'
       split at hxr'
       ·rename_i k hk
        have:k = r:=by simpa using hxr'
        subst this
        rw [hidden_mem hk (by simpa using i1)] at hh
        cases hh
       ·cases hxr'
      ·cases i1
 obtain ⟨hu,hyS,hxS⟩:=kinds
 have hxS':stepE P G ops (base + i) x (stApp base j y ey s).t (restr hot base i x (stApp base j y ey s).t (stApp base j y ey s).m) = some ex:=by
  rw [show (stApp base j y ey s).t = putSlot y.dst ey.val s.t from rfl,stepE_put (stepE_sel hx) p3,restr_put ho1]
  exact hxS
 have hxr':rootOK (some hot) base i (stApp base j y ey s).t ex.u = true:=by
  rw [show (stApp base j y ey s).t = putSlot y.dst ey.val s.t from rfl,rootOK_put ho1]
  exact hxr
 have heq:StEq (stApp base j y ey (stApp base i x ex s)) (stApp base i x ex (stApp base j y ey s)):=by
  refine ⟨?_,?_,rfl⟩
  ·funext k
   simp only [slot_app]
   by_cases e1:y.dst = some k
   ·have:¬ x.dst = some k:=fun e => p2 k e e1
    simp [e1,this]
   ·simp [e1]
  ·show ey.u.app (base + j) (ex.u.app (base + i) s.m) = ex.u.app (base + i) (ey.u.app (base + j) s.m)
   rcases hu with ⟨⟨h1,h2,h3⟩,m1,m2⟩ | h | h
   ·exact app_comm m1 m2 (by omega) h1 h2 h3 _
   ·rw [h]; rfl
   ·rw [h]; rfl
 obtain ⟨s'',h1,h2⟩:=runL_congr heq hL
 exact ⟨s'',⟨ey,hyS,hyr,hyo,ex,hxS',hxr',hxo,h1⟩,h2⟩
theorem bubble {i:Nat} {x:Oper} {L2:List (Nat×Oper)}:∀ {L1:List (Nat×Oper)} {s s':St},(∀ q ∈ L1,q.1≠i∧comm hot ops q.1 i q.2 x = true)→runL P G hot ops base (L1 ++ (i,x) :: L2) s s'→∃ s'',runL P G hot ops base ((i,x) :: (L1 ++ L2)) s s''∧StEq s' s''
 | [],s,s',_,h => ⟨s',h,.refl _⟩
 | (j,y) :: L1,s,s',hc,h => by
  obtain ⟨e,h1,h0,h2,h3⟩:=h
  obtain ⟨s1,h4,h5⟩:=bubble (fun q hq => hc q (by simp [hq])) h3
  obtain ⟨c1,c2⟩:=hc (j,y) (by simp)
  obtain ⟨s2,h6,h7⟩:=swap (L:=L1 ++ L2) c1 c2 (s:=s) (s':=s1) ⟨e,h1,h0,h2,h4⟩
  exact ⟨s2,h6,h5.trans h7⟩
end
section
variable {P:Program} {G:Ctx} {ops:Array Oper} {base:Nat} {hot:Hot} {w0:Base} {w:World} {ρ:Env} {m:Mem} {D:Nat→Prop} {t:Slots} {nt:Nat} {ds:Frm} {a:Act} {ro:Option Nat} {n:Nat} {Q:Exit→Act→World→Prop}
theorem look_filter {p:Nat×Fam→Bool}:∀ {m:Mem},(∀ r x y,p (r,x) = p (r,y))→∀ r x,look (m.filter p) r = some x→look m r = some x
 | [],_,r,x,h => by simp [look] at h
 | (k,y) :: rest,hp,r,x,h => by
  rw [List.filter_cons] at h
  split at h
  ·simp only [look] at h ⊢
   split at h
   ·rename_i e; simp only [e,if_true]; exact h
   ·rename_i e; simp only [e]; exact look_filter hp r x h
  ·rename_i hf
   have h':=look_filter hp r x h
   simp only [look]
   split
   ·rename_i e
    exfalso
    subst e
    have:∀ {m:Mem},look (m.filter p) k≠none→∃ z,p (k,z) = true:=by
     intro m
     induction m with
     | nil => intro h; simp [look] at h
     | cons q m ih =>
      obtain ⟨k',z⟩:=q
      intro h
      rw [List.filter_cons] at h
      split at h
      ·rename_i hz
       simp only [look] at h
       split at h
       ·rename_i e; subst e; exact ⟨z,hz⟩
       ·exact ih h
      ·exact ih h
    obtain ⟨z,hz⟩:=this (m:=rest) (by rw [h]; simp)
    exact hf (by rw [hp k y z]; exact hz)
   ·exact h'
theorem look_restr {i:Nat} {o:Oper} {r:Nat} {x:Fam} (h:look (restr hot base i o t m) r = some x):look m r = some x:=
 look_filter (fun _ _ _ => rfl) r x h
theorem SR.congr (h:SR w0 ρ t m D nt ds a w) {t':Slots} (ht:slot t = slot t'):SR w0 ρ t' m D nt ds a w:=
 ⟨h.rel,fun j => by rw [← ht]; exact h.slots j,h.size,h.defers,h.frame⟩
theorem regP_mono {K K':St→Prop} {ho:Option Hot} (hK:∀ s,K s→K' s):∀ {rest:List Oper} {i:Nat} {s:St},regP P G ho ops base rest i s K→regP P G ho ops base rest i s K'
 | [],i,s,h => by simp only [regP] at h ⊢; exact hK _ h
 | o :: rest,i,s,h => by
  simp only [regP,optK,boolK] at h ⊢
  split at h
  ·rename_i e he
   split at h
   ·rename_i hr
    rw [conj_iff] at h ⊢
    exact ⟨h.1,regP_mono hK h.2⟩
   ·exact h.elim
  ·exact h.elim
def listedD (base:Nat) (listed:Array Bool) (r:Nat):Prop:=r < base∨∃ i,r = base + i∧listed.getD i false = true
structure Todo (ops:Array Oper) (listed:Array Bool) (T:List (Nat×Oper)):Prop where
 size:listed.size = ops.size
 mem:∀ q,q ∈ T ↔ ops[q.1]? = some q.2∧listed.getD q.1 true = false
 sorted:T.Pairwise fun p q => p.1 < q.1
 closed:∀ i,listed.getD i false = true→∀ b,((masks ops.toList []).getD i 0).testBit b = true→listed.getD b false = true
theorem drawOK_edge (h:drawOK hot ops = true) {i:Nat} {o:Oper} (ho:ops[i]? = some o):∀ e ∈ o.after,Region.binds .any e = true→e.on < i:=by
 unfold drawOK at h
 rw [List.all_eq_true] at h
 have h1:=h i (by
  rw [List.mem_range]
  rw [Array.getElem?_eq_some_iff] at ho
  exact ho.1)
 simp only [ho,Bool.and_eq_true] at h1
 have h2:=h1.1
 rw [Array.all_eq_true_iff_forall_mem] at h2
 intro e he hb
 have:=h2 e he
 simpa [hb] using this
theorem drawOK_comm (h:drawOK hot ops = true) {i j:Nat} {x y:Oper} (hx:ops[j]? = some x) (hy:ops[i]? = some y) (hji:j < i):((masks ops.toList []).getD i 0).testBit j = true∨comm hot ops j i x y = true:=by
 unfold drawOK at h
 rw [List.all_eq_true] at h
 have h1:=h i (by
  rw [List.mem_range]
  rw [Array.getElem?_eq_some_iff] at hy
  exact hy.1)
 simp only [hy,Bool.and_eq_true] at h1
 have h2:=h1.2
 rw [List.all_eq_true] at h2
 have h3:=h2 j (List.mem_range.2 hji)
 simpa [hx,Bool.or_eq_true] using h3
theorem getD_true_of {listed:Array Bool} {i:Nat} (h:i < listed.size):listed.getD i true = listed.getD i false:=by
 simp [Array.getD_eq_getD_getElem?,Array.getElem?_eq_getElem h]
theorem getD_set {listed:Array Bool} {i j:Nat} {d:Bool} (h:i < listed.size):(listed.setIfInBounds i true).getD j d = if j = i then true else listed.getD j d:=by
 by_cases e:j = i
 ·subst e; simp [Array.getD_eq_getD_getElem?,Array.getElem?_setIfInBounds,h]
 ·simp [Array.getD_eq_getD_getElem?,Array.getElem?_setIfInBounds,Ne.symm e,e]
theorem Todo.ready_first {listed:Array Bool} {i:Nat} {o:Oper} {T:List (Nat×Oper)} (h:Todo ops listed ((i,o) :: T)) (hd:drawOK hot ops = true):i ∈ Region.ready .any ops listed:=by
 obtain ⟨h1,h2⟩:=(h.mem (i,o)).1 (by simp)
 dsimp only at h1 h2
 refine mem_ready.2 ⟨h2,o,h1,fun e he hb => ?_⟩
 have hlt:=drawOK_edge hd h1 e he hb
 have hi:i < ops.size:=by
  rw [Array.getElem?_eq_some_iff] at h1
  exact h1.1
 have hlt2:e.on < listed.size:=by rw [h.size]; omega
 cases hl:listed.getD e.on false with
 | true => rfl
 | false =>
  exfalso
  have hm:(e.on,ops[e.on]'(by omega)) ∈ (i,o) :: T:=(h.mem _).2 ⟨by simp,by rw [getD_true_of hlt2]; exact hl⟩
  rcases List.mem_cons.1 hm with hm | hm
  ·have:=congrArg Prod.fst hm; dsimp only at this; omega
  ·have:=(List.pairwise_cons.1 h.sorted).1 _ hm
   dsimp only at this
   omega
theorem any_sound (hG:CtxOK P G) (hd:drawOK hot ops = true) (hfit:∀ o ∈ ops.toList,∀ k,o.dst = some k→k < nt∧ds.W k) :
  ∀ (fuel:Nat) (T:List (Nat×Oper)) (listed:Array Bool) (s s':St) (ρ:Env) (a:Act) (w:World),
   Todo ops listed T→T.length≤fuel→runL P G hot ops base T s s'→SR w0 ρ s.t s.m (listedD base listed) nt ds a w →
   (∀ ρ' a' w',ρ.le ρ'→SR w0 ρ' s'.t s'.m (· < base + ops.size) nt ds a' w'→Q .normal a' w') →
   wpAnyIn (Fw ro) n P .any ops Q fuel listed a w:=by
 intro fuel
 have fin:∀ (listed:Array Bool) (s s':St) (ρ:Env) (a:Act) (w:World),Todo ops listed []→runL P G hot ops base [] s s'→SR w0 ρ s.t s.m (listedD base listed) nt ds a w→(∀ ρ' a' w',ρ.le ρ'→SR w0 ρ' s'.t s'.m (· < base + ops.size) nt ds a' w'→Q .normal a' w')→Q .normal a w:=by
  intro listed s s' ρ a w hT hr hs hK
  simp only [runL] at hr
  subst hr
  refine hK ρ a w (.refl _) (hs.weaken fun r hr => ?_)
  rcases hr with hr | ⟨i,rfl,hr⟩
  ·omega
  ·rcases Nat.lt_or_ge i listed.size with h | h
   ·rw [hT.size] at h; omega
   ·simp [Array.getD_eq_getD_getElem?,Array.getElem?_eq_none h] at hr
 have noready:∀ listed,Todo ops listed []→Region.ready .any ops listed = []:=by
  intro listed hT
  refine List.eq_nil_iff_forall_not_mem.2 fun j hj => ?_
  obtain ⟨h1,o,h2,_⟩:=mem_ready.1 hj
  have:=(hT.mem (j,o)).2 ⟨h2,h1⟩
  simp at this
 induction fuel with
 | zero =>
  intro T listed s s' ρ a w hT hl hr hs hK
  cases T with
  | nil => exact ⟨noready listed hT,fin listed s s' ρ a w hT hr hs hK⟩
  | cons q T => simp at hl
 | succ fuel ih =>
  intro T listed s s' ρ a w hT hl hr hs hK
  refine ⟨fun h0 => ?_,fun i hi => ?_⟩
  ·cases T with
   | nil => exact fin listed s s' ρ a w hT hr hs hK
   | cons q T =>
    have:=hT.ready_first hd
    rw [h0] at this
    simp at this
  ·obtain ⟨hu,o,ho,hall⟩:=mem_ready.1 hi
   have hsz:i < ops.size:=by
    have h1:=ho
    rw [Array.getElem?_eq_some_iff] at h1
    exact h1.1
   have hli:i < listed.size:=by rw [hT.size]; exact hsz
   have hm:(i,o) ∈ T:=(hT.mem _).2 ⟨ho,hu⟩
   obtain ⟨L1,L2,rfl⟩:=List.append_of_mem hm
   have hs1:=List.pairwise_append.1 hT.sorted
   have hcm:∀ q ∈ L1,q.1≠i∧comm hot ops q.1 i q.2 o = true:=fun q hq => by
    have hlt:=hs1.2.2 q hq (i,o) (by simp)
    dsimp only at hlt
    obtain ⟨q1,q2⟩:=(hT.mem q).1 (List.mem_append_left _ hq)
    refine ⟨by omega,?_⟩
    rcases drawOK_comm hd q1 ho hlt with hb | hc
    ·exfalso
     have hql:q.1 < listed.size:=by omega
     rw [getD_true_of hql] at q2
     obtain ⟨e,he,hbi,h3⟩:=mask_bit ho hb
     have hel:=hall e he hbi
     rcases h3 with h3 | h3
     ·rw [← h3,hel] at q2; cases q2
     ·rw [hT.closed _ hel _ h3] at q2; cases q2
    ·exact hc
   obtain ⟨s1,⟨e,he,hro,hob,hrest⟩,heq⟩:=bubble hcm hr
   have key:wpOpIn (Fw ro) n P ops Q i (wpAnyIn (Fw ro) n P .any ops Q fuel (listed.setIfInBounds i true)) a w:=by
    unfold wpOpIn
    rw [ho]
    refine stepE_sound hG hs (key:=base + i) ?_ (fun r x hx => look_restr hx) he hob (hfit _ (by
     rw [Array.getElem?_eq_some_iff] at ho
     obtain ⟨h1,rfl⟩:=ho
     simp)) fun ρ' v w' hle hs' => ?_
    ·rintro (h | ⟨j,hj,h⟩)
     ·omega
     ·have:j = i:=by omega
      subst this
      rw [getD_true_of hli,h] at hu
      cases hu
    ·refine ih (L1 ++ L2) _ (stApp base i o e s) s1 ρ' _ w' ⟨by simpa using hT.size,fun q => ?_,?_,?_⟩ (by simp at hl ⊢; omega) hrest (hs'.weaken fun r hr => ?_) fun ρ'' a' w'' kle hq => hK ρ'' a' w'' (hle.trans kle) (heq.m ▸ hq.congr heq.t.symm)
     ·rw [getD_set hli]
      have h0:=hT.mem q
      simp only [List.mem_append,List.mem_cons] at h0 ⊢
      constructor
      ·intro hq
       have hne:q.1≠i:=by
        rcases hq with hq | hq
        ·have:=hs1.2.2 q hq (i,o) (by simp); dsimp only at this; omega
        ·have:=(List.pairwise_cons.1 hs1.2.1).1 q hq; dsimp only at this; omega
       rw [if_neg hne]
       exact h0.1 (hq.imp id .inr)
      ·rintro ⟨q1,q2⟩
       split at q2
       ·cases q2
       ·rename_i hne
        rcases h0.2 ⟨q1,q2⟩ with h | h | h
        ·exact .inl h
        ·subst h; exact absurd rfl hne
        ·exact .inr h
     ·refine List.pairwise_append.2 ⟨hs1.1,(List.pairwise_cons.1 hs1.2.1).2,fun x hx y hy => hs1.2.2 x hx y (by simp [hy])⟩
     ·intro j hj b hb
      rw [getD_set hli] at hj ⊢
      split
      ·rfl
      ·split at hj
       ·rename_i e; subst e
        obtain ⟨e,he,hbi,h3⟩:=mask_bit ho hb
        have hel:=hall e he hbi
        rcases h3 with h3 | h3
        ·rw [← h3]; exact hel
        ·exact hT.closed _ hel _ h3
       ·exact hT.closed _ hj _ hb
     ·rcases hr with (hr | ⟨j,hj,hr⟩) | hr
      ·exact .inl hr
      ·exact .inr ⟨j,hj,by rw [getD_set hli]; split <;> first | rfl | exact hr⟩
      ·exact .inr ⟨i,hr,by rw [getD_set hli]; simp⟩
   exact key
theorem Rel.draw (h:Rel w0 ρ m D w):Rel w0 ρ m D { w with drawn:=w.drawn + 1 }:=by
 refine ⟨⟨h.below.os,h.below.tape,h.below.output,h.below.size,h.below.block⟩,h.imm2,h.dom,h.key,fun r x f h1 h2 => ?_,h.sep,h.fix,h.kept⟩
 obtain ⟨h3,h4⟩:=h.row r x f h1 h2
 exact ⟨h3,h4.mono h3 (.refl _) (fun _ _ h => h) (fun _ _ => rfl) fun _ => rfl⟩
theorem SR.draw (h:SR w0 ρ t m D nt ds a w):SR w0 ρ t m D nt ds a { w with drawn:=w.drawn + 1 }:=
 ⟨h.rel.draw,fun j => (h.slots j).mono (.refl _) fun _ _ => rfl,h.size,h.defers,h.frame⟩
theorem range_zip (l:Array Oper) (q:Nat×Oper):q ∈ (List.range' 0 l.size).zip l.toList ↔ l[q.1]? = some q.2:=by
 rw [List.mem_iff_getElem?]
 constructor
 ·rintro ⟨i,hi⟩
  rw [List.getElem?_zip_eq_some] at hi
  obtain ⟨h1,h2⟩:=hi
  have hlt:i < l.size:=by
   have:=(List.getElem?_eq_some_iff.1 h2).1
   simpa using this
  rw [List.getElem?_range' hlt] at h1
  simp at h1
  subst h1
  simpa using h2
 ·intro h
  refine ⟨q.1,?_⟩
  rw [List.getElem?_zip_eq_some]
  have hlt:q.1 < l.size:=(Array.getElem?_eq_some_iff.1 h).1
  refine ⟨?_,by simpa using h⟩
  rw [List.getElem?_range' hlt]
  simp
theorem region_sound (hG:CtxOK P G) (hm:P.follows .mixedOrders = true) {draw:Bool} {id:Nat} {H:Hots} (hd:draw = false∨drawOK (hotAt H id) ops = true) (hfit:∀ o ∈ ops.toList,∀ k,o.dst = some k→k < nt∧ds.W k) {K:St→Prop} {s:St}
  (h:regP P G (hotOf H id draw) ops base ops.toList 0 s K) (hs:SR w0 ρ s.t s.m (· < base) nt ds a w)
  (hK:∀ s' ρ' a' w',K s'→ρ.le ρ'→SR w0 ρ' s'.t s'.m (· < base + ops.size) nt ds a' w'→Q .normal a' w') :
  (Code.region id ops draw).wpIn (Fw ro) n P Q a w:=by
 cases draw with
 | false =>
  refine wpIn_region ?_
  have:=regP_text (ro:=ro) (n:=n) (Q:=Q) hG ops.toList 0 s ρ a w h (fun j => by simp) hfit (by simpa using hs) (fun s' ρ' a' w' k1 _ kle k3 => hK s' ρ' a' w' k1 kle (k3.weaken fun r hr => by simp at hr ⊢; omega))
  rw [List.range_eq_range']
  simpa using this
 | true =>
  have hd:=hd.resolve_left (by simp)
  obtain ⟨s',h1,h2⟩:=regP_runL _ _ _ h
  refine wpIn_region_any hm ?_
  simp only [Array.length_toList] at h1
  refine any_sound hG hd hfit ops.size _ _ s s' ρ a _ ⟨by simp,fun q => ?_,?_,?_⟩ (by simp) h1 (hs.draw.weaken fun r hr => .inl hr) fun ρ' a' w' kle h => hK s' ρ' a' w' h2 kle h
  ·rw [range_zip]
   constructor
   ·intro h
    refine ⟨h,?_⟩
    have hlt:=(Array.getElem?_eq_some_iff.1 h).1
    simp [Array.getD_eq_getD_getElem?,Array.getElem?_replicate,hlt]
   ·exact fun h => h.1
  ·refine List.Pairwise.of_map (S:=(· < ·)) Prod.fst (fun _ _ h => h) ?_
   rw [List.map_fst_zip (by simp)]
   exact List.pairwise_lt_range'
  ·intro i hi
   simp [Array.getD_eq_getD_getElem?,Array.getElem?_replicate] at hi
   split at hi <;> simp at hi
theorem regP_frame {K:St→Prop} {ho:Option Hot}:∀ {rest:List Oper} {i:Nat} {s:St},regP P G ho ops base rest i s K→regP P G ho ops base rest i s fun s' => K s'∧s'.nx = s.nx∧∀ j,j ∉ writesOps rest→slot s'.t j = slot s.t j
 | [],i,s,h => by simp only [regP] at h ⊢; exact ⟨h,by simp⟩
 | o :: rest,i,s,h => by
  simp only [regP,optK,boolK] at h ⊢
  split at h
  ·rename_i e he
   split at h
   ·rename_i hr
    rw [conj_iff] at h ⊢
    refine ⟨h.1,regP_mono (fun s' hs' => ?_) (regP_frame h.2)⟩
    obtain ⟨h1,h2,h3⟩:=hs'
    refine ⟨h1,h2,fun j hj => ?_⟩
    simp only [writesOps] at hj
    have hj':j ∉ writesOps rest∧o.dst≠some j:=by
     cases hd:o.dst with
     | none => rw [hd] at hj; exact ⟨hj,by simp⟩
     | some d => rw [hd] at hj; simp only [List.mem_cons,not_or] at hj; exact ⟨hj.2,fun e => hj.1 (Option.some.inj e).symm⟩
    rw [h3 j hj'.1]
    dsimp only
    rw [slot_put,if_neg hj'.2]
   ·exact h.elim
  ·exact h.elim
end
section
variable {P:Program} {G:Ctx} {w0:Base} {w:World} {ρ:Env} {m:Mem} {D:Nat→Prop} {t:Slots} {nt:Nat} {ds:Frm} {a:Act} {ro:Option Nat} {n:Nat} {Q:Exit→Act→World→Prop}
def conc:AEx→Exit
 | .normal => .normal
 | .exit j => .exit j
 | .ret => .ret
def codeOK (H:Hots) (nt:Nat):Code→Bool
 | .region id ops draw => fitsOps nt ops.toList && (!draw || drawOK (hotAt H id) ops)
 | .seq a b => codeOK H nt a && codeOK H nt b
 | .cond _ a b => codeOK H nt a && codeOK H nt b
 | .block _ c => codeOK H nt c
 | .loop c => codeOK H nt c
 | .rangeFunc _ ps a b => ps.toList.all (fun p => decide (p < nt)) && codeOK H nt a && codeOK H nt b
 | .scope c => codeOK H nt c
 | _ => true
def setAll (ps:List Nat) (vs:List Value) (T:Array Value):Array Value:=(ps.zip vs).foldl (fun t p => t.setIfInBounds p.1 p.2) T
theorem setAll_size:∀ (ps:List Nat) (vs:List Value) (T:Array Value),(setAll ps vs T).size = T.size
 | [],vs,T => rfl
 | p :: ps,[],T => rfl
 | p :: ps,v :: vs,T => by
  have:=setAll_size ps vs (T.setIfInBounds p v)
  simpa [setAll] using this
theorem slotsOf_R {w:World} {ρ:Env}:∀ (ps:List Nat) (ars:List AV) (vs:List Value) (t:Slots) (T:Array Value),ars.length = ps.length→vs.length = ars.length→(∀ p ∈ ps,p < T.size) →
  (∀ (i:Nat) (a:AV) (x:Value),ars[i]? = some a→vs[i]? = some x→R w ρ a x)→(∀ j,R w ρ (slot t j) (T.getD j undef))→∀ j,R w ρ (slot (slotsOf ps ars t) j) ((setAll ps vs T).getD j undef)
 | [],ars,vs,t,T,h1,h2,hp,h,ht => by
  intro j
  cases ars <;> simpa [slotsOf,setAll] using ht j
 | p :: ps,[],vs,t,T,h1,h2,hp,h,ht => by simp at h1
 | p :: ps,a :: ars,[],t,T,h1,h2,hp,h,ht => by simp at h2
 | p :: ps,a :: ars,v :: vs,t,T,h1,h2,hp,h,ht => by
  have:=slotsOf_R ps ars vs ((p,a) :: t) (T.setIfInBounds p v) (by simpa using h1) (by simpa using h2) (fun q hq => by simpa using hp q (by simp [hq])) (fun i b x hb hx => h (i + 1) b x (by simpa using hb) (by simpa using hx)) (fun j => by
   have hlt:p < T.size:=hp p (by simp)
   simp only [slot]
   by_cases e:p = j
   ·subst e
    simp only [if_true,Array.getD_eq_getD_getElem?,Array.getElem?_setIfInBounds,hlt]
    exact h 0 a v rfl rfl
   ·simp only [if_neg e,Array.getD_eq_getD_getElem?,Array.getElem?_setIfInBounds]
    have:=ht j
    rw [Array.getD_eq_getD_getElem?] at this
    exact this)
  intro j
  simpa [slotsOf,setAll] using this j
theorem setAll_other:∀ (ps:List Nat) (vs:List Value) (T:Array Value) (j:Nat),j ∉ ps→(setAll ps vs T).getD j undef = T.getD j undef
 | [],vs,T,j,h => rfl
 | p :: ps,[],T,j,h => rfl
 | p :: ps,v :: vs,T,j,h => by
  have:=setAll_other ps vs (T.setIfInBounds p v) j (fun hj => h (by simp [hj]))
  have hpj:p≠j:=fun e => h (by simp [e])
  simp only [setAll,List.zip_cons_cons,List.foldl_cons] at this ⊢
  rw [this]
  simp [Array.getD_eq_getD_getElem?,Array.getElem?_setIfInBounds,hpj]
theorem setAll_arr (ps:Array Nat) (vs:Array Value) (T:Array Value):(ps.zip vs).foldl (fun t (p,v) => t.setIfInBounds p v) T = setAll ps.toList vs.toList T:=by
 unfold setAll
 rw [← Array.foldl_toList,Array.toList_zip]
def Env.ren (ρ:Env) (N:Nat) (σ:Names):Env where
 dom r:=r < N∧match asg σ r with
  | some k => ρ.dom k
  | none => True
 blk r f:=match asg σ r with
  | some k => ρ.blk k f
  | none => 0
 cap r f:=match asg σ r with
  | some k => ρ.cap k f
  | none => 0
 imm:=ρ.imm
theorem asg_low {N:Nat}:∀ {σ:Names} {r:Nat},(∀ p ∈ σ,N≤p.1)→r < N→asg σ r = some r
 | [],r,_,_ => rfl
 | (k,x) :: rest,r,h,hr => by
  simp only [asg]
  have hk:=h (k,x) (by simp)
  dsimp only at hk
  rw [if_neg (by omega)]
  exact asg_low (fun p hp => h p (by simp [hp])) hr
theorem R.ren_low {N N':Nat} {σ:Names} (hσ:∀ p ∈ σ,N≤p.1) (hN:N≤N') {x:Value} {ac:AV} (h:R w ρ ac x):∀ (d:Nat),kb d N ac→R w (ρ.ren N' σ) ac x:=by
 have lo:∀ r,r < N→ρ.dom r→(ρ.ren N' σ).dom r:=fun r hr hd => by
  refine ⟨by omega,?_⟩
  rw [asg_low hσ hr]; exact hd
 have bl:∀ r f,r < N→(ρ.ren N' σ).blk r f = ρ.blk r f:=fun r f hr => by simp only [Env.ren,asg_low hσ hr]
 have ca:∀ r f,r < N→(ρ.ren N' σ).cap r f = ρ.cap r f:=fun r f hr => by simp only [Env.ren,asg_low hσ hr]
 induction h with
 | v => exact fun _ _ => .v
 | any => exact fun _ _ => .any
 | agg hl h ih =>
  intro d hk
  cases d with
  | zero => simp [kb] at hk
  | succ d =>
   simp only [kb] at hk
   exact .agg hl fun i b x h1 h2 => ih i b x h1 h2 lo bl ca d (hk b (List.mem_of_getElem? h1))
 | tup hl h ih =>
  intro d hk
  cases d with
  | zero => simp [kb] at hk
  | succ d =>
   simp only [kb] at hk
   exact .tup hl fun i b x h1 h2 => ih i b x h1 h2 lo bl ca d (hk b (List.mem_of_getElem? h1))
 | fn hl h ih =>
  intro d hk
  cases d with
  | zero => simp [kb] at hk
  | succ d =>
   simp only [kb] at hk
   exact .fn hl fun i b x h1 h2 => ih i b x h1 h2 lo bl ca d (hk b (List.mem_of_getElem? h1))
 | iface h ih =>
  intro d hk
  cases d with
  | zero => simp [kb] at hk
  | succ d => simp only [kb] at hk; exact .iface (ih lo bl ca d hk)
 | yes h ih =>
  intro d hk
  cases d with
  | zero => simp [kb] at hk
  | succ d => simp only [kb] at hk; exact .yes (ih lo bl ca d hk)
 | no => exact fun _ _ => .no
 | ro b o hn ha hi hlen hex hr ih =>
  exact fun _ _ => .ro b o hn ha hi hlen hex hr
 | rop b o hi hex hr ih => exact fun _ _ => .rop b o hi hex hr
 | @bx ρ r k hd =>
  intro d hk
  have hk:r < N:=by cases d <;> simpa [kb] using hk
  rw [← bl r 0 hk]
  exact .bx (lo r hk hd)
 | @ptr ρ r f i sz k hd =>
  intro d hk
  have hk:r < N:=by cases d <;> simpa [kb] using hk
  rw [← bl r f hk]
  exact .ptr (lo r hk hd)
 | @own ρ r f nn sz aa hd hn ha =>
  intro d hk
  have hk:r < N:=by cases d <;> simpa [kb] using hk
  rw [← ca r f hk]
  exact .own (lo r hk hd) (by rw [ca r f hk]; exact hn) (by rw [ca r f hk,bl r f hk]; exact ha)
 | @vw ρ r f l nn sz aa cap hd hn ha =>
  intro d hk
  have hk:r < N:=by cases d <;> simpa [kb] using hk
  exact .vw (lo r hk hd) hn (by rw [bl r f hk]; exact ha)
theorem R.low {x:Value} {ac:AV} {N N':Nat} {σ:Names} (hσ:∀ p ∈ σ,N≤p.1) (hN:N≤N') (h:R w ρ ac x) (hd:∀ r,ρ.dom r→r < N) :
  ∀ {w':World} {ρ':Env} {x':Value},R w' ρ' ac x'→R w' (ρ'.ren N' σ) ac x':=by
 have lo:∀ (ρ':Env) r,r < N→ρ'.dom r→(ρ'.ren N' σ).dom r:=fun ρ' r hr hd => by
  refine ⟨by omega,?_⟩
  rw [asg_low hσ hr]; exact hd
 have bl:∀ (ρ':Env) r f,r < N→(ρ'.ren N' σ).blk r f = ρ'.blk r f:=fun ρ' r f hr => by simp only [Env.ren,asg_low hσ hr]
 have ca:∀ (ρ':Env) r f,r < N→(ρ'.ren N' σ).cap r f = ρ'.cap r f:=fun ρ' r f hr => by simp only [Env.ren,asg_low hσ hr]
 induction h with
 | v => intro w' ρ' x' h; cases h; exact .v
 | any => intro w' ρ' x' h; cases h; exact .any
 | @agg ρ cs vs hl h ih =>
  intro w' ρ' x' h'
  cases h' with
  | agg hl' h' =>
   refine .agg hl' fun i b x h1 h2 => ?_
   have hlt:i < vs.length:=by
    have:=(List.getElem?_eq_some_iff.1 h1).1
    omega
   exact ih i b vs[i] h1 (by simp) hd (h' i b x h1 h2)
 | @tup ρ cs vs hl h ih =>
  intro w' ρ' x' h'
  cases h' with
  | tup hl' h' =>
   refine .tup hl' fun i b x h1 h2 => ?_
   have hlt:i < vs.length:=by
    have:=(List.getElem?_eq_some_iff.1 h1).1
    omega
   exact ih i b vs[i] h1 (by simp) hd (h' i b x h1 h2)
 | @fn ρ f cs vs hl h ih =>
  intro w' ρ' x' h'
  cases h' with
  | fn hl' h' =>
   refine .fn hl' fun i b x h1 h2 => ?_
   have hlt:i < vs.length:=by
    have:=(List.getElem?_eq_some_iff.1 h1).1
    omega
   exact ih i b vs[i] h1 (by simp) hd (h' i b x h1 h2)
 | iface h ih => intro w' ρ' x' h'; cases h' with | iface h' => exact .iface (ih hd h')
 | yes h ih => intro w' ρ' x' h'; cases h' with | yes h' => exact .yes (ih hd h')
 | no => intro w' ρ' x' h'; cases h' with | no => exact .no
 | ro b o hn ha hi hlen hex hr ih =>
  intro w' ρ' x' h'
  cases h' with | ro b o hn ha hi hlen hex hr => exact .ro b o hn ha hi hlen hex hr
 | rop b o hi hex hr ih =>
  intro w' ρ' x' h'
  cases h' with | rop b o hi hex hr => exact .rop b o hi hex hr
 | @bx ρ r k hr =>
  intro w' ρ' x' h'
  cases h' with | bx hd' => 
  rw [← bl ρ' r 0 (hd r hr)]
  exact .bx (lo ρ' r (hd r hr) hd')
 | @ptr ρ r f i sz k hr =>
  intro w' ρ' x' h'
  cases h' with | ptr hd' =>
  rw [← bl ρ' r f (hd r hr)]
  exact .ptr (lo ρ' r (hd r hr) hd')
 | @own ρ r f nn sz aa hr hn ha =>
  intro w' ρ' x' h'
  cases h' with | own hd' hn' ha' =>
  have hk:=hd r hr
  rw [← ca ρ' r f hk]
  exact .own (lo ρ' r hk hd') (by rw [ca ρ' r f hk]; exact hn') (by rw [ca ρ' r f hk,bl ρ' r f hk]; exact ha')
 | @vw ρ r f l nn sz aa cap hr hn ha =>
  intro w' ρ' x' h'
  cases h' with | vw hd' hn' ha' =>
  have hk:=hd r hr
  exact .vw (lo ρ' r hk hd') hn' (by rw [bl ρ' r f hk]; exact ha')
theorem fit1_sound {N k:Nat} {σ:Names} (hσ:∀ p ∈ σ,N≤p.1∧p.1 < N + k) {new old:AV} (h:fit1 N (N + k) σ new old) {x:Value} (hR:R w ρ old x):R w (ρ.ren (N + k) σ) new x:=by
 unfold fit1 at h
 split at h
 ·rename_i r f nn sz
  obtain ⟨hlt,h⟩:=h
  split at h
  ·rename_i q hq
   subst h
   have e1:(ρ.ren (N + k) σ).cap r f = ρ.cap q f:=by simp only [Env.ren,hq]
   have e2:(ρ.ren (N + k) σ).blk r f = ρ.blk q f:=by simp only [Env.ren,hq]
   cases hR with
   | own hd hn ha =>
    rw [← e1]
    exact .own ⟨hlt,by rw [hq]; exact hd⟩ (by rw [e1]; exact hn) (by rw [e1,e2]; exact ha)
  ·rename_i hq
   obtain ⟨rfl,rfl⟩:=h
   have e1:(ρ.ren (N + k) σ).cap r f = 0:=by simp only [Env.ren,hq]
   cases hR
   have:=R.own (w:=w) (ρ:=ρ.ren (N + k) σ) (r:=r) (f:=f) (n:=0) (sz:=sz) (a:=none) ⟨hlt,by rw [hq]; trivial⟩ (by omega) (by rw [e1]; simp)
   rw [e1] at this
   exact this
 ·exact .any
 ·obtain ⟨rfl,hk⟩:=h
  exact hR.ren_low (fun p hp => (hσ p hp).1) (by omega) 3 hk
theorem look_append {m m':Mem} {r:Nat}:look (m ++ m') r = match look m r with | some x => some x | none => look m' r:=by
 induction m with
 | nil => rfl
 | cons q m ih =>
  obtain ⟨k,x⟩:=q
  simp only [List.cons_append,look]
  split
  ·rfl
  ·exact ih
theorem look_kept {keep:List Nat} {r:Nat} {x:Fam}:∀ {m:Mem},look (keptRows keep m) r = some x→r ∈ keep∧look m r = some x
 | [],h => by simp [keptRows,look] at h
 | (k,y) :: rest,h => by
  unfold keptRows at h
  rw [List.filter_cons] at h
  split at h
  ·rename_i hk
   simp only [look] at h ⊢
   split at h
   ·rename_i e; subst e
    simp only [if_true]
    exact ⟨by simpa using hk,h⟩
   ·rename_i e
    simp only [e,if_false]
    exact look_kept h
  ·rename_i hk
   have h':=look_kept (m:=rest) h
   refine ⟨h'.1,?_⟩
   simp only [look]
   rw [if_neg]
   ·exact h'.2
   ·intro e; subst e
    simp only [List.contains_eq_mem,decide_eq_true_eq] at hk
    exact hk h'.1
theorem look_mem {r:Nat} {x:Fam}:∀ {m:Mem},look m r = some x→(r,x) ∈ m
 | (k,y) :: rest,h => by
  simp only [look] at h
  split at h
  ·rename_i e; cases h; subst e; simp
  ·exact List.mem_cons_of_mem _ (look_mem h)
theorem fitRows_mem {N M:Nat} {σ:Names} {m:Mem}:∀ {rows:Mem},fitRows N M σ m rows→∀ r x,(r,x) ∈ rows →
  match asg σ r with
  | some k => ∃ y,look m k = some y∧∀ f,fitRow N M σ (x f) (y f)
  | none => ∀ f,(x f).n = 0∧(x f).g = none
 | [],_,r,x,h => by simp at h
 | (k,y) :: rest,h,r,x,hm => by
  simp only [fitRows] at h
  rcases List.mem_cons.1 hm with e | hm
  ·cases e; exact h.1
  ·exact fitRows_mem h.2 r x hm
theorem fitKeep_mem {m m':Mem}:∀ {keep:List Nat},fitKeep m m' keep→∀ r ∈ keep,look m' r = look m r
 | [],_,r,h => by simp at h
 | k :: rest,h,r,hm => by
  simp only [fitKeep] at h
  rcases List.mem_cons.1 hm with e | hm
  ·subst e; exact h.1
  ·exact fitKeep_mem h.2 r hm
theorem fitSlots_mem {N M:Nat} {σ:Names} {W:List Nat} {t:Slots}:∀ {l:Slots},fitSlots N M σ W t l→∀ j b,(j,b) ∈ l→j ∈ W∧fit1 N M σ b (slot t j)
 | [],_,j,b,h => by simp at h
 | (k,y) :: rest,h,j,b,hm => by
  simp only [fitSlots] at h
  rcases List.mem_cons.1 hm with e | hm
  ·cases e; exact ⟨h.1,h.2.1⟩
  ·exact fitSlots_mem h.2.2 j b hm
theorem fitL_get {N M:Nat} {σ:Names}:∀ {ars bs:List AV},fitL N M σ ars bs→∀ (i:Nat) (c:AV),ars[i]? = some c→∃ c',bs[i]? = some c'∧fit1 N M σ c c'
 | [],[],_,i,c,h => by simp at h
 | a :: ars,b :: bs,h,0,c,hc => by simp at hc; subst hc; exact ⟨b,by simp,h.1⟩
 | a :: ars,b :: bs,h,i + 1,c,hc => by
  simp at hc
  simpa using fitL_get h.2 i c hc
 | [],_ :: _,h,_,_,_ => h.elim
 | _ :: _,[],h,_,_,_ => h.elim
theorem fitL_len {N M:Nat} {σ:Names}:∀ {ars bs:List AV},fitL N M σ ars bs→ars.length = bs.length
 | [],[],_ => rfl
 | a :: ars,b :: bs,h => by simp [fitL_len h.2]
 | [],_ :: _,h => h.elim
 | _ :: _,[],h => h.elim
theorem slot_append:∀ {l t:Slots} {j:Nat},(∃ b,(j,b) ∈ l∧slot (l ++ t) j = b)∨((∀ b,(j,b) ∉ l)∧slot (l ++ t) j = slot t j)
 | [],t,j => .inr ⟨by simp,rfl⟩
 | (k,y) :: rest,t,j => by
  simp only [List.cons_append,slot]
  by_cases e:k = j
  ·subst e
   exact .inl ⟨y,by simp,by simp⟩
  ·simp only [e,if_false]
   rcases slot_append (l:=rest) (t:=t) (j:=j) with ⟨b,h1,h2⟩ | ⟨h1,h2⟩
   ·exact .inl ⟨b,by simp [h1],h2⟩
   ·refine .inr ⟨fun b hb => ?_,h2⟩
    rcases List.mem_cons.1 hb with hb | hb
    ·cases hb; exact e rfl
    ·exact h1 b hb
theorem slot_anys {W:List Nat} {j:Nat}:slot (W.map fun j => (j,AV.any)) j = if j ∈ W then AV.any else .v undef:=by
 induction W with
 | nil => simp [slot]
 | cons k W ih =>
  simp only [List.map_cons,slot,List.mem_cons]
  by_cases e:k = j
  ·subst e; simp
  ·have:¬ j = k:=fun h => e h.symm
   simp only [e,if_false,this,false_or]
   exact ih
theorem slot_havoc {W:List Nat} {t:Slots} {j:Nat}:slot (havoc W t) j = if j ∈ W then AV.any else slot t j:=by
 unfold havoc
 induction t with
 | nil => exact slot_anys
 | cons q t ih =>
  obtain ⟨k,a⟩:=q
  simp only [dropW]
  by_cases hk:k ∈ W
  ·rw [if_pos hk,ih]
   by_cases hj:j ∈ W
   ·simp [hj]
   ·have:¬ k = j:=fun e => hj (e ▸ hk)
    simp [hj,slot,this]
  ·rw [if_neg hk]
   simp only [List.cons_append,slot]
   by_cases e:k = j
   ·subst e; simp [hk]
   ·simp only [e,if_false]
    exact ih
theorem rows_of {X:Type} {I:Inv X} {W:List Nat} {s s':St} {x:X} {ρe ρ:Env} {we:World} {wb:Base} (he:Rel wb ρe s.m (· < s.nx) we)
  (h:Rel w0 ρ s'.m D w) {σ:Names} (h2:fitRows s.nx (s.nx + I.names) σ s'.m (I.rows x)) (h3:fitKeep s.m s'.m I.keep) (h4:goodNames s.nx I.names σ (I.rows x) I.keep) :
  Rel w0 (ρ.ren (s.nx + I.names) σ) (I.rows x ++ keptRows I.keep s.m) (· < s.nx + I.names) w:=by
 obtain ⟨g1,g2,g3,g4⟩:=h4
 have hσ:∀ p ∈ σ,s.nx≤p.1:=fun p hp => (g1 p hp).1
 have cases_:∀ r y,look (I.rows x ++ keptRows I.keep s.m) r = some y→((r,y) ∈ I.rows x)∨(r ∈ I.keep∧look s.m r = some y∧look s'.m r = some y∧r < s.nx):=fun r y hy => by
  rw [look_append] at hy
  split at hy
  ·rename_i z hz; cases hy; exact .inl (look_mem hz)
  ·obtain ⟨k1,k2⟩:=look_kept hy
   exact .inr ⟨k1,k2,by rw [fitKeep_mem h3 r k1]; exact k2,he.key r y k2⟩
 -- what stands behind a row of the new memory
 have back:∀ r y f,look (I.rows x ++ keptRows I.keep s.m) r = some y→(y f).g≠some false→0 < (ρ.ren (s.nx + I.names) σ).cap r f →
   ∃ k z,asg σ r = some k∧look s'.m k = some z∧(z f).g≠some false∧((r ∈ (I.rows x).map (·.1))∨(r ∈ I.keep∧k = r)):=fun r y f hy hg hc => by
  rcases cases_ r y hy with hm | ⟨k1,k2,k3,k4⟩
  ·have:=fitRows_mem h2 r y hm
   split at this
   ·rename_i k hk
    obtain ⟨z,hz,hf⟩:=this
    exact ⟨k,z,hk,hz,by rw [(hf f).2.2.2.1]; simp,.inl (List.mem_map.2 ⟨_,hm,rfl⟩)⟩
   ·rename_i hk
    simp only [Env.ren,hk] at hc
    omega
  ·exact ⟨r,y,asg_low hσ k4,k3,hg,.inr ⟨k1,rfl⟩⟩
 refine ⟨h.below,h.imm2,fun r hr => hr.1,fun r y hy => ?_,fun r y f hy hg => ?_,fun r y f r' y' f' hy hy' hg hg' hc hc' heq => ?_,h.fixed (fun _ _ => rfl) (fun b _ ho => ho.of fun r y f hy hg hc => ?_) (fun _ _ h => h),h.kept⟩
 ·rcases cases_ r y hy with hm | ⟨k1,k2,k3,k4⟩
  ·exact g4 _ hm
  ·show r < s.nx + I.names
   omega
 ·rcases cases_ r y hy with hm | ⟨k1,k2,k3,k4⟩
  ·have hlt:r < s.nx + I.names:=g4 _ hm
   have:=fitRows_mem h2 r y hm
   split at this
   ·rename_i k hk
    obtain ⟨z,hz,hf⟩:=this
    obtain ⟨f1,f2,f3,f4,f5,f6⟩:=hf f
    obtain ⟨d1,d2⟩:=h.row k z f hz (by rw [f4]; simp)
    have e1:(ρ.ren (s.nx + I.names) σ).cap r f = ρ.cap k f:=by simp only [Env.ren,hk]
    have e2:(ρ.ren (s.nx + I.names) σ).blk r f = ρ.blk k f:=by simp only [Env.ren,hk]
    refine ⟨⟨hlt,by rw [hk]; exact d1⟩,⟨by rw [e1,f1]; exact d2.n_le,?_,fun i hi => ?_,fun i q c v hi hc hv => ?_⟩⟩
    ·rw [e1,e2,f2,f3]; exact d2.blk
    ·rw [fitL_len (f6 i hi),f2]; exact d2.len i (by omega)
    ·obtain ⟨c',hc',hfit⟩:=fitL_get (f6 i hi) q c hc
     rw [e2,f2] at hv
     exact fit1_sound g1 hfit (d2.rel i q c' v (by omega) hc' hv)
   ·rename_i hk
    obtain ⟨f1,f2⟩:=this f
    have e1:(ρ.ren (s.nx + I.names) σ).cap r f = 0:=by simp only [Env.ren,hk]
    exact ⟨⟨hlt,by rw [hk]; trivial⟩,⟨by omega,fun hc => by omega,fun i hi => by omega,fun i q c v hi => by omega⟩⟩
  ·obtain ⟨d1,d2⟩:=h.row r y f k3 hg
   obtain ⟨c1,c2⟩:=he.row r y f k2 hg
   have hk:=asg_low hσ k4
   have e1:(ρ.ren (s.nx + I.names) σ).cap r f = ρ.cap r f:=by simp only [Env.ren,hk]
   have e2:(ρ.ren (s.nx + I.names) σ).blk r f = ρ.blk r f:=by simp only [Env.ren,hk]
   refine ⟨⟨by omega,by rw [hk]; exact d1⟩,⟨by rw [e1]; exact d2.n_le,by rw [e1,e2]; exact d2.blk,d2.len,fun i q c v hi hc hv => ?_⟩⟩
   rw [e2] at hv
   have hR:=d2.rel i q c v hi hc hv
   have hcap:0 < ρe.cap r f:=by have:=c2.n_le; omega
   obtain ⟨b1,b2,cc,b3,b4⟩:=c2.blk hcap
   have hq:q < (y f).sz:=by
    rw [← c2.len i hi]
    exact (List.getElem?_eq_some_iff.1 hc).1
   have hlt:i * (y f).sz + q < cc.size:=by
    rw [b4]
    have h1:(i + 1) * (y f).sz≤ρe.cap r f * (y f).sz:=Nat.mul_le_mul_right _ (by have:=c2.n_le; omega)
    rw [Nat.add_mul] at h1
    omega
   exact (c2.rel i q c cc[i * (y f).sz + q] hi hc (by unfold Has World.cell?; simp [b3,hlt])).low hσ (by omega) (fun r hr => he.dom r hr) hR
 ·obtain ⟨k,z,a1,a2,a3,a4⟩:=back r y f hy hg hc
  obtain ⟨k',z',a1',a2',a3',a4'⟩:=back r' y' f' hy' hg' hc'
  simp only [Env.ren,a1] at hc heq
  simp only [Env.ren,a1'] at hc' heq
  obtain ⟨e1,e2⟩:=h.sep k z f k' z' f' a2 a2' a3 a3' hc hc' heq
  refine ⟨?_,e2⟩
  subst e1
  have inj:∀ {l:Mem},((l.filterMap fun e => asg σ e.1)).Nodup→∀ r r' k,r ∈ l.map (·.1)→r' ∈ l.map (·.1)→asg σ r = some k→asg σ r' = some k→r = r':=by
   intro l
   induction l with
   | nil => intro _ r r' k h; simp at h
   | cons q l ih =>
    intro hn r r' k hr hr' h1 h2
    rw [List.filterMap_cons] at hn
    have mem:∀ r,r ∈ l.map (·.1)→asg σ r = some k→k ∈ l.filterMap fun e => asg σ e.1:=fun r hr h => by
     obtain ⟨e,he,rfl⟩:=List.mem_map.1 hr
     exact List.mem_filterMap.2 ⟨e,he,h⟩
    rcases List.mem_cons.1 hr with e | hr
    ·rcases List.mem_cons.1 hr' with e' | hr'
     ·rw [e,e']
     ·subst e; rw [h1] at hn
      exact absurd (mem r' hr' h2) (List.nodup_cons.1 hn).1
    ·rcases List.mem_cons.1 hr' with e' | hr'
     ·subst e'; rw [h2] at hn
      exact absurd (mem r hr h1) (List.nodup_cons.1 hn).1
     ·refine ih ?_ r r' k hr hr' h1 h2
      split at hn
      ·exact hn
      ·exact (List.nodup_cons.1 hn).2
  have dis:∀ r k,r ∈ (I.rows x).map (·.1)→asg σ r = some k→k ∈ I.keep→False:=fun r k hr h hk => by
   obtain ⟨e,he,rfl⟩:=List.mem_map.1 hr
   exact (List.nodup_append.1 g3).2.2 k (List.mem_filterMap.2 ⟨e,he,h⟩) k hk rfl
  rcases a4 with a4 | ⟨a4,e4⟩
  ·rcases a4' with a4' | ⟨a4',e4'⟩
   ·exact inj (List.nodup_append.1 g3).1 r r' k a4 a4' a1 a1'
   ·exact (dis r k a4 a1 (e4' ▸ a4')).elim
  ·rcases a4' with a4' | ⟨a4',e4'⟩
   ·exact (dis r' k a4' a1' (e4 ▸ a4)).elim
   ·rw [← e4,← e4']
 ·obtain ⟨k,z,a1,a2,a3,_⟩:=back r y f hy hg hc
  simp only [Env.ren,a1] at hc ⊢
  exact .inl ⟨k,z,f,a2,a3,hc,rfl⟩
def Env.al (ρ:Env) (N M:Nat) (θ:Alias):Env where
 dom r:=r < M∧(r < N→ρ.dom r)
 blk r f:=match θ r f with
  | some (k,g) => ρ.blk k g
  | none => 0
 cap r f:=match θ r f with
  | some (k,g) => ρ.cap k g
  | none => 0
 imm:=ρ.imm
theorem keeps_al {ρ:Env} {N M:Nat} {θ:Alias} (hlow:∀ r f,r < N→θ r f = some (r,f)) (hM:N≤M):Keeps N ρ (ρ.al N M θ):=fun r hr hd =>
 ⟨⟨by omega,fun _ => hd⟩,fun f => by simp only [Env.al,hlow r f hr,and_self]⟩
theorem keeps_ren {ρ:Env} {N M:Nat} {σ:Names} (hσ:∀ p ∈ σ,N≤p.1) (hM:N≤M):Keeps N ρ (ρ.ren M σ):=fun r hr hd =>
 ⟨⟨by omega,by rw [asg_low hσ hr]; exact hd⟩,fun f => by simp only [Env.ren,asg_low hσ hr,and_self]⟩
theorem R.keep {N:Nat} {x:Value} {ac:AV} (h:R w ρ ac x):∀ {ρ':Env},Keeps N ρ ρ'→(∀ b,ρ.imm b→ρ'.imm b)→∀ (d:Nat),kb d N ac→R w ρ' ac x:=by
 induction h with
 | v => exact fun _ _ _ _ => .v
 | any => exact fun _ _ _ _ => .any
 | agg hl h ih =>
  intro ρ' k hi d hk
  cases d with
  | zero => simp [kb] at hk
  | succ d =>
   simp only [kb] at hk
   exact .agg hl fun i b x h1 h2 => ih i b x h1 h2 k hi d (hk b (List.mem_of_getElem? h1))
 | tup hl h ih =>
  intro ρ' k hi d hk
  cases d with
  | zero => simp [kb] at hk
  | succ d =>
   simp only [kb] at hk
   exact .tup hl fun i b x h1 h2 => ih i b x h1 h2 k hi d (hk b (List.mem_of_getElem? h1))
 | fn hl h ih =>
  intro ρ' k hi d hk
  cases d with
  | zero => simp [kb] at hk
  | succ d =>
   simp only [kb] at hk
   exact .fn hl fun i b x h1 h2 => ih i b x h1 h2 k hi d (hk b (List.mem_of_getElem? h1))
 | iface h ih =>
  intro ρ' k hi d hk
  cases d with
  | zero => simp [kb] at hk
  | succ d => simp only [kb] at hk; exact .iface (ih k hi d hk)
 | yes h ih =>
  intro ρ' k hi d hk
  cases d with
  | zero => simp [kb] at hk
  | succ d => simp only [kb] at hk; exact .yes (ih k hi d hk)
 | no => exact fun _ _ _ _ => .no
 | ro b o hn ha hi hlen hex hr ih =>
  exact fun _ hi' _ _ => .ro b o hn ha (fun h => hi' _ (hi h)) hlen hex fun i k c x h1 h2 h3 => (hr i k c x h1 h2 h3).mono (Env.le.ext hi') (.refl _ _)
 | rop b o hi hex hr ih => exact fun _ hi' _ _ => .rop b o (hi' _ hi) hex fun k c x h1 h2 => (hr k c x h1 h2).mono (Env.le.ext hi') (.refl _ _)
 | @bx ρ r k hd =>
  intro ρ' kp _ d hk
  have hk:r < N:=by cases d <;> simpa [kb] using hk
  obtain ⟨k1,k2⟩:=kp r hk hd
  rw [← (k2 0).1]
  exact .bx k1
 | @ptr ρ r f i sz k hd =>
  intro ρ' kp _ d hk
  have hk:r < N:=by cases d <;> simpa [kb] using hk
  obtain ⟨k1,k2⟩:=kp r hk hd
  rw [← (k2 f).1]
  exact .ptr k1
 | @own ρ r f nn sz aa hd hn ha =>
  intro ρ' kp _ d hk
  have hk:r < N:=by cases d <;> simpa [kb] using hk
  obtain ⟨k1,k2⟩:=kp r hk hd
  rw [← (k2 f).2]
  exact .own k1 (by rw [(k2 f).2]; exact hn) (by rw [(k2 f).2,(k2 f).1]; exact ha)
 | @vw ρ r f l nn sz aa cap hd hn ha =>
  intro ρ' kp _ d hk
  have hk:r < N:=by cases d <;> simpa [kb] using hk
  obtain ⟨k1,k2⟩:=kp r hk hd
  exact .vw k1 hn (by rw [(k2 f).1]; exact ha)
theorem R.lowK {x:Value} {ac:AV} {N:Nat} (h:R w ρ ac x) (hd:∀ r,ρ.dom r→r < N) :
  ∀ {w':World} {ρ' ρ'':Env} {x':Value},Keeps N ρ' ρ''→(∀ b,ρ'.imm b→ρ''.imm b)→R w' ρ' ac x'→R w' ρ'' ac x':=by
 induction h with
 | v => intro w' ρ' ρ'' x' _ _ h; cases h; exact .v
 | any => intro w' ρ' ρ'' x' _ _ h; cases h; exact .any
 | @agg ρ cs vs hl h ih =>
  intro w' ρ' ρ'' x' k hi h'
  cases h' with
  | agg hl' h' =>
   refine .agg hl' fun i b x h1 h2 => ?_
   have hlt:i < vs.length:=by
    have:=(List.getElem?_eq_some_iff.1 h1).1
    omega
   exact ih i b vs[i] h1 (by simp) hd k hi (h' i b x h1 h2)
 | @tup ρ cs vs hl h ih =>
  intro w' ρ' ρ'' x' k hi h'
  cases h' with
  | tup hl' h' =>
   refine .tup hl' fun i b x h1 h2 => ?_
   have hlt:i < vs.length:=by
    have:=(List.getElem?_eq_some_iff.1 h1).1
    omega
   exact ih i b vs[i] h1 (by simp) hd k hi (h' i b x h1 h2)
 | @fn ρ f cs vs hl h ih =>
  intro w' ρ' ρ'' x' k hi h'
  cases h' with
  | fn hl' h' =>
   refine .fn hl' fun i b x h1 h2 => ?_
   have hlt:i < vs.length:=by
    have:=(List.getElem?_eq_some_iff.1 h1).1
    omega
   exact ih i b vs[i] h1 (by simp) hd k hi (h' i b x h1 h2)
 | iface h ih => intro w' ρ' ρ'' x' k hi h'; cases h' with | iface h' => exact .iface (ih hd k hi h')
 | yes h ih => intro w' ρ' ρ'' x' k hi h'; cases h' with | yes h' => exact .yes (ih hd k hi h')
 | no => intro w' ρ' ρ'' x' k hi h'; cases h' with | no => exact .no
 | ro b o hn ha hi hlen hex hr ih =>
  intro w' ρ' ρ'' x' k hi' h'
  cases h' with | ro b o hn ha hi hlen hex hr => exact .ro b o hn ha (fun h => hi' _ (hi h)) hlen hex fun i k c x h1 h2 h3 => (hr i k c x h1 h2 h3).mono (Env.le.ext hi') (.refl _ _)
 | rop b o hi hex hr ih =>
  intro w' ρ' ρ'' x' k hi' h'
  cases h' with | rop b o hi hex hr => exact .rop b o (hi' _ hi) hex fun k c x h1 h2 => (hr k c x h1 h2).mono (Env.le.ext hi') (.refl _ _)
 | @bx ρ r k hr =>
  intro w' ρ' ρ'' x' kp _ h'
  cases h' with | bx hd' =>
  obtain ⟨k1,k2⟩:=kp r (hd r hr) hd'
  rw [← (k2 0).1]
  exact .bx k1
 | @ptr ρ r f i sz k hr =>
  intro w' ρ' ρ'' x' kp _ h'
  cases h' with | ptr hd' =>
  obtain ⟨k1,k2⟩:=kp r (hd r hr) hd'
  rw [← (k2 f).1]
  exact .ptr k1
 | @own ρ r f nn sz aa hr hn ha =>
  intro w' ρ' ρ'' x' kp _ h'
  cases h' with | own hd' hn' ha' =>
  obtain ⟨k1,k2⟩:=kp r (hd r hr) hd'
  rw [← (k2 f).2]
  exact .own k1 (by rw [(k2 f).2]; exact hn') (by rw [(k2 f).2,(k2 f).1]; exact ha')
 | @vw ρ r f l nn sz aa cap hr hn ha =>
  intro w' ρ' ρ'' x' kp _ h'
  cases h' with | vw hd' hn' ha' =>
  obtain ⟨k1,k2⟩:=kp r (hd r hr) hd'
  exact .vw k1 hn' (by rw [(k2 f).1]; exact ha')
theorem fit1A_sound {N M:Nat} {θ:Alias} (hlow:∀ r f,r < N→θ r f = some (r,f)) (hM:N≤M) {new old:AV} (h:fit1A N M θ new old) {x:Value} (hR:R w ρ old x):R w (ρ.al N M θ) new x:=by
 unfold fit1A at h
 split at h
 ·rename_i r f nn sz
  obtain ⟨hlt,h⟩:=h
  split at h
  ·rename_i q g hq
   subst h
   have e1:(ρ.al N M θ).cap r f = ρ.cap q g:=by simp only [Env.al,hq]
   have e2:(ρ.al N M θ).blk r f = ρ.blk q g:=by simp only [Env.al,hq]
   cases hR with
   | own hd hn ha =>
    rw [← e1]
    refine .own ⟨hlt,fun hr => ?_⟩ (by rw [e1]; exact hn) (by rw [e1,e2]; exact ha)
    rw [hlow r f hr] at hq; cases hq; exact hd
  ·rename_i hq
   obtain ⟨rfl,rfl⟩:=h
   have e1:(ρ.al N M θ).cap r f = 0:=by simp only [Env.al,hq]
   cases hR
   have:=R.own (w:=w) (ρ:=ρ.al N M θ) (r:=r) (f:=f) (n:=0) (sz:=sz) (a:=none) ⟨hlt,fun hr => by rw [hlow r f hr] at hq; cases hq⟩ (by omega) (by rw [e1]; simp)
   rw [e1] at this
   exact this
 ·rename_i r f i sz k
  obtain ⟨hlt,h⟩:=h
  split at h
  ·rename_i q g hq
   have e2:(ρ.al N M θ).blk r f = ρ.blk q g:=by simp only [Env.al,hq]
   rcases h with h | ⟨h1,h2,h⟩
   ·subst h
    cases hR with
    | ptr hd =>
     rw [← e2]
     refine .ptr ⟨hlt,fun hr => ?_⟩
     rw [hlow r f hr] at hq; cases hq; exact hd
   ·subst h h1 h2
    cases hR with
    | bx hd =>
     have hp:R w (ρ.al N M θ) (.ptr r f 0 sz k) (.pointer (some ⟨(ρ.al N M θ).blk r f,0 * sz + k,none⟩)):=.ptr ⟨hlt,fun hr => by rw [hlow r f hr] at hq; cases hq; exact hd⟩
     rw [e2,Nat.zero_mul,Nat.zero_add] at hp
     exact hp
  ·exact h.elim
 ·rename_i r k
  obtain ⟨hlt,h⟩:=h
  split at h
  ·rename_i q g hq
   obtain ⟨rfl,rfl⟩:=h
   have e2:(ρ.al N M θ).blk r 0 = ρ.blk q 0:=by simp only [Env.al,hq]
   cases hR with
   | bx hd =>
    rw [← e2]
    refine .bx ⟨hlt,fun hr => ?_⟩
    rw [hlow r 0 hr] at hq; cases hq; exact hd
  ·exact h.elim
 ·exact .any
 ·obtain ⟨rfl,hk⟩:=h
  exact hR.keep (keeps_al hlow hM) (fun _ h => h) 3 hk
theorem fitRowsA_mem {N M:Nat} {θ:Alias} {m:Mem}:∀ {rows:Mem},fitRowsA N M θ m rows→∀ r x,(r,x) ∈ rows→∀ f,match θ r f with
  | some (k,g) => ∃ y,look m k = some y∧fitRowA N M θ (x f) (y g)
  | none => (x f).n = 0∧(x f).g = none
 | [],_,_,_,h => by cases h
 | (r0,x0) :: rest,⟨h1,h2⟩,r,x,h => by
  rcases List.mem_cons.1 h with e | h
  ·cases e; exact h1
  ·exact fitRowsA_mem h2 r x h
theorem fitSlotsA_mem {N M:Nat} {θ:Alias} {W:List Nat} {t:Slots}:∀ {l:Slots},fitSlotsA N M θ W t l→∀ j b,(j,b) ∈ l→j ∈ W∧fit1A N M θ b (slot t j)
 | [],_,_,_,h => by cases h
 | (j0,b0) :: rest,⟨h1,h2,h3⟩,j,b,h => by
  rcases List.mem_cons.1 h with e | h
  ·cases e; exact ⟨h1,h2⟩
  ·exact fitSlotsA_mem h3 j b h
theorem fitLA_get {N M:Nat} {θ:Alias}:∀ {ars bs:List AV},fitLA N M θ ars bs→∀ (i:Nat) (c:AV),ars[i]? = some c→∃ c',bs[i]? = some c'∧fit1A N M θ c c'
 | [],bs,_,i,c,h => by simp at h
 | a :: ars,[],h,_,_,_ => by simp [fitLA] at h
 | a :: ars,b :: bs,⟨h1,h2⟩,i,c,h => by
  cases i with
  | zero => simp at h; subst h; exact ⟨b,rfl,h1⟩
  | succ i => simp at h; simpa using fitLA_get h2 i c h
theorem fitLA_len {N M:Nat} {θ:Alias}:∀ {ars bs:List AV},fitLA N M θ ars bs→ars.length = bs.length
 | [],[],_ => rfl
 | [],_ :: _,h => by simp [fitLA] at h
 | _ :: _,[],h => by simp [fitLA] at h
 | a :: ars,b :: bs,⟨_,h⟩ => by simp [fitLA_len h]
theorem rows_ofA {X:Type} {I:Inv X} {s s':St} {x:X} {ρe ρ:Env} {we:World} {wb:Base} (he:Rel wb ρe s.m (· < s.nx) we)
  (h:Rel w0 ρ s'.m D w) {θ:Alias} (h2:fitRowsA s.nx (s.nx + I.names) θ s'.m (I.rows x)) (h3:fitKeep s.m s'.m I.keep) (h4:goodA s.nx I.names θ (I.rows x) I.keep) :
  Rel w0 (ρ.al s.nx (s.nx + I.names) θ) (I.rows x ++ keptRows I.keep s.m) (· < s.nx + I.names) w:=by
 obtain ⟨hlow,g4,inj⟩:=h4
 have hM:s.nx≤s.nx + I.names:=by omega
 have cases_:∀ r y,look (I.rows x ++ keptRows I.keep s.m) r = some y→((r,y) ∈ I.rows x)∨(r ∈ I.keep∧look s.m r = some y∧look s'.m r = some y∧r < s.nx):=fun r y hy => by
  rw [look_append] at hy
  split at hy
  ·rename_i z hz; cases hy; exact .inl (look_mem hz)
  ·obtain ⟨k1,k2⟩:=look_kept hy
   exact .inr ⟨k1,k2,by rw [fitKeep_mem h3 r k1]; exact k2,he.key r y k2⟩
 have back:∀ r y f,look (I.rows x ++ keptRows I.keep s.m) r = some y→(y f).g≠some false→0 < (ρ.al s.nx (s.nx + I.names) θ).cap r f →
   ∃ k g z,θ r f = some (k,g)∧look s'.m k = some z∧(z g).g≠some false∧((r ∈ (I.rows x).map (·.1))∨r ∈ I.keep):=fun r y f hy hg hc => by
  rcases cases_ r y hy with hm | ⟨k1,k2,k3,k4⟩
  ·have:=fitRowsA_mem h2 r y hm f
   split at this
   ·rename_i k g hk
    obtain ⟨z,hz,hf⟩:=this
    exact ⟨k,g,z,hk,hz,by rw [hf.2.2.2.1]; simp,.inl (List.mem_map.2 ⟨_,hm,rfl⟩)⟩
   ·rename_i hk
    simp only [Env.al,hk] at hc
    omega
  ·exact ⟨r,f,y,hlow r f k4,k3,hg,.inr k1⟩
 refine ⟨h.below,h.imm2,fun r hr => hr.1,fun r y hy => ?_,fun r y f hy hg => ?_,fun r y f r' y' f' hy hy' hg hg' hc hc' heq => ?_,h.fixed (fun _ _ => rfl) (fun b _ ho => ho.of fun r y f hy hg hc => ?_) (fun _ _ h => h),h.kept⟩
 ·rcases cases_ r y hy with hm | ⟨k1,k2,k3,k4⟩
  ·exact g4 _ hm
  ·show r < s.nx + I.names
   omega
 ·rcases cases_ r y hy with hm | ⟨k1,k2,k3,k4⟩
  ·have hlt:r < s.nx + I.names:=g4 _ hm
   have hdom:(ρ.al s.nx (s.nx + I.names) θ).dom r:=⟨hlt,fun hr => by
    have:=fitRowsA_mem h2 r y hm f
    rw [hlow r f hr] at this
    obtain ⟨z,hz,hf⟩:=this
    exact (h.row r z f hz (by rw [hf.2.2.2.1]; simp)).1⟩
   have:=fitRowsA_mem h2 r y hm f
   split at this
   ·rename_i k g hk
    obtain ⟨z,hz,f1,f2,f3,f4,f5,f6⟩:=this
    obtain ⟨d1,d2⟩:=h.row k z g hz (by rw [f4]; simp)
    have e1:(ρ.al s.nx (s.nx + I.names) θ).cap r f = ρ.cap k g:=by simp only [Env.al,hk]
    have e2:(ρ.al s.nx (s.nx + I.names) θ).blk r f = ρ.blk k g:=by simp only [Env.al,hk]
    refine ⟨hdom,⟨by rw [e1,f1]; exact d2.n_le,?_,fun i hi => ?_,fun i q c v hi hc hv => ?_⟩⟩
    ·rw [e1,e2,f2,f3]; exact d2.blk
    ·rw [fitLA_len (f6 i hi),f2]; exact d2.len i (by omega)
    ·obtain ⟨c',hc',hfit⟩:=fitLA_get (f6 i hi) q c hc
     rw [e2,f2] at hv
     exact fit1A_sound hlow hM hfit (d2.rel i q c' v (by omega) hc' hv)
   ·rename_i hk
    obtain ⟨f1,f2⟩:=this
    have e1:(ρ.al s.nx (s.nx + I.names) θ).cap r f = 0:=by simp only [Env.al,hk]
    exact ⟨hdom,⟨by omega,fun hc => by omega,fun i hi => by omega,fun i q c v hi => by omega⟩⟩
  ·obtain ⟨d1,d2⟩:=h.row r y f k3 hg
   obtain ⟨c1,c2⟩:=he.row r y f k2 hg
   have hk:=hlow r f k4
   have e1:(ρ.al s.nx (s.nx + I.names) θ).cap r f = ρ.cap r f:=by simp only [Env.al,hk]
   have e2:(ρ.al s.nx (s.nx + I.names) θ).blk r f = ρ.blk r f:=by simp only [Env.al,hk]
   refine ⟨⟨by omega,fun _ => d1⟩,⟨by rw [e1]; exact d2.n_le,by rw [e1,e2]; exact d2.blk,d2.len,fun i q c v hi hc hv => ?_⟩⟩
   rw [e2] at hv
   have hR:=d2.rel i q c v hi hc hv
   have hcap:0 < ρe.cap r f:=by have:=c2.n_le; omega
   obtain ⟨b1,b2,cc,b3,b4⟩:=c2.blk hcap
   have hq:q < (y f).sz:=by
    rw [← c2.len i hi]
    exact (List.getElem?_eq_some_iff.1 hc).1
   have hlt:i * (y f).sz + q < cc.size:=by
    rw [b4]
    have h1:(i + 1) * (y f).sz≤ρe.cap r f * (y f).sz:=Nat.mul_le_mul_right _ (by have:=c2.n_le; omega)
    rw [Nat.add_mul] at h1
    omega
   exact (c2.rel i q c cc[i * (y f).sz + q] hi hc (by unfold Has World.cell?; simp [b3,hlt])).lowK (fun r hr => he.dom r hr) (keeps_al hlow hM) (fun _ h => h) hR
 ·obtain ⟨k,g,z,a1,a2,a3,a4⟩:=back r y f hy hg hc
  obtain ⟨k',g',z',a1',a2',a3',a4'⟩:=back r' y' f' hy' hg' hc'
  simp only [Env.al,a1] at hc heq
  simp only [Env.al,a1'] at hc' heq
  obtain ⟨e1,e2⟩:=h.sep k z g k' z' g' a2 a2' a3 a3' hc hc' heq
  subst e1 e2
  exact inj r f r' f' k g a4 a4' a1 a1'
 ·obtain ⟨k,g,z,a1,a2,a3,_⟩:=back r y f hy hg hc
  simp only [Env.al,a1] at hc ⊢
  exact .inl ⟨k,z,g,a2,a3,hc,rfl⟩
theorem head_sound {X:Type} {I:Inv X} {W:List Nat} {s s':St} {x:X} {ρe:Env} {we:World} {ae:Act} {wb:Base} {de:Frm} (he:SR wb ρe s.t s.m (· < s.nx) nt de ae we)
  (h:SR w0 ρ s'.t s'.m D nt ds a w) (fr:∀ j,j ∉ W→slot s'.t j = slot s.t j) (hf:fits I W s x s') :
  (∃ ρ',SR w0 ρ' (headSt I W s x).t (headSt I W s x).m (· < (headSt I W s x).nx) nt ds a w∧Keeps s.nx ρ ρ')∧∀ j,j ∉ W→slot (headSt I W s x).t j = slot s.t j:=by
 rcases hf with hf | hf
 case inr =>
  obtain ⟨θ,h1,h2,h3,h4⟩:=hf
  have hlow:=h4.1
  have hM:s.nx≤s.nx + I.names:=by omega
  refine ⟨⟨ρ.al s.nx (s.nx + I.names) θ,⟨rows_ofA he.rel h.rel h2 h3 h4,fun j => ?_,h.size,h.defers,h.frame⟩,keeps_al hlow hM⟩,fun j hj => ?_⟩
  ·rcases slot_append (l:=I.live x) (t:=havoc W s.t) (j:=j) with ⟨b,k1,k2⟩ | ⟨k1,k2⟩
   ·show R w _ (slot (I.live x ++ havoc W s.t) j) _
    rw [k2]
    exact fit1A_sound hlow hM (fitSlotsA_mem h1 j b k1).2 (h.slots j)
   ·show R w _ (slot (I.live x ++ havoc W s.t) j) _
    rw [k2,slot_havoc]
    split
    ·exact .any
    ·rename_i hj
     exact (he.slots j).lowK (fun r hr => he.rel.dom r hr) (keeps_al hlow hM) (fun _ h => h) (fr j hj ▸ h.slots j)
  ·show slot (I.live x ++ havoc W s.t) j = _
   rcases slot_append (l:=I.live x) (t:=havoc W s.t) (j:=j) with ⟨b,k1,k2⟩ | ⟨k1,k2⟩
   ·exact absurd (fitSlotsA_mem h1 j b k1).1 hj
   ·rw [k2,slot_havoc,if_neg hj]
 obtain ⟨σ,h1,h2,h3,h4⟩:=hf
 have hσ:∀ p ∈ σ,s.nx≤p.1:=fun p hp => (h4.1 p hp).1
 refine ⟨⟨ρ.ren (s.nx + I.names) σ,⟨rows_of (W:=W) he.rel h.rel h2 h3 h4,fun j => ?_,h.size,h.defers,h.frame⟩,keeps_ren hσ (by omega)⟩,fun j hj => ?_⟩
 ·rcases slot_append (l:=I.live x) (t:=havoc W s.t) (j:=j) with ⟨b,k1,k2⟩ | ⟨k1,k2⟩
  ·show R w _ (slot (I.live x ++ havoc W s.t) j) _
   rw [k2]
   exact fit1_sound h4.1 (fitSlots_mem h1 j b k1).2 (h.slots j)
  ·show R w _ (slot (I.live x ++ havoc W s.t) j) _
   rw [k2,slot_havoc]
   split
   ·exact .any
   ·rename_i hj
    exact (he.slots j).low hσ (by omega) (fun r hr => he.rel.dom r hr) (fr j hj ▸ h.slots j)
 ·show slot (I.live x ++ havoc W s.t) j = _
  rcases slot_append (l:=I.live x) (t:=havoc W s.t) (j:=j) with ⟨b,k1,k2⟩ | ⟨k1,k2⟩
  ·exact absurd (fitSlots_mem h1 j b k1).1 hj
  ·rw [k2,slot_havoc,if_neg hj]
theorem Rel.putObj (h:Rel w0 ρ m D w) {b:Nat} {o o':Obj} (hb:(b,o) ∈ w0.fix) {fx:List (Nat×Obj)} (hfx:∀ p ∈ fx,(p = (b,o')∧∀ c ty fr,o'≠.cells c ty fr)∨(p ∈ w0.fix∧p.1≠b)):Rel { w0 with fix:=fx } ρ m D (w.putObj b o'):=by
 obtain ⟨f1,f2,f3,f4⟩:=h.fix _ hb
 have hoth:∀ k,k≠b→(w.putObj b o').heap[k]? = w.heap[k]?:=fun k hk => World.putObj_heap_other hk
 have hs:Same ρ.imm w (w.putObj b o'):=fun k hk => hoth k (fun e => f3 (e ▸ hk))
 have hsz:(w.putObj b o').heap.size = w.heap.size:=by simp
 refine ⟨h.below.trans ⟨rfl,rfl,rfl,by simp,fun k hk => hoth k (fun e => by dsimp only at f1 hk; omega)⟩,fun k hk => by rw [hsz]; exact h.imm2 k hk,h.dom,h.key,fun r x f hx hg => ?_,h.sep,fun p hp => ?_,?_⟩
 ·obtain ⟨hd,hr⟩:=h.row r x f hx hg
  have hr':=hr.mono (w':=w.putObj b o') hd (.refl _) (fun _ _ h => h) hs (fun hc => hoth _ (fun e => h.fix_ne hx hg hc hb e.symm))
  exact ⟨hd,hr'.n_le,hr'.blk,hr'.len,hr'.rel⟩
 ·rcases hfx p hp with ⟨rfl,hno⟩ | ⟨hp1,hp2⟩
  ·exact ⟨f1,f2,f3,World.putObj_heap_same (h.fixlt hb)⟩
  ·obtain ⟨g1,g2,g3,g4⟩:=h.fix p hp1
   exact ⟨g1,g2,g3,(hoth _ hp2).trans g4⟩
 ·exact h.keeps hs
theorem SR.putObj (h:SR w0 ρ t m D nt ds a w) {b:Nat} {o o':Obj} (hb:(b,o) ∈ w0.fix) {fx:List (Nat×Obj)} (hfx:∀ p ∈ fx,(p = (b,o')∧∀ c ty fr,o'≠.cells c ty fr)∨(p ∈ w0.fix∧p.1≠b)):SR { w0 with fix:=fx } ρ t m D nt ds a (w.putObj b o'):=
 ⟨h.rel.putObj hb hfx,fun j => (h.slots j).mono (.refl _) (fun k hk => World.putObj_heap_other (fun e => (h.rel.fix _ hb).2.2.1 (e ▸ hk))),h.size,h.defers,h.frame⟩
theorem Rel.stay (h:Rel w0 ρ m D w) {w':World} (hb:Below w.heap.size w w'):Rel w0 ρ m D w':=by
 have hs:Same ρ.imm w w':=Same.of_below hb h.imm
 refine ⟨h.below.trans (hb.mono h.below.size),fun b hi => ⟨Nat.lt_of_lt_of_le (h.imm b hi) hb.size,(h.imm2 b hi).2⟩,h.dom,h.key,fun r x f hx hg => ?_,h.sep,h.fixed (fun p hp => hb.block _ (h.fixlt hp)) (fun _ _ h => h) (fun _ _ h => h),h.keeps hs⟩
 obtain ⟨hd,hr⟩:=h.row r x f hx hg
 exact ⟨hd,hr.mono hd (.refl _) (fun _ _ h => h) hs (fun hc => hb.block _ (h.lt hx hg hc))⟩
theorem SR.stay (h:SR w0 ρ t m D nt ds a w) {w':World} (hb:Below w.heap.size w w'):SR w0 ρ t m D nt ds a w':=
 ⟨h.rel.stay hb,fun j => (h.slots j).mono (.refl _) (Same.of_below hb h.rel.imm),h.size,h.defers,h.frame⟩
theorem Rel.fixNew (h:Rel w0 ρ m D w) {o:Obj} (ho:∀ c ty fr,o≠.cells c ty fr):Rel { w0 with fix:=(w.heap.size,o) :: w0.fix } ρ m D (w.alloc o):=by
 have h':=h.stay (w':=w.alloc o) (((Below.refl _ w).alloc (Nat.le_refl _) _))
 refine ⟨h'.below,h'.imm2,h'.dom,h'.key,fun r x f hx hg => ?_,h'.sep,fun p hp => ?_,h'.kept⟩
 ·obtain ⟨hd,hr⟩:=h'.row r x f hx hg
  exact ⟨hd,hr.n_le,hr.blk,hr.len,hr.rel⟩
 ·rcases List.mem_cons.1 hp with rfl | hp
  ·exact ⟨h.below.size,fun r x f hx hg hc => by have:=h.lt hx hg hc; dsimp only; omega,fun hi => by have:=h.imm _ hi; dsimp only at this; omega,Go.heap_alloc_new _ _⟩
  ·exact h'.fix p hp
theorem Rel.shrink (h:Rel w0 ρ m D w) {fx kp:List (Nat×Obj)} (hf:∀ p ∈ fx,p ∈ w0.fix) (hk:∀ p ∈ kp,p ∈ w0.kept):Rel { w0 with fix:=fx,kept:=kp } ρ m D w:=
 ⟨h.below,h.imm2,h.dom,h.key,fun r x f hx hg => ⟨(h.row r x f hx hg).1,(h.row r x f hx hg).2.n_le,(h.row r x f hx hg).2.blk,(h.row r x f hx hg).2.len,(h.row r x f hx hg).2.rel⟩,h.sep,fun p hp => h.fix p (hf p hp),fun p hp => h.kept p (hk p hp)⟩
theorem SR.shrink (h:SR w0 ρ t m D nt ds a w) {fx kp:List (Nat×Obj)} (hf:∀ p ∈ fx,p ∈ w0.fix) (hk:∀ p ∈ kp,p ∈ w0.kept):SR { w0 with fix:=fx,kept:=kp } ρ t m D nt ds a w:=
 ⟨h.rel.shrink hf hk,h.slots,h.size,h.defers,h.frame⟩
theorem writesOps_mem {l:List Oper} {o:Oper} {k:Nat} (h:o ∈ l) (hk:o.dst = some k):k ∈ writesOps l:=by
 induction l with
 | nil => cases h
 | cons p l ih =>
  unfold writesOps
  rcases List.mem_cons.1 h with e | h
  ·rw [← e,hk]; exact List.mem_cons_self
  ·have:=ih h
   cases p.dst with
   | none => exact this
   | some d => exact List.mem_cons_of_mem _ this
def dmark (D:Nat):Deferred:={ target:=.collected D,args:=#[] }
def ranges:Code→Bool
 | .seq a b => ranges a || ranges b
 | .cond _ a b => ranges a || ranges b
 | .block _ c => ranges c
 | .loop c => ranges c
 | .rangeFunc _ _ _ _ => true
 | .scope c => ranges c
 | _ => false
def Ext (r:Bool) (w0:Base) (ds:Frm) (w1:Base) (ds1:Frm):Prop:=
 ∃ (fx:List (Nat×Obj)) (ms:List Nat),w1 = { w0 with fix:=fx ++ w0.fix }∧ds1 = { ds with ds:=ms.map dmark ++ ds.ds }∧(∀ b ∈ ms,(b,Obj.deferred (some [])) ∈ fx)∧ms.Nodup∧(∀ b ∈ ms,∀ p ∈ w0.fix,p.1≠b)∧(r = false→ms = [])
theorem Ext.refl {r:Bool} (w0:Base) (ds:Frm):Ext r w0 ds w0 ds:=⟨[],[],rfl,rfl,by simp,List.nodup_nil,by simp,fun _ => rfl⟩
theorem Ext.mono {r r':Bool} {w0 w1:Base} {d0 d1:Frm} (h:Ext r w0 d0 w1 d1) (hr:r' = false→r = false):Ext r' w0 d0 w1 d1:=by
 obtain ⟨fx,ms,h1,h2,h3,h4,h5,h6⟩:=h
 exact ⟨fx,ms,h1,h2,h3,h4,h5,fun e => h6 (hr e)⟩
theorem Ext.trans {r:Bool} {w0 w1 w2:Base} {d0 d1 d2:Frm} (h:Ext r w0 d0 w1 d1) (k:Ext r w1 d1 w2 d2):Ext r w0 d0 w2 d2:=by
 obtain ⟨fx,ms,rfl,rfl,h1,h2,h3,h4⟩:=h
 obtain ⟨fy,ns,rfl,rfl,k1,k2,k3,k4⟩:=k
 refine ⟨fy ++ fx,ns ++ ms,by simp,by simp,fun b hb => ?_,List.nodup_append.2 ⟨k2,h2,fun b hb c hc e => ?_⟩,fun b hb p hp => ?_,fun e => by rw [h4 e,k4 e]; rfl⟩
 ·rcases List.mem_append.1 hb with hb | hb
  ·exact List.mem_append.2 (.inl (k1 b hb))
  ·exact List.mem_append.2 (.inr (h1 b hb))
 ·subst e
  exact k3 b hb _ (List.mem_append.2 (.inl (h1 b hc))) rfl
 ·rcases List.mem_append.1 hb with hb | hb
  ·exact k3 b hb p (List.mem_append.2 (.inr hp))
  ·exact h3 b hb p hp
theorem Ext.W {r:Bool} {w0 w1:Base} {d0 d1:Frm} (h:Ext r w0 d0 w1 d1):d1.W = d0.W:=by
 obtain ⟨fx,ms,rfl,rfl,_⟩:=h; rfl
def recOf (fn:FuncId) (tmps:Array Value) (ps:Array Tmp) (x c:Code) (d:Nat) (st:LoopState) (pe:Option Code):Obj:=.loop { state:=st,pending:=pe,fn,tmps,params:=ps,assign:=x,body:=c,defers:=d }
theorem enter_run {ro:Option Nat} (hro:∀ l,ro = some l→∃ r,(l,Obj.loop r) ∈ w0.fix) (hR:Rel w0 ρ m D w) (fn:FuncId) (tmps:Array Value) (ps:Array Tmp) (x c:Code) :
  ∃ (l d:Nat) (mk:List Nat) (w1:World) (fx:List (Nat×Obj)),(Instr.enterLoop fn tmps ps x c ro).run P w = .ok (l,mk.map dmark) w1∧Below w.heap.size w w1 ∧
   Rel { w0 with fix:=(l,recOf fn tmps ps x c d .ready none) :: (fx ++ w0.fix) } ρ m D w1∧(∀ b ∈ mk,(b,Obj.deferred (some [])) ∈ fx)∧mk.Nodup∧(∀ b ∈ mk,∀ p ∈ w0.fix,p.1≠b)∧(∀ p ∈ fx ++ w0.fix,p.1≠l):=by
 cases ro with
 | none =>
  have h1:=hR.fixNew (o:=.deferred (some [])) (by intros; simp)
  have h2:=h1.fixNew (o:=recOf fn tmps ps x c w.heap.size .ready none) (by intros; simp [recOf])
  refine ⟨w.heap.size + 1,w.heap.size,[w.heap.size],_,[(w.heap.size,.deferred (some []))],run_enterLoop_outer _ _ _ _ _,?_,?_,by simp,by simp,?_,?_⟩
  ·exact (((Below.refl _ w).alloc (Nat.le_refl _) _).alloc (by simp) _)
  ·have e:(w.alloc (.deferred (some []))).heap.size = w.heap.size + 1:=by simp
   rw [e] at h2
   exact h2
  ·intro b hb p hp
   have:=hR.fixlt hp
   simp at hb
   omega
  ·intro p hp
   rcases List.mem_append.1 hp with hp | hp
   ·simp at hp; subst hp; simp
   ·have:=hR.fixlt hp
    omega
 | some l0 =>
  obtain ⟨r,hr⟩:=hro l0 rfl
  have h2:=hR.fixNew (o:=recOf fn tmps ps x c r.defers .ready none) (by intros; simp [recOf])
  refine ⟨w.heap.size,r.defers,[],_,[],run_enterLoop_inner (hR.fix _ hr).2.2.2 _ _ _ _ _,?_,?_,by simp,by simp,by simp,?_⟩
  ·exact ((Below.refl _ w).alloc (Nat.le_refl _) _)
  ·exact h2
  ·intro p hp
   have:=hR.fixlt (by simpa using hp)
   omega
theorem range_call {g:Operand} {gf:FuncId} {lb:Array Value} (hg:a.eval g = .func (.func gf) #[] lb) (l:Nat) (w:World) :
  (resolve a.eval (rangeCall g l) 0).run P w = .ok { target:=.fn (.func gf) lb,args:=#[.func (.yield l) #[] #[]] } w:=by
 simp only [resolve,hg]
 simp [go_sem]
theorem range_invoke {gf:FuncId} {lb:Array Value} (eg:∀ args w,(callFunc gf args).run P w = .ok (.enter gf args) w) (l:Nat) (w:World) :
  (invoke (Target.fn (.func gf) lb) #[.func (.yield l) #[] #[]]).run P w = .ok (.enter gf (#[.func (.yield l) #[] #[]] ++ lb)) w:=by
 simp [invoke,go_sem,eg]
theorem Ext.loops {r:Bool} {w0 w1:Base} {d0 d1:Frm} (h:Ext r w0 d0 w1 d1) {ro:Option Nat} (k:∀ l,ro = some l→∃ r,(l,Obj.loop r) ∈ w0.fix):∀ l,ro = some l→∃ r,(l,Obj.loop r) ∈ w1.fix:=by
 obtain ⟨fx,ms,rfl,rfl,_⟩:=h
 intro l hl
 obtain ⟨r,hr⟩:=k l hl
 exact ⟨r,List.mem_append.2 (.inr hr)⟩
theorem seqOf_inv {g:AV} {ob:List Prop} {N:Nat} {sq:Nat→List AV} (h:seqOf G g = some (ob,N,sq)) :
  ∃ f cs c k,g = .fn f cs∧cs.all (clean 3) = true∧pureOf (ctxGet G (1000000 + f)) = some c∧c cs = some (ob,.ro N k sq):=by
 unfold seqOf at h
 split at h
 ·rename_i f cs
  split at h
  ·rename_i hc
   split at h
   ·rename_i c hg
    split at h
    ·rename_i ob' N' k sq' he
     cases h
     exact ⟨f,cs,c,k,rfl,hc,hg,he⟩
    ·cases h
   ·cases h
  ·cases h
 ·cases h
noncomputable def keepAll (I:Nat→Prop) (w:World):List (Nat×Obj):=
 open Classical in (List.range w.heap.size).filterMap fun b => if I b then w.heap[b]?.map (b,·) else none
theorem keepAll_mem {I:Nat→Prop} {p:Nat×Obj} (h:p ∈ keepAll I w):I p.1∧w.heap[p.1]? = some p.2:=by
 unfold keepAll at h
 obtain ⟨b,_,hb⟩:=List.mem_filterMap.1 h
 split at hb
 ·rename_i hi
  obtain ⟨o,ho,rfl⟩:=Option.map_eq_some_iff.1 hb
  exact ⟨hi,ho⟩
 ·cases hb
theorem keepAll_same {I:Nat→Prop} {w':World} (hI:∀ b,I b→b < w.heap.size) (h:∀ p ∈ keepAll I w,w'.heap[p.1]? = some p.2):Same I w w':=fun b hb => by
 have hlt:=hI b hb
 have hm:(b,w.heap[b]) ∈ keepAll I w:=by
  unfold keepAll
  exact List.mem_filterMap.2 ⟨b,List.mem_range.2 hlt,by rw [if_pos hb]; simp [hlt]⟩
 rw [h _ hm]
 simp [hlt]
theorem Rel.keepMore (h:Rel w0 ρ m D w):Rel { w0 with kept:=keepAll ρ.imm w ++ w0.kept } ρ m D w:=
 ⟨h.below,h.imm2,h.dom,h.key,fun r x f hx hg => ⟨(h.row r x f hx hg).1,(h.row r x f hx hg).2.n_le,(h.row r x f hx hg).2.blk,(h.row r x f hx hg).2.len,(h.row r x f hx hg).2.rel⟩,h.sep,h.fix,fun p hp => (List.mem_append.1 hp).elim keepAll_mem (h.kept p)⟩
theorem SR.dmark (h:SR w0 ρ t m D nt ds a w) (l:List Deferred):SR w0 ρ t m D nt { ds with ds:=l ++ ds.ds } { a with defers:=l ++ a.defers } w:=
 ⟨h.rel,h.slots,h.size,by simp [h.defers],h.frame⟩
theorem slotsOf_other:∀ (ps:List Nat) (ars:List AV) (t:Slots) (j:Nat),j ∉ ps→slot (slotsOf ps ars t) j = slot t j
 | [],ars,t,j,_ => by cases ars <;> simp [slotsOf]
 | p :: ps,[],t,j,_ => by simp [slotsOf]
 | p :: ps,a :: ars,t,j,h => by
  simp only [List.mem_cons,not_or] at h
  simp only [slotsOf]
  rw [slotsOf_other ps ars _ j h.2]
  simp only [slot]
  rw [if_neg (fun e => h.1 e.symm)]
def jumpOf:AEx→Option Code
 | .normal => none
 | .exit j => some (.exit j)
 | .ret => some .ret
theorem stepR_scope {b:Frame} {k:List Item} {cs:List Frame} {c:Code}:step P (lone (b.atR a (.code (.scope c) :: k)) cs w) = .next (lone (b.atR a (.code c :: .inScope c :: k)) cs w):=
 step_lone_go (by simp [stepG,stepG.exec,Frame.atR])
theorem stepR_inScope {b:Frame} {k:List Item} {cs:List Frame} {c:Code}:step P (lone (b.atR a (.inScope c :: k)) cs w) = .next (lone (b.atR a k) cs w):=
 step_lone_go (by simp [stepG,stepG.exec,Frame.atR])
theorem wpIn_scope {F:Fence} {c:Code} (h:c.wpIn F n P (Exit.noGoto Q) a w):(Code.scope c).wpIn F n P Q a w:=by
 intro b k cs hro hb hr
 have h0:(lone (b.atR a (.code (.scope c) :: k)) cs w).fenced P F:=fenced_calm hb hr rfl
 obtain ⟨e,a₁,w₁,hq,harr⟩:=h b (.inScope c :: k) cs hro hb hr
 cases e with
 | normal => exact ⟨.normal,a₁,w₁,hq,.head h0 stepR_scope (StepsIn.trans harr (.one (fenced_calm hb hr rfl) stepR_inScope))⟩
 | exit id =>
  have hx:exitTo id (.inScope c :: k) = exitTo id k:=by simp [exitTo]
  exact ⟨.exit id,a₁,w₁,hq,fun k' hk => .head h0 stepR_scope (harr.1 k' (by rw [hx]; exact hk)),fun hr' hk => let ⟨k₁,h1,h2⟩:=harr.2 hr' (by rw [hx]; exact hk); ⟨k₁,h1,.head h0 stepR_scope h2⟩⟩
 | goto l => exact hq.elim
 | ret => exact ⟨_,a₁,w₁,hq,.of_steps (.one h0 stepR_scope) harr⟩
 | panic ch => exact ⟨_,a₁,w₁,hq,.of_steps (.one h0 stepR_scope) harr⟩
 | outgrown => exact ⟨_,a₁,w₁,hq,.of_steps (.one h0 stepR_scope) harr⟩
theorem awp_sound {H:Hots} (hG:CtxOK P G) (hm:P.follows .mixedOrders = true):∀ (c:Code) (ro:Option Nat) (n:Nat) (s:St) (K:AEx→St→Prop) (w0:Base) (ds:Frm) (ρ:Env) (a:Act) (w:World) (Q:Exit→Act→World→Prop),
  codeOK H nt c = true→(∀ l,ro = some l→∃ r,(l,Obj.loop r) ∈ w0.fix)→(∀ k ∈ writes c,ds.W k)→awp P G H c s K→SR w0 ρ s.t s.m (· < s.nx) nt ds a w →
  (∀ e s' w1 ds1 ρ' a' w',Ext (ranges c) w0 ds w1 ds1→K e s'→s.nx≤s'.nx→(∀ j,j ∉ writes c→slot s'.t j = slot s.t j)→SR w1 ρ' s'.t s'.m (· < s'.nx) nt ds1 a' w'→Keeps s.nx ρ ρ'→Q (conc e) a' w') →
  c.wpIn (Fw ro) n P Q a w:=by
 intro c
 induction c with
 | skip =>
  intro ro n s K w0 ds ρ a w Q hok hro hW h hs hK
  exact wpIn_skip (hK .normal s w0 ds ρ a w (.refl _ _) h (Nat.le_refl _) (fun _ _ => rfl) hs (.refl _ _))
 | region id ops draw =>
  intro ro n s K w0 ds ρ a w Q hok hro hW h hs hK
  simp only [awp] at h
  simp only [codeOK,Bool.and_eq_true,Bool.or_eq_true,Bool.not_eq_true'] at hok
  refine region_sound hG hm hok.2 (fun o ho k hk => ⟨fitsOps_mem hok.1 ho k hk,hW k (writesOps_mem ho hk)⟩) (regP_frame h) hs fun s' ρ' a' w' ⟨k1,k2,k3⟩ kle hs' => ?_
  refine hK .normal _ w0 ds ρ' a' w' (.refl _ _) k1 (by dsimp only; omega) (fun j hj => k3 j hj) hs' (kle.keeps _)
 | seq x y ihx ihy =>
  intro ro n s K w0 ds ρ a w Q hok hro hW h hs hK
  simp only [codeOK,Bool.and_eq_true] at hok
  simp only [awp] at h
  have hWx:∀ k ∈ writes x,ds.W k:=fun k hk => hW k (by simp only [writes,List.mem_append]; exact .inl hk)
  have hWy:∀ k ∈ writes y,ds.W k:=fun k hk => hW k (by simp only [writes,List.mem_append]; exact .inr hk)
  refine wpIn_seq (ihx ro n s _ w0 ds ρ a w _ hok.1 hro hWx h hs fun e s' w1 ds1 ρ' a' w' k0 k1 k2 k3 k4 k5 => ?_)
  cases e with
  | normal =>
   refine ihy ro n s' K w1 ds1 ρ' a' w' Q hok.2 (k0.loops hro) (by rw [k0.W]; exact hWy) k1 k4 fun e s2 w2 ds2 ρ2 a2 w2' l0 l1 l2 l3 l4 l5 => hK e s2 w2 ds2 ρ2 a2 w2' ((k0.mono (fun h => by simp only [ranges,Bool.or_eq_false_iff] at h; exact h.1)).trans (l0.mono (fun h => by simp only [ranges,Bool.or_eq_false_iff] at h; exact h.2))) l1 (by omega) (fun j hj => ?_) l4 (k5.trans l5 k2)
   simp only [writes,List.mem_append,not_or] at hj
   rw [l3 j hj.2,k3 j hj.1]
  | exit j => exact hK _ s' w1 ds1 ρ' a' w' (k0.mono (fun h => by simp only [ranges,Bool.or_eq_false_iff] at h; exact h.1)) k1 k2 (fun j hj => k3 j (by simp only [writes,List.mem_append,not_or] at hj; exact hj.1)) k4 k5
  | ret => exact hK _ s' w1 ds1 ρ' a' w' (k0.mono (fun h => by simp only [ranges,Bool.or_eq_false_iff] at h; exact h.1)) k1 k2 (fun j hj => k3 j (by simp only [writes,List.mem_append,not_or] at hj; exact hj.1)) k4 k5
 | cond c x y ihx ihy =>
  intro ro n s K w0 ds ρ a w Q hok hro hW h hs hK
  simp only [codeOK,Bool.and_eq_true] at hok
  simp only [awp,optK] at h
  have hWx:∀ k ∈ writes x,ds.W k:=fun k hk => hW k (by simp only [writes,List.mem_append]; exact .inl hk)
  have hWy:∀ k ∈ writes y,ds.W k:=fun k hk => hW k (by simp only [writes,List.mem_append]; exact .inr hk)
  split at h
  ·rename_i b hb
   have hv:=boolOf_sound (hs.opd c) hb
   refine wpIn_cond_split hv (fun hbt => ?_) (fun hbf => ?_)
   ·exact ihx ro n s K w0 ds ρ a w Q hok.1 hro hWx (h.1 hbt) hs fun e s' w1 ds1 ρ' a' w' k0 k1 k2 k3 k4 k5 => hK e s' w1 ds1 ρ' a' w' (k0.mono (fun h => by simp only [ranges,Bool.or_eq_false_iff] at h; exact h.1)) k1 k2 (fun j hj => k3 j (by simp only [writes,List.mem_append,not_or] at hj; exact hj.1)) k4 k5
   ·exact ihy ro n s K w0 ds ρ a w Q hok.2 hro hWy (h.2 hbf) hs fun e s' w1 ds1 ρ' a' w' k0 k1 k2 k3 k4 k5 => hK e s' w1 ds1 ρ' a' w' (k0.mono (fun h => by simp only [ranges,Bool.or_eq_false_iff] at h; exact h.2)) k1 k2 (fun j hj => k3 j (by simp only [writes,List.mem_append,not_or] at hj; exact hj.2)) k4 k5
  ·exact h.elim
 | block id c ih =>
  intro ro n s K w0 ds ρ a w Q hok hro hW h hs hK
  simp only [codeOK] at hok
  simp only [awp] at h
  refine wpIn_block (ih ro n s _ w0 ds ρ a w _ hok hro hW h hs fun e s' w1 ds1 ρ' a' w' k0 k1 k2 k3 k4 k5 => ?_)
  cases e with
  | normal => exact hK .normal s' w1 ds1 ρ' a' w' k0 k1 k2 k3 k4 k5
  | exit j =>
   simp only [blockK] at k1
   simp only [conc,Exit.inBlock]
   split
   ·rename_i e
    rw [if_pos e] at k1
    exact hK .normal s' w1 ds1 ρ' a' w' k0 k1 k2 k3 k4 k5
   ·rename_i e
    rw [if_neg e] at k1
    exact hK (.exit j) s' w1 ds1 ρ' a' w' k0 k1 k2 k3 k4 k5
  | ret => exact hK .ret s' w1 ds1 ρ' a' w' k0 k1 k2 k3 k4 k5
 | loop c ih =>
  intro ro n s K w0 ds ρ a w Q hok hro hW h hs hK
  simp only [codeOK] at hok
  simp only [awp,loopP] at h
  obtain ⟨X,I,⟨x,hx,hfit⟩,hround⟩:=h
  have key:∀ (k:Nat) (x:X) (w1:Base) (ds1:Frm) (ρ':Env) (a':Act) (w':World),Ext (ranges c) w0 ds w1 ds1→I.ok x→I.μ x < k→SR w1 ρ' (headSt I (writes c) s x).t (headSt I (writes c) s x).m (· < (headSt I (writes c) s x).nx) nt ds1 a' w' →
    (∀ j,j ∉ writes c→slot (headSt I (writes c) s x).t j = slot s.t j)→Keeps s.nx ρ ρ'→Code.roundsIn (Fw ro) n P c Q k a' w':=by
   intro k
   induction k with
   | zero => intro x w1 ds1 ρ' a' w' _ _ hk; omega
   | succ k ihk =>
    intro x w1 ds1 ρ' a' w' hE hx hk hs' hfr hkp
    rw [roundsIn_succ]
    refine ih ro n _ _ w1 ds1 ρ' a' w' _ hok (hE.loops hro) (by rw [hE.W]; exact hW) (hround x hx) hs' fun e s2 w2 ds2 ρ2 a2 w2' k0 k1 k2 k3 k4 k5 => ?_
    have hnx:s.nx≤s2.nx:=Nat.le_trans (by simp [headSt]) k2
    have hkp2:Keeps s.nx ρ ρ2:=hkp.trans k5 (by simp [headSt])
    have hfr2:∀ j,j ∉ writes c→slot s2.t j = slot s.t j:=fun j hj => by rw [k3 j hj,hfr j hj]
    cases e with
    | normal =>
     obtain ⟨y,hy,hlt,hfy⟩:=k1
     obtain ⟨⟨ρ3,h3,hkp3⟩,h4⟩:=head_sound hs k4 hfr2 hfy
     exact ihk y w2 ds2 ρ3 a2 w2' (hE.trans k0) hy (by omega) h3 h4 (hkp2.trans hkp3 (Nat.le_refl _))
    | exit j => exact hK (.exit j) s2 w2 ds2 ρ2 a2 w2' (hE.trans k0) k1 hnx hfr2 k4 hkp2
    | ret => exact hK .ret s2 w2 ds2 ρ2 a2 w2' (hE.trans k0) k1 hnx hfr2 k4 hkp2
  obtain ⟨⟨ρ3,h3,hkp3⟩,h4⟩:=head_sound hs hs (fun _ _ => rfl) hfit
  exact wpIn_loop_rounds (I.μ x + 1) (key (I.μ x + 1) x w0 ds ρ3 a w (.refl _ _) hx (by omega) h3 h4 hkp3)
 | ret =>
  intro ro n s K w0 ds ρ a w Q hok hro hW h hs hK
  exact wpIn_ret (hK .ret s w0 ds ρ a w (.refl _ _) h (Nat.le_refl _) (fun _ _ => rfl) hs (.refl _ _))
 | exit id =>
  intro ro n s K w0 ds ρ a w Q hok hro hW h hs hK
  exact wpIn_exit (hK (.exit id) s w0 ds ρ a w (.refl _ _) h (Nat.le_refl _) (fun _ _ => rfl) hs (.refl _ _))
 | rangeFunc g ps x c ihx ihc =>
  intro ro n s K w0 ds ρ a w Q hok hro hW h hs hK
  simp only [codeOK,Bool.and_eq_true,List.all_eq_true,decide_eq_true_eq] at hok
  obtain ⟨⟨hps,hokx⟩,hokc⟩:=hok
  simp only [awp,optK] at h
  split at h
  ·rename_i q hq
   obtain ⟨ob,N,sq⟩:=q
   obtain ⟨hob,hlen,X,I,cnt,hlive,⟨x0,hok0,hcnt0,hfit0⟩,hround,hdone⟩:=conj_iff.1 h
   clear h
   dsimp only at hlen hob hround hdone
   obtain ⟨f,cs,cc,k,hg,hcl,hget,hcc⟩:=seqOf_inv hq
   have hseq:=hG.range hget cs ob N k sq hcc hob
   generalize hWr:ps.toList ++ writes x ++ writes c = Wr at *
   have hWrx:∀ j ∈ writes x,j ∈ Wr:=fun j hj => by rw [← hWr]; simp [hj]
   have hWrc:∀ j ∈ writes c,j ∈ Wr:=fun j hj => by rw [← hWr]; simp [hj]
   have hWrp:∀ j ∈ ps.toList,j ∈ Wr:=fun j hj => by rw [← hWr]; simp only [List.mem_append]; exact .inl (.inl hj)
   -- the iterator and what it has captured
   have hgv:=hs.opd g
   rw [hg] at hgv
   generalize hge:a.eval g = gv at hgv
   cases hgv with
   | @fn _ _ _ vs hl hvs =>
   have hcap:Rs w (.ext ρ.imm) cs vs:=⟨hl,fun i b y h1 h2 => clean_sound 3 (List.all_eq_true.1 hcl b (List.mem_of_getElem? h1)) (hvs i b y h1 h2)⟩
   refine wpIn_rangeFunc fun fn hfn => ?_
   obtain ⟨l,d,mk,w1,fx,henter,hbel,hrel1,hmk1,hmk2,hmk3,hfxl⟩:=enter_run (P:=P) hro hs.rel fn a.tmps ps x c
   have himm:∀ b,ρ.imm b→b < w.heap.size:=hs.rel.imm
   have hsm1:Same ρ.imm w w1:=Same.of_below hbel himm
   obtain ⟨wbS,hwbS⟩:∃ wbS:LoopState→Option Code→Base,wbS = fun st pe => { w0 with fix:=(l,recOf fn a.tmps ps x c d st pe) :: (fx ++ w0.fix),kept:=keepAll ρ.imm w1 ++ w0.kept }:=⟨_,rfl⟩
   have hmem:∀ st pe,(l,recOf fn a.tmps ps x c d st pe) ∈ (wbS st pe).fix:=fun st pe => by rw [hwbS]; exact List.mem_cons_self
   have hno:∀ st pe c' ty fr,recOf fn a.tmps ps x c d st pe≠.cells c' ty fr:=fun st pe c' ty fr => by simp [recOf]
   have hrel1':Rel (wbS .ready none) ρ s.m (· < s.nx) w1:=by rw [hwbS]; exact hrel1.keepMore
   have hsr1:SR (wbS .ready none) ρ s.t s.m (· < s.nx) nt ds a w1:=⟨hrel1',fun j => (hs.slots j).mono (.refl _) hsm1,hs.size,hs.defers,hs.frame⟩
   have hkeep:∀ {st pe ρ' m' D' W},Rel (wbS st pe) ρ' m' D' W→Same ρ.imm w1 W:=fun {st pe ρ' m' D' W} hr => by
    refine keepAll_same (fun b hb => Nat.lt_of_lt_of_le (himm b hb) hbel.size) fun p hp => (hr.kept p ?_).2
    rw [hwbS]; exact List.mem_append.2 (.inl hp)
   obtain ⟨J,hJ⟩:∃ J:Nat→World→Prop,J = fun i W => ∃ y ρ',I.ok y∧cnt y = i∧Keeps s.nx ρ ρ'∧SR (wbS .ready none) ρ' (headSt I Wr s y).t (headSt I Wr s y).m (· < (headSt I Wr s y).nx) nt ds a W:=⟨_,rfl⟩
   obtain ⟨Jx,hJx⟩:∃ Jx:World→Prop,Jx = fun W => ∃ e s' ρ' jump,jumpOf e = some jump∧K e s'∧s.nx≤s'.nx∧(∀ j,j ∉ Wr→slot s'.t j = slot s.t j)∧Keeps s.nx ρ ρ'∧SR (wbS .done (some jump)) ρ' s'.t s'.m (· < s'.nx) nt ds a W:=⟨_,rfl⟩
   have hcall:=hseq ρ.imm w1 vs (n - 1) l J Jx (fun b hb => Nat.lt_of_lt_of_le (himm b hb) hbel.size) (hcap.mono (.refl _) hsm1)
    (fun i W W' hj hb => by
     rw [hJ] at hj ⊢
     obtain ⟨y,ρ',h1,h2,hkp,h3⟩:=hj
     exact ⟨y,ρ',h1,h2,hkp,h3.stay hb⟩)
    (fun W W' hj hb => by
     rw [hJx] at hj ⊢
     obtain ⟨e,s',ρ',jump,h1,h2,h3,h4,hkp,h5⟩:=hj
     exact ⟨e,s',ρ',jump,h1,h2,h3,h4,hkp,h5.stay hb⟩)
    (by
     rw [hJ]
     have hE:SR (wbS .ready none) ρ (havoc Wr s.t) s.m (· < s.nx) nt ds a w1:=⟨hrel1',fun j => by
      rw [slot_havoc]
      split
      ·exact .any
      ·exact hsr1.slots j,hs.size,hs.defers,hs.frame⟩
     obtain ⟨⟨ρ3,h3,hkp3⟩,_⟩:=head_sound (s':={ s with t:=havoc Wr s.t }) hs hE (fun j hj => by rw [slot_havoc,if_neg hj]) hfit0
     exact ⟨x0,ρ3,hok0,hcnt0,hkp3,h3⟩)
    (fun i W args hi hj hsame hargs => by
     rw [hJ] at hj
     obtain ⟨y,ρy,hoky,hcnt,hkpy,hsr⟩:=hj
     obtain ⟨hl1,hl2⟩:=hlen i hi
     have hheap:=(hsr.rel.fix _ (hmem .ready none)).2.2.2
     have hyield:=run_yield (P:=P) (args:=args.toArray) hheap (by
      have:=hargs.1
      simp only [List.size_toArray]
      rw [this,hl1]; simp)
     refine ⟨fn,_,x,c,hyield,roundIn_of_wpIn hfn ?_⟩
     rw [setAll_arr]
     have h0:=hround y hoky (show cnt y < N by omega)
     have hth:∀ j,slot (headSt I Wr s y).t j = slot (havoc Wr s.t) j:=fun j => by simp [headSt,hlive y]
     have hpl:∀ (i':Nat) (b:AV) (v:Value),(sq i)[i']? = some b→args[i']? = some v→R W ρy b v:=fun i' b v h1 h2 => plain_sound 3 (List.all_eq_true.1 hl2 b (List.mem_of_getElem? h1)) (hargs.2 i' b v h1 h2)
     rw [hcnt] at h0
     refine ihx (some l) _ _ _ (wbS .ready none) ⟨[],(· ∈ Wr),a.tmps⟩ ρy _ W _ hokx (fun l' hl' => by cases hl'; exact ⟨_,hmem .ready none⟩) hWrx h0 ⟨hsr.rel,?_,?_,rfl,?_⟩ ?_
     ·exact slotsOf_R ps.toList (sq i) args (havoc Wr s.t) a.tmps hl1 hargs.1 (fun p hp => by rw [hs.size]; exact hps p hp) hpl (fun j => by rw [← hth j]; exact hsr.slots j)
     ·exact (setAll_size _ _ _).trans hs.size
     ·exact fun j hj => setAll_other _ _ _ _ (fun hm => hj (hWrp j hm))
     intro e s' w1' ds1 ρ' a' w' k0 k1 k2 k3 k4 k5
     have hsl1:∀ j,j ∉ Wr→slot s'.t j = slot s.t j:=fun j hj => by
      rw [k3 j (fun hm => hj (hWrx j hm))]
      show slot (slotsOf _ _ _) j = _
      rw [slotsOf_other _ _ _ _ (fun hm => hj (hWrp j hm)),slot_havoc,if_neg hj]
     cases e with
     | normal =>
      obtain ⟨fy,ms,rfl,rfl,_,_,_⟩:=k0
      have hl':(l,recOf fn a.tmps ps x c d .ready none) ∈ fy ++ (wbS .ready none).fix:=List.mem_append.2 (.inr (hmem _ _))
      refine ⟨_,run_beginRound (k4.rel.fix _ hl').2.2.2 rfl,?_⟩
      have hsr2:SR (wbS .busy none) ρ' s'.t s'.m (· < s'.nx) nt ⟨ms.map dmark ++ [],(· ∈ Wr),a.tmps⟩ a' (w'.putObj l (recOf fn a.tmps ps x c d .busy none)):=by
       have:=k4.putObj (o':=recOf fn a.tmps ps x c d .busy none) hl' (fx:=(wbS .busy none).fix) (fun p hp => by
        rw [hwbS] at hp
        rcases List.mem_cons.1 hp with rfl | hp
        ·exact .inl ⟨rfl,hno _ _⟩
        ·refine .inr ⟨List.mem_append.2 (.inr ?_),hfxl p hp⟩
         rw [hwbS]; exact List.mem_cons_of_mem _ hp)
       rw [hwbS] at this ⊢
       exact this
      refine ihc (some l) _ s' _ (wbS .busy none) _ ρ' a' _ _ hokc (fun l' hl' => by cases hl'; exact ⟨_,hmem .busy none⟩) hWrc k1 hsr2 ?_
      intro e2 s2 w2 ds2 ρ2 a2 w2' l0 l1 l2 l3 l4 l5
      have hkp2:Keeps s.nx ρ ρ2:=(hkpy.trans k5 (by simp [headSt])).trans l5 (Nat.le_trans (by simp [headSt]) k2)
      obtain ⟨fz,ms2,rfl,rfl,_,_,_⟩:=l0
      have hlb:(l,recOf fn a.tmps ps x c d .busy none) ∈ fz ++ (wbS .busy none).fix:=List.mem_append.2 (.inr (hmem _ _))
      have hrun:=fun jump => run_endRound (P:=P) jump (l4.rel.fix _ hlb).2.2.2
      have hsl:∀ j,R w2' ρ2 (slot (havoc Wr s.t) j) (a.tmps.getD j undef):=fun j => by
       rw [slot_havoc]
       split
       ·exact .any
       ·rename_i hj
        have h1:=l4.slots j
        rw [l3 j (fun hm => hj (hWrc j hm)),hsl1 j hj,l4.frame j hj] at h1
        exact h1
      have hE:SR _ ρ2 (havoc Wr s.t) s2.m (· < s2.nx) nt ds a w2':=⟨l4.rel,hsl,hs.size,hs.defers,hs.frame⟩
      have hE':∀ st pe,SR (wbS st pe) ρ2 (havoc Wr s.t) s2.m (· < s2.nx) nt ds a (w2'.putObj l (recOf fn a.tmps ps x c d st pe)):=fun st pe => by
       have:=hE.putObj (o':=recOf fn a.tmps ps x c d st pe) hlb (fx:=(wbS st pe).fix) (fun p hp => by
        rw [hwbS] at hp
        rcases List.mem_cons.1 hp with rfl | hp
        ·exact .inl ⟨rfl,hno _ _⟩
        ·refine .inr ⟨List.mem_append.2 (.inr ?_),hfxl p hp⟩
         rw [hwbS]; exact List.mem_cons_of_mem _ hp)
       rw [hwbS] at this ⊢
       exact this
      have hnx:s.nx≤s2.nx:=by
       have h1:s.nx≤(headSt I Wr s y).nx:=by simp [headSt]
       have h2:(headSt I Wr s y).nx≤s'.nx:=k2
       omega
      have hsame':∀ st pe,Same ρ.imm W (w2'.putObj l (recOf fn a.tmps ps x c d st pe)):=fun st pe b hb => by
       rw [hkeep (hE' st pe).rel b hb,hsame b hb]
      cases e2 with
      | normal =>
       obtain ⟨z,hz,hzc,hfit⟩:=l1
       refine ⟨_,_,hrun none,hsame' _ _,.inl ⟨rfl,?_⟩⟩
       obtain ⟨⟨ρ3,h3,hkp3⟩,_⟩:=head_sound (s':={ s2 with t:=havoc Wr s.t }) hs (hE' .ready none) (fun j hj => by rw [slot_havoc,if_neg hj]) hfit
       rw [hJ]
       exact ⟨z,ρ3,hz,by omega,hkp2.trans hkp3 (Nat.le_refl _),h3⟩
      | exit j =>
       refine ⟨_,_,hrun (some (.exit j)),hsame' _ _,.inr ⟨rfl,?_⟩⟩
       rw [hJx]
       exact ⟨.exit j,_,ρ2,.exit j,rfl,l1,hnx,fun j hj => by rw [slot_havoc,if_neg hj],hkp2,hE' .done (some (.exit j))⟩
      | ret =>
       refine ⟨_,_,hrun (some .ret),hsame' _ _,.inr ⟨rfl,?_⟩⟩
       rw [hJx]
       exact ⟨.ret,_,ρ2,.ret,rfl,l1,hnx,fun j hj => by rw [slot_havoc,if_neg hj],hkp2,hE' .done (some .ret)⟩
     | exit j => exact k1.elim
     | ret => exact k1.elim)
   obtain ⟨eg,hcall⟩:=hcall
   refine ⟨l,mk.map dmark,w1,_,w1,f,_,w1,henter,range_call hge l w1,fun _ _ => trivial,range_invoke eg l w1,fun hd => by simp [Fw,Fence.wide] at hd,?_⟩
   refine CallsIn.mono (F:=Fw ro) hcall ?_
   rintro e W ⟨⟨v,rfl⟩,hj | hj⟩
   ·rw [hJ] at hj
    obtain ⟨y,ρy,hoky,hcnt,hkpy,hsr⟩:=hj
    refine ⟨none,_,run_endLoop (hsr.rel.fix _ (hmem .ready none)).2.2.2 (by simp),?_⟩
    have hsr2:=((hsr.putObj (o':=recOf fn a.tmps ps x c d .exhausted none) (hmem .ready none) (fx:=fx ++ w0.fix) (fun p hp => by
     refine .inr ⟨?_,hfxl p hp⟩
     rw [hwbS]; exact List.mem_cons_of_mem _ hp)).shrink (fx:=fx ++ w0.fix) (kp:=w0.kept) (fun p hp => hp) (fun p hp => by rw [hwbS]; exact List.mem_append.2 (.inr hp))).dmark (mk.map dmark)
    have hsr3:SR { w0 with fix:=fx ++ w0.fix } ρy (headSt I Wr s y).t (headSt I Wr s y).m (· < (headSt I Wr s y).nx) nt { ds with ds:=mk.map dmark ++ ds.ds } { a with defers:=mk.map dmark ++ a.defers } (W.putObj l (recOf fn a.tmps ps x c d .exhausted none)):=by
     rw [hwbS] at hsr2; exact hsr2
    exact hK .normal (headSt I Wr s y) _ _ ρy _ _ ⟨fx,mk,rfl,rfl,hmk1,hmk2,hmk3,fun e => by simp [ranges] at e⟩ (hdone y hoky hcnt) (by simp [headSt]) (fun j hj => by
     have e1:slot (headSt I Wr s y).t j = slot (havoc Wr s.t) j:=by simp [headSt,hlive y]
     rw [e1,slot_havoc,if_neg]
     rw [← hWr]; simpa [writes] using hj) hsr3 hkpy
   ·rw [hJx] at hj
    obtain ⟨e,s',ρ',jump,h1,h2,h3,h4,hkp,h5⟩:=hj
    refine ⟨some jump,_,run_endLoop (h5.rel.fix _ (hmem .done (some jump))).2.2.2 (by simp),?_⟩
    have hsr2:=((h5.putObj (o':=recOf fn a.tmps ps x c d .exhausted (some jump)) (hmem .done (some jump)) (fx:=fx ++ w0.fix) (fun p hp => by
     refine .inr ⟨?_,hfxl p hp⟩
     rw [hwbS]; exact List.mem_cons_of_mem _ hp)).shrink (fx:=fx ++ w0.fix) (kp:=w0.kept) (fun p hp => hp) (fun p hp => by rw [hwbS]; exact List.mem_append.2 (.inr hp))).dmark (mk.map dmark)
    have hsr3:SR { w0 with fix:=fx ++ w0.fix } ρ' s'.t s'.m (· < s'.nx) nt { ds with ds:=mk.map dmark ++ ds.ds } { a with defers:=mk.map dmark ++ a.defers } (W.putObj l (recOf fn a.tmps ps x c d .exhausted (some jump))):=by
     rw [hwbS] at hsr2; exact hsr2
    have hfin:=hK e s' _ _ ρ' _ _ ⟨fx,mk,rfl,rfl,hmk1,hmk2,hmk3,fun e => by simp [ranges] at e⟩ h2 h3 (fun j hj => h4 j (by rw [← hWr]; simpa [writes] using hj)) hsr3 hkp
    cases e with
    | normal => cases h1
    | exit j => cases h1; exact wpIn_exit hfin
    | ret => cases h1; exact wpIn_ret hfin
  ·exact h.elim
 | scope c ih =>
  intro ro n s K w0 ds ρ a w Q hok hro hW h hs hK
  simp only [codeOK] at hok
  simp only [awp] at h
  refine wpIn_scope (ih ro n s _ w0 ds ρ a w _ hok hro hW h hs fun e s' w1 ds1 ρ' a' w' k0 k1 k2 k3 k4 k5 => ?_)
  have:=hK e s' w1 ds1 ρ' a' w' k0 k1 k2 k3 k4 k5
  cases e <;> exact this
 | label l =>
  intro ro n s K w0 ds ρ a w Q hok hro hW h hs hK
  exact wpIn_label (hK .normal s w0 ds ρ a w (.refl _ _) h (Nat.le_refl _) (fun _ _ => rfl) hs (.refl _ _))
 | _ => intro ro n s K w0 ds ρ a w Q hok hro hW h hs hK; exact (by simp only [awp] at h:False).elim
end
section
variable {P:Program} {G:Ctx} {w0:Base} {w:World} {ρ:Env} {m:Mem} {D:Nat→Prop} {t:Slots} {nt:Nat} {ds:Frm} {a:Act}
def funcOK (P:Program) (H:Hots) (fn:Func) (k:Nat):Bool:=
 P.follows .mixedOrders && !(fn.name == "runtime.NumGoroutine") && decide (k ≤ fn.ntmps) && match fn.body with
 | some c => codeOK H fn.ntmps c
 | none => false
theorem bind_pure' {α:Type} (x:Sem α):x.bind Sem.pure = x:=by
 induction x with
 | pure a => rfl
 | halt h => rfl
 | _ => rename_i ih; simp only [Sem.bind]; first | rw [ih] | (congr 1; funext v; exact ih v)
theorem bind_assoc' {α β γ:Type} (x:Sem α) (f:α→Sem β) (g:β→Sem γ):(x.bind f).bind g = x.bind fun a => (f a).bind g:=by
 induction x with
 | pure a => rfl
 | halt h => rfl
 | _ => rename_i ih; simp only [Sem.bind]; first | rw [ih] | (congr 1; funext v; exact ih v)
theorem lawful:LawfulMonad Sem:=LawfulMonad.mk' (id_map:=fun x => bind_pure' x) (pure_bind:=fun _ _ => rfl) (bind_assoc:=fun x f g => bind_assoc' x f g)
attribute [local instance] lawful
theorem asAddr_run {t:TypeId} {v x:Value} (h:(Instr.loadAt t v).run P w = .ok x w):(do loadVar t (← asAddr v):Sem Value).run P w = .ok x w:=by
 unfold Instr.loadAt at h
 cases v with
 | pointer p =>
  cases p with
  | some q => exact h
  | none => exact absurd h (by simp [Instr.sureAddr,stuck])
 | _ => exact absurd h (by simp [Instr.sureAddr,stuck])
theorem resOf_sound {r:ResultVar} {s:St} {ob:List Prop} {x:AV} (hs:SR w0 ρ s.t s.m D nt ds a w) (h:resOf P r s = some (ob,x)) (hob:∀ p ∈ ob,p) :
  ∃ v,(match r with | .tmp t => pure (a.tmps.getD t undef) | .cell q t => do loadVar t (← asAddr (a.tmps.getD q undef)):Sem Value).run P w = .ok v w∧R w ρ x v:=by
 cases r with
 | tmp t =>
  refine ⟨_,rfl,?_⟩
  have:=hs.slots t
  unfold resOf at h
  dsimp only at h
  split at h
  ·cases h
  ·cases h; exact this
 | cell q t =>
  obtain ⟨v,h1,h2⟩:=aLoad_sound hs.rel h hob (hs.slots q)
  exact ⟨v,asAddr_run h1,h2⟩
theorem resList_sound {s:St} (hs:SR w0 ρ s.t s.m D nt ds a w):∀ {rs:List ResultVar} {ob:List Prop} {xs:List AV},resList P s rs = some (ob,xs)→(∀ p ∈ ob,p) →
  ∃ vs:List Value,(rs.mapM fun | .tmp t => pure (a.tmps.getD t undef) | .cell q t => do loadVar t (← asAddr (a.tmps.getD q undef)):Sem (List Value)).run P w = .ok vs w∧Rs w ρ xs vs:=by
 intro rs
 induction rs with
 | nil =>
  intro ob xs h hob
  simp only [resList] at h
  cases h
  exact ⟨[],rfl,rfl,fun i a x h => by simp at h⟩
 | cons r rest ih =>
  intro ob xs h hob
  simp only [resList] at h
  split at h
  ·rename_i o1 x1 h1
   split at h
   ·rename_i o2 x2 h2
    cases h
    obtain ⟨v,hv,hR⟩:=resOf_sound hs h1 fun p hp => hob p (by simp [hp])
    obtain ⟨vs,hvs,hRs⟩:=ih h2 fun p hp => hob p (by simp [hp])
    refine ⟨v :: vs,?_,by simp [hRs.1],fun i c x h3 h4 => ?_⟩
    ·rw [List.mapM_cons]
     simp only [Sem.run_bind]
     erw [hv]
     simp only [Result.andThen_ok,Sem.run_bind]
     erw [hvs]
     rfl
    ·cases i with
     | zero => simp at h3 h4; subst h3; subst h4; exact hR
     | succ i => simp at h3 h4; exact hRs.2 i c x h3 h4
   ·cases h
  ·cases h
theorem resAll_sound {s:St} (hs:SR w0 ρ s.t s.m D nt ds a w) {fn:Func} {ob:List Prop} {x:AV} (h:resAll P s fn.results.toList = some (ob,x)) (hob:∀ p ∈ ob,p) :
  ∃ v,(results fn a.tmps).run P w = .ok v w∧R w ρ x v:=by
 unfold resAll at h
 have key:∀ {ob xs},resList P s fn.results.toList = some (ob,xs)→(∀ p ∈ ob,p)→∃ vs:List Value,Rs w ρ xs vs∧(results fn a.tmps).run P w = .ok (if h:vs.toArray.size = 1 then vs.toArray[0] else .tuple vs.toArray) w:=fun h hob => by
  obtain ⟨vs,h1,h2⟩:=resList_sound hs h hob
  refine ⟨vs,h2,?_⟩
  unfold results
  rw [← Array.toArray_toList (xs:=fn.results),List.mapM_toArray]
  simp only [map_eq_pure_bind,bind_assoc,pure_bind]
  rw [Sem.run_bind]
  erw [h1]
  rfl
 split at h
 ·rename_i o1 x1 h1
  cases h
  obtain ⟨vs,h2,h3⟩:=key h1 hob
  obtain ⟨v,rfl⟩:∃ v,vs = [v]:=by
   have:=h2.1
   cases vs with
   | nil => simp at this
   | cons v vs => cases vs with
    | nil => exact ⟨v,rfl⟩
    | cons _ _ => simp at this
  exact ⟨v,h3,h2.2 0 x v rfl rfl⟩
 ·rename_i o1 ars hne h1
  cases h
  obtain ⟨vs,h2,h3⟩:=key h1 hob
  have hl:¬ vs.toArray.size = 1:=fun hl => by
   have h4:=h2.1
   rw [List.size_toArray] at hl
   rw [hl] at h4
   cases ars with
   | nil => simp at h4
   | cons c ars => cases ars with
    | nil => exact hne c rfl
    | cons _ _ => simp only [List.length_cons] at h4; omega
  rw [dif_neg hl] at h3
  exact ⟨_,h3,.tup h2.1 h2.2⟩
 ·cases h
theorem argSlots_get:∀ {ars:List AV} {i j:Nat},slot (argSlots i ars) j = if i≤j∧j < i + ars.length then ars.getD (j - i) (.v undef) else .v undef
 | [],i,j => by
  simp only [argSlots,slot,List.length_nil]
  rw [if_neg (by omega)]
 | a :: ars,i,j => by
  simp only [argSlots,slot]
  by_cases e:i = j
  ·subst e; simp
  ·rw [if_neg e,argSlots_get]
   by_cases h:i≤j∧j < i + (ars.length + 1)
   ·have h1:i + 1≤j∧j < i + 1 + ars.length:=by omega
    have h2:j - i = (j - (i + 1)) + 1:=by omega
    simp only [List.length_cons,h,h1,and_self,if_true,h2]
    simp
   ·have h1:¬ (i + 1≤j∧j < i + 1 + ars.length):=by omega
    simp only [List.length_cons,h,h1,if_false]
theorem leaves_marks {F:Fence} {n:Nat} {fn:Func} {Z:Ending→World→Prop} {a:Act}:∀ (ms:List Nat) (w0:Base) (w:World),ms.Nodup→(∀ b ∈ ms,(b,Obj.deferred (some [])) ∈ w0.fix)→SR w0 ρ t m D nt ds a w →
  (∀ (w1:Base) (w':World),w1.toWorld = w0.toWorld→w1.old = w0.old→(∀ p ∈ w0.fix,p.1 ∉ ms→p ∈ w1.fix)→w1.kept = w0.kept→SR w1 ρ t m D nt ds a w'→∃ v,(results fn a.tmps).run P w' = .ok v w'∧Z (.returned v) w') →
  LeavesInM F n P fn a.tmps Z (ms.map dmark) .returning w
 | [],w0,w,_,_,h,hZ => by
  have:=hZ w0 w rfl rfl (fun p hp _ => hp) rfl h
  simpa only [List.map_nil,LeavesInM,LeavesIn] using this
 | b :: ms,w0,w,hn,hm,h,hZ => by
  have hb:=hm b (by simp)
  obtain ⟨n1,n2⟩:=List.nodup_cons.1 hn
  simp only [List.map_cons,LeavesInM]
  refine ⟨by simp,.inl ⟨b,_,rfl,run_takeDeferred (h.rel.fix _ hb).2.2.2,?_⟩⟩
  refine leaves_marks ms { w0 with fix:=w0.fix.filter (fun p => p.1≠b) } _ n2 (fun c hc => ?_) (h.putObj hb (fun p hp => .inr (by simpa using hp))) (fun w1 w' h1 h2 h4 h5 h3 => hZ w1 w' h1 h2 (fun p hp hm => by
   simp only [List.mem_cons,not_or] at hm
   exact h4 p (List.mem_filter.2 ⟨hp,by simpa using hm.1⟩) hm.2) h5 h3)
  refine List.mem_filter.2 ⟨hm c (by simp [hc]),?_⟩
  simp only [ne_eq,decide_not,Bool.not_eq_true',decide_eq_false_iff_not]
  intro e; subst e; exact n1 hc
theorem fn_sound (hG:CtxOK P G) {f:FuncId} {fn:Func} (hf:P.funcs[f]? = some fn) {ars:List AV} {H:Hots} (hok:funcOK P H fn ars.length = true) {K:AV→Prop} (h:fnVC P G H fn ars K)
  (I:Nat→Prop) (w:World) (vs:List Value) (hI:∀ b,I b→b < w.heap.size) (hRs:Rs w (.ext I) ars vs) :
  (callFunc f vs.toArray).run P w = .ok (.enter f vs.toArray) w∧Calls P f vs.toArray w fun e w' => ∃ v,e = .returned v∧(∃ r,K r∧R w' (.ext (New I w w')) r v)∧Below w.heap.size w w':=by
 unfold funcOK at hok
 simp only [Bool.and_eq_true,Bool.not_eq_true',decide_eq_true_eq] at hok
 obtain ⟨⟨⟨hm,hname⟩,hsz⟩,hbody⟩:=hok
 cases hb:fn.body with
 | none => rw [hb] at hbody; simp at hbody
 | some c =>
  rw [hb] at hbody
  dsimp only at hbody
  unfold fnVC at h
  rw [hb] at h
  dsimp only at h
  refine ⟨?_,callsIn_wide.1 (callsIn_of_wp_marks (n:=0) (F:=Fence.wide) hf hb trivial ?_)⟩
  ·unfold callFunc
   simp only [Sem.run_bind]
   show Sem.run P (match P.funcs[f]? with | none => _ | some fn => _) w = _
   rw [hf]
   dsimp only
   rw [if_neg (by rw [hname]; simp),if_neg (by rw [hb]; simp)]
   rfl
  ·have hlen:vs.length = ars.length:=hRs.1
   have hnt:(vs.toArray ++ Array.replicate (fn.ntmps - vs.toArray.size) undef).size = fn.ntmps:=by simp; omega
   refine awp_sound hG hm c none 0 _ _ ⟨w,I,[],[]⟩ ⟨[],fun _ => True,#[]⟩ (Env.ext I) _ w _ hbody (fun l hl => by cases hl) (fun _ _ => trivial) h ⟨⟨.refl _ _,fun b hb => ⟨hI b hb,.inl hb⟩,fun r hr => hr.elim,fun r x hx => by simp [look] at hx,fun r x f hx => by simp [look] at hx,fun r x f r' x' f' hx => by simp [look] at hx,fun p hp => (by cases hp),fun p hp => (by cases hp)⟩,fun j => ?_,hnt,rfl,fun j hj => absurd trivial hj⟩ fun e s' w1 ds1 ρ' a' w' k0 k1 k2 k3 k4 _ => ?_
   ·rw [argSlots_get]
    split
    ·rename_i hj
     have hj':j < ars.length:=by omega
     have hj2:j < vs.length:=by omega
     refine hRs.2 j _ _ ?_ ?_
     ·simp [List.getD,List.getElem?_eq_getElem hj']
     ·simp [Array.getD_eq_getD_getElem?,Array.getElem?_append,hj2]
    ·rename_i hj
     have hj2:vs.length≤j:=by omega
     have:(vs.toArray ++ Array.replicate (fn.ntmps - vs.toArray.size) undef).getD j undef = undef:=by
      rw [Array.getD_eq_getD_getElem?,Array.getElem?_append_right (by simpa using hj2),Array.getElem?_replicate]
      split <;> rfl
     rw [this]
     exact .v
   ·obtain ⟨fx,ms,e1,e2,hms,hnd,_⟩:=k0
    have fin:∀ e,e = AEx.normal∨e = AEx.ret→endK P fn K e s'→LeavesInM Fence.wide 0 P fn a'.tmps (fun e w' => ∃ v,e = .returned v∧(∃ r,K r∧R w' (.ext (New I w w')) r v)∧Below w.heap.size w w') a'.defers .returning w':=by
     intro e he h
     have h:match resAll P s' fn.results.toList with
       | some (ob,a) => conj ob (K (pur 3 s'.m a))
       | none => False:=by
      rcases he with rfl | rfl <;> exact h
     rw [k4.defers,e2]
     simp only [List.append_nil]
     refine leaves_marks ms w1 w' hnd (fun b hb => by rw [e1]; exact List.mem_append.2 (.inl (hms b hb))) k4 fun w2 w'' g1 g2 _ _ k5 => ?_
     rw [e1] at g1 g2
     split at h
     ·rename_i ob x hx
      obtain ⟨hob,hK⟩:=conj_iff.1 h
      obtain ⟨v,h1,h2⟩:=resAll_sound k5 hx hob
      refine ⟨v,h1,v,rfl,⟨_,hK,pur_sound k5.rel (fun b hb => ?_) (fun b h1 h2 => .inr ⟨by rw [g1] at h2; exact h2,h1⟩) 3 _ _ h2⟩,by have:=k5.rel.below; rw [g1] at this; exact this⟩
      obtain ⟨l1,l2⟩:=k5.rel.imm2 b hb
      rw [g2,g1] at l2
      rcases l2 with l2 | l2
      ·exact .inl l2
      ·exact .inr ⟨l2,l1⟩
     ·exact h.elim
    cases e with
    | normal => exact fin .normal (.inl rfl) k1
    | ret => exact fin .ret (.inr rfl) k1
    | exit j => exact k1.elim
theorem ConOK.of {G:Ctx} {H:Hots} (hG:CtxOK P G) {f:FuncId} {fn:Func} (hf:P.funcs[f]? = some fn) {c:Con} (h:∀ ars ob r,c ars = some (ob,r)→(∀ p ∈ ob,p)→funcOK P H fn ars.length = true∧fnVC P G H fn ars (· = r)):ConOK P f c:=by
 intro ars ob r hc hob I w vs hI hRs
 obtain ⟨h1,h2⟩:=h ars ob r hc hob
 obtain ⟨k1,k2⟩:=fn_sound hG hf h1 h2 I w vs hI hRs
 refine .inr ⟨k1,k2.mono fun e w' ⟨v,he,⟨r',hr,hR⟩,hb⟩ => ⟨v,he,?_,hb⟩⟩
 subst hr
 exact hR
end
end Go.Ax
end
section
set_option maxRecDepth 100000
namespace Go.Proofs
open Tryz
open Go.Ax
theorem ty1:layT prog 1 = some (false,1) ∧ sizeT prog 1 = 1 ∧ (prog.info? 1).isSome = true ∧ zeroT prog 1 = some (.nilFunc) ∧ concreteT prog 1 = true:=⟨by kernel_rfl,by kernel_rfl,by kernel_rfl,by kernel_rfl,by kernel_rfl⟩
theorem ty2:layT prog 2 = some (false,1) ∧ sizeT prog 2 = 1 ∧ (prog.info? 2).isSome = true ∧ zeroT prog 2 = some (.int .i64 0) ∧ concreteT prog 2 = true:=⟨by kernel_rfl,by kernel_rfl,by kernel_rfl,by kernel_rfl,by kernel_rfl⟩
theorem ty3:layT prog 3 = some (false,1) ∧ sizeT prog 3 = 1 ∧ (prog.info? 3).isSome = true ∧ zeroT prog 3 = some (.int .i64 0) ∧ concreteT prog 3 = true:=⟨by kernel_rfl,by kernel_rfl,by kernel_rfl,by kernel_rfl,by kernel_rfl⟩
theorem ty4:layT prog 4 = some (false,1) ∧ sizeT prog 4 = 1 ∧ (prog.info? 4).isSome = true ∧ zeroT prog 4 = some (.bool false) ∧ concreteT prog 4 = true:=⟨by kernel_rfl,by kernel_rfl,by kernel_rfl,by kernel_rfl,by kernel_rfl⟩
theorem ty5:layT prog 5 = some (false,1) ∧ sizeT prog 5 = 1 ∧ (prog.info? 5).isSome = true ∧ zeroT prog 5 = some (.int .u8 0) ∧ concreteT prog 5 = true:=⟨by kernel_rfl,by kernel_rfl,by kernel_rfl,by kernel_rfl,by kernel_rfl⟩
theorem ty6:layT prog 6 = some (false,1) ∧ sizeT prog 6 = 1 ∧ (prog.info? 6).isSome = true ∧ zeroT prog 6 = some (.int .u8 0) ∧ concreteT prog 6 = true:=⟨by kernel_rfl,by kernel_rfl,by kernel_rfl,by kernel_rfl,by kernel_rfl⟩
theorem ty7:layT prog 7 = some (true,4) ∧ sizeT prog 7 = 4 ∧ (prog.info? 7).isSome = true ∧ zeroT prog 7 = some (.agg #[.int .i64 0,.int .i64 0,.bool false,.int .u8 0]) ∧ concreteT prog 7 = true ∧ fOff prog 7 0 = some 0 ∧ fTy prog 7 0 = some 2 ∧ fOff prog 7 1 = some 1 ∧ fTy prog 7 1 = some 3 ∧ fOff prog 7 2 = some 2 ∧ fTy prog 7 2 = some 4 ∧ fOff prog 7 3 = some 3 ∧ fTy prog 7 3 = some 6 ∧ bPlaces prog 7 = some [(0,1),(1,1),(2,1),(3,1)]:=⟨by kernel_rfl,by kernel_rfl,by kernel_rfl,by kernel_rfl,by kernel_rfl,by kernel_rfl,by kernel_rfl,by kernel_rfl,by kernel_rfl,by kernel_rfl,by kernel_rfl,by kernel_rfl,by kernel_rfl,by kernel_rfl⟩
theorem ty8:layT prog 8 = some (true,4) ∧ sizeT prog 8 = 4 ∧ (prog.info? 8).isSome = true ∧ zeroT prog 8 = some (.agg #[.int .i64 0,.int .i64 0,.bool false,.int .u8 0]) ∧ concreteT prog 8 = true ∧ fOff prog 8 0 = some 0 ∧ fTy prog 8 0 = some 2 ∧ fOff prog 8 1 = some 1 ∧ fTy prog 8 1 = some 3 ∧ fOff prog 8 2 = some 2 ∧ fTy prog 8 2 = some 4 ∧ fOff prog 8 3 = some 3 ∧ fTy prog 8 3 = some 6 ∧ bPlaces prog 8 = some [(0,1),(1,1),(2,1),(3,1)]:=⟨by kernel_rfl,by kernel_rfl,by kernel_rfl,by kernel_rfl,by kernel_rfl,by kernel_rfl,by kernel_rfl,by kernel_rfl,by kernel_rfl,by kernel_rfl,by kernel_rfl,by kernel_rfl,by kernel_rfl,by kernel_rfl⟩
theorem ty9:layT prog 9 = some (false,1) ∧ sizeT prog 9 = 1 ∧ (prog.info? 9).isSome = true ∧ zeroT prog 9 = some (.string ⟨#[]⟩) ∧ concreteT prog 9 = true:=⟨by kernel_rfl,by kernel_rfl,by kernel_rfl,by kernel_rfl,by kernel_rfl⟩
theorem ty20:layT prog 20 = some (false,1) ∧ sizeT prog 20 = 1 ∧ (prog.info? 20).isSome = true ∧ zeroT prog 20 = some (.nilIface) ∧ concreteT prog 20 = false:=⟨by kernel_rfl,by kernel_rfl,by kernel_rfl,by kernel_rfl,by kernel_rfl⟩
theorem ty22:layT prog 22 = some (false,1) ∧ sizeT prog 22 = 1 ∧ (prog.info? 22).isSome = true ∧ zeroT prog 22 = some (.slice none 0 0) ∧ concreteT prog 22 = true ∧ sElem prog 22 = some 57:=⟨by kernel_rfl,by kernel_rfl,by kernel_rfl,by kernel_rfl,by kernel_rfl,by kernel_rfl⟩
theorem ty24:layT prog 24 = some (true,2) ∧ sizeT prog 24 = 2 ∧ (prog.info? 24).isSome = true ∧ zeroT prog 24 = some (.agg #[.int .i64 0,.bool false]) ∧ concreteT prog 24 = true ∧ fOff prog 24 0 = some 0 ∧ fTy prog 24 0 = some 2 ∧ fOff prog 24 1 = some 1 ∧ fTy prog 24 1 = some 4 ∧ bPlaces prog 24 = some [(0,1),(1,1)]:=⟨by kernel_rfl,by kernel_rfl,by kernel_rfl,by kernel_rfl,by kernel_rfl,by kernel_rfl,by kernel_rfl,by kernel_rfl,by kernel_rfl,by kernel_rfl⟩
theorem ty26:layT prog 26 = some (true,4) ∧ sizeT prog 26 = 4 ∧ (prog.info? 26).isSome = true ∧ zeroT prog 26 = some (.agg #[.int .i64 0,.bool false,.int .i64 0,.bool false]) ∧ concreteT prog 26 = true ∧ fOff prog 26 0 = some 0 ∧ fTy prog 26 0 = some 24 ∧ fOff prog 26 1 = some 2 ∧ fTy prog 26 1 = some 24 ∧ bPlaces prog 26 = some [(0,2),(2,2)]:=⟨by kernel_rfl,by kernel_rfl,by kernel_rfl,by kernel_rfl,by kernel_rfl,by kernel_rfl,by kernel_rfl,by kernel_rfl,by kernel_rfl,by kernel_rfl⟩
theorem ty27:layT prog 27 = some (false,1) ∧ sizeT prog 27 = 1 ∧ (prog.info? 27).isSome = true ∧ zeroT prog 27 = some (.slice none 0 0) ∧ concreteT prog 27 = true ∧ sElem prog 27 = some 69:=⟨by kernel_rfl,by kernel_rfl,by kernel_rfl,by kernel_rfl,by kernel_rfl,by kernel_rfl⟩
theorem ty29:layT prog 29 = some (true,5) ∧ sizeT prog 29 = 5 ∧ (prog.info? 29).isSome = true ∧ zeroT prog 29 = some (.agg #[.int .i64 0,.bool false,.int .i64 0,.bool false,.slice none 0 0]) ∧ concreteT prog 29 = true ∧ fOff prog 29 0 = some 0 ∧ fTy prog 29 0 = some 26 ∧ fOff prog 29 1 = some 4 ∧ fTy prog 29 1 = some 27 ∧ bPlaces prog 29 = some [(0,4),(4,1)]:=⟨by kernel_rfl,by kernel_rfl,by kernel_rfl,by kernel_rfl,by kernel_rfl,by kernel_rfl,by kernel_rfl,by kernel_rfl,by kernel_rfl,by kernel_rfl⟩
theorem ty30:layT prog 30 = some (true,4) ∧ sizeT prog 30 = 4 ∧ (prog.info? 30).isSome = true ∧ zeroT prog 30 = some (.agg #[.int .i64 0,.bool false,.int .i64 0,.bool false]) ∧ concreteT prog 30 = true ∧ bPlaces prog 30 = some [(0,2),(2,2)] ∧ aElem prog 30 = some (2,24):=⟨by kernel_rfl,by kernel_rfl,by kernel_rfl,by kernel_rfl,by kernel_rfl,by kernel_rfl,by kernel_rfl⟩
theorem ty32:layT prog 32 = some (true,15) ∧ sizeT prog 32 = 15 ∧ (prog.info? 32).isSome = true ∧ zeroT prog 32 = some (.agg #[.int .i64 0,.int .i64 0,.int .i64 0,.bool false,.int .i64 0,.bool false,.slice none 0 0,.int .i64 0,.bool false,.int .i64 0,.bool false,.int .i64 0,.bool false,.int .i64 0,.bool false]) ∧ concreteT prog 32 = true ∧ fOff prog 32 0 = some 0 ∧ fTy prog 32 0 = some 3 ∧ fOff prog 32 1 = some 1 ∧ fTy prog 32 1 = some 3 ∧ fOff prog 32 2 = some 2 ∧ fTy prog 32 2 = some 29 ∧ fOff prog 32 3 = some 7 ∧ fTy prog 32 3 = some 30 ∧ fOff prog 32 4 = some 11 ∧ fTy prog 32 4 = some 30 ∧ bPlaces prog 32 = some [(0,1),(1,1),(2,5),(7,4),(11,4)]:=⟨by kernel_rfl,by kernel_rfl,by kernel_rfl,by kernel_rfl,by kernel_rfl,by kernel_rfl,by kernel_rfl,by kernel_rfl,by kernel_rfl,by kernel_rfl,by kernel_rfl,by kernel_rfl,by kernel_rfl,by kernel_rfl,by kernel_rfl,by kernel_rfl⟩
theorem ty44:layT prog 44 = some (true,6) ∧ sizeT prog 44 = 6 ∧ (prog.info? 44).isSome = true ∧ zeroT prog 44 = some (.agg #[.int .i64 0,.int .i64 0,.int .i64 0,.int .i64 0,.int .i64 0,.int .i64 0]) ∧ concreteT prog 44 = true ∧ fOff prog 44 0 = some 0 ∧ fTy prog 44 0 = some 3 ∧ fOff prog 44 1 = some 1 ∧ fTy prog 44 1 = some 3 ∧ fOff prog 44 2 = some 2 ∧ fTy prog 44 2 = some 3 ∧ fOff prog 44 3 = some 3 ∧ fTy prog 44 3 = some 2 ∧ fOff prog 44 4 = some 4 ∧ fTy prog 44 4 = some 2 ∧ fOff prog 44 5 = some 5 ∧ fTy prog 44 5 = some 2 ∧ bPlaces prog 44 = some [(0,1),(1,1),(2,1),(3,1),(4,1),(5,1)]:=⟨by kernel_rfl,by kernel_rfl,by kernel_rfl,by kernel_rfl,by kernel_rfl,by kernel_rfl,by kernel_rfl,by kernel_rfl,by kernel_rfl,by kernel_rfl,by kernel_rfl,by kernel_rfl,by kernel_rfl,by kernel_rfl,by kernel_rfl,by kernel_rfl,by kernel_rfl,by kernel_rfl⟩
theorem ty46:layT prog 46 = some (true,11) ∧ sizeT prog 46 = 11 ∧ (prog.info? 46).isSome = true ∧ zeroT prog 46 = some (.agg #[.int .i64 0,.int .i64 0,.int .i64 0,.int .i64 0,.int .i64 0,.int .i64 0,.int .i64 0,.int .i64 0,.int .i64 0,.int .i64 0,.int .i64 0]) ∧ concreteT prog 46 = true ∧ fOff prog 46 0 = some 0 ∧ fTy prog 46 0 = some 44 ∧ fOff prog 46 1 = some 6 ∧ fTy prog 46 1 = some 2 ∧ fOff prog 46 2 = some 7 ∧ fTy prog 46 2 = some 2 ∧ fOff prog 46 3 = some 8 ∧ fTy prog 46 3 = some 2 ∧ fOff prog 46 4 = some 9 ∧ fTy prog 46 4 = some 3 ∧ fOff prog 46 5 = some 10 ∧ fTy prog 46 5 = some 3 ∧ bPlaces prog 46 = some [(0,6),(6,1),(7,1),(8,1),(9,1),(10,1)]:=⟨by kernel_rfl,by kernel_rfl,by kernel_rfl,by kernel_rfl,by kernel_rfl,by kernel_rfl,by kernel_rfl,by kernel_rfl,by kernel_rfl,by kernel_rfl,by kernel_rfl,by kernel_rfl,by kernel_rfl,by kernel_rfl,by kernel_rfl,by kernel_rfl,by kernel_rfl,by kernel_rfl⟩
theorem ty47:layT prog 47 = some (false,1) ∧ sizeT prog 47 = 1 ∧ (prog.info? 47).isSome = true ∧ zeroT prog 47 = some (.slice none 0 0) ∧ concreteT prog 47 = true ∧ sElem prog 47 = some 101:=⟨by kernel_rfl,by kernel_rfl,by kernel_rfl,by kernel_rfl,by kernel_rfl,by kernel_rfl⟩
theorem ty49:layT prog 49 = some (true,5) ∧ sizeT prog 49 = 5 ∧ (prog.info? 49).isSome = true ∧ zeroT prog 49 = some (.agg #[.int .i64 0,.int .i64 0,.int .i64 0,.int .i64 0,.slice none 0 0]) ∧ concreteT prog 49 = true ∧ fOff prog 49 0 = some 0 ∧ fTy prog 49 0 = some 3 ∧ fOff prog 49 1 = some 1 ∧ fTy prog 49 1 = some 2 ∧ fOff prog 49 2 = some 2 ∧ fTy prog 49 2 = some 2 ∧ fOff prog 49 3 = some 3 ∧ fTy prog 49 3 = some 2 ∧ fOff prog 49 4 = some 4 ∧ fTy prog 49 4 = some 47 ∧ bPlaces prog 49 = some [(0,1),(1,1),(2,1),(3,1),(4,1)]:=⟨by kernel_rfl,by kernel_rfl,by kernel_rfl,by kernel_rfl,by kernel_rfl,by kernel_rfl,by kernel_rfl,by kernel_rfl,by kernel_rfl,by kernel_rfl,by kernel_rfl,by kernel_rfl,by kernel_rfl,by kernel_rfl,by kernel_rfl,by kernel_rfl⟩
theorem ty51:layT prog 51 = some (true,4) ∧ sizeT prog 51 = 4 ∧ (prog.info? 51).isSome = true ∧ zeroT prog 51 = some (.agg #[.int .i64 0,.bool false,.int .i64 0,.bool false]) ∧ concreteT prog 51 = true ∧ fOff prog 51 0 = some 0 ∧ fTy prog 51 0 = some 24 ∧ fOff prog 51 1 = some 2 ∧ fTy prog 51 1 = some 24 ∧ bPlaces prog 51 = some [(0,2),(2,2)]:=⟨by kernel_rfl,by kernel_rfl,by kernel_rfl,by kernel_rfl,by kernel_rfl,by kernel_rfl,by kernel_rfl,by kernel_rfl,by kernel_rfl,by kernel_rfl⟩
theorem ty53:layT prog 53 = some (true,8) ∧ sizeT prog 53 = 8 ∧ (prog.info? 53).isSome = true ∧ zeroT prog 53 = some (.agg #[.int .i64 0,.bool false,.int .i64 0,.bool false,.int .i64 0,.bool false,.int .i64 0,.bool false]) ∧ concreteT prog 53 = true ∧ fOff prog 53 0 = some 0 ∧ fTy prog 53 0 = some 26 ∧ fOff prog 53 1 = some 4 ∧ fTy prog 53 1 = some 51 ∧ bPlaces prog 53 = some [(0,4),(4,4)]:=⟨by kernel_rfl,by kernel_rfl,by kernel_rfl,by kernel_rfl,by kernel_rfl,by kernel_rfl,by kernel_rfl,by kernel_rfl,by kernel_rfl,by kernel_rfl⟩
theorem ty55:layT prog 55 = some (true,4) ∧ sizeT prog 55 = 4 ∧ (prog.info? 55).isSome = true ∧ zeroT prog 55 = some (.agg #[.int .i64 0,.bool false,.int .i64 0,.bool false]) ∧ concreteT prog 55 = true ∧ fOff prog 55 0 = some 0 ∧ fTy prog 55 0 = some 24 ∧ fOff prog 55 1 = some 2 ∧ fTy prog 55 1 = some 24 ∧ bPlaces prog 55 = some [(0,2),(2,2)]:=⟨by kernel_rfl,by kernel_rfl,by kernel_rfl,by kernel_rfl,by kernel_rfl,by kernel_rfl,by kernel_rfl,by kernel_rfl,by kernel_rfl,by kernel_rfl⟩
theorem ty57:layT prog 57 = some (true,27) ∧ sizeT prog 57 = 27 ∧ (prog.info? 57).isSome = true ∧ zeroT prog 57 = some (.agg #[.int .i64 0,.int .i64 0,.int .i64 0,.int .i64 0,.slice none 0 0,.int .i64 0,.bool false,.int .i64 0,.bool false,.int .i64 0,.bool false,.int .i64 0,.bool false,.int .i64 0,.bool false,.int .i64 0,.bool false,.int .i64 0,.bool false,.int .i64 0,.bool false,.int .i64 0,.bool false,.int .i64 0,.bool false,.bool false,.int .i64 0]) ∧ concreteT prog 57 = true ∧ fOff prog 57 0 = some 0 ∧ fTy prog 57 0 = some 49 ∧ fOff prog 57 1 = some 5 ∧ fTy prog 57 1 = some 53 ∧ fOff prog 57 2 = some 13 ∧ fTy prog 57 2 = some 26 ∧ fOff prog 57 3 = some 17 ∧ fTy prog 57 3 = some 24 ∧ fOff prog 57 4 = some 19 ∧ fTy prog 57 4 = some 55 ∧ fOff prog 57 5 = some 23 ∧ fTy prog 57 5 = some 3 ∧ fOff prog 57 6 = some 24 ∧ fTy prog 57 6 = some 4 ∧ fOff prog 57 7 = some 25 ∧ fTy prog 57 7 = some 4 ∧ fOff prog 57 8 = some 26 ∧ fTy prog 57 8 = some 2 ∧ bPlaces prog 57 = some [(0,5),(5,8),(13,4),(17,2),(19,4),(23,1),(24,1),(25,1),(26,1)]:=⟨by kernel_rfl,by kernel_rfl,by kernel_rfl,by kernel_rfl,by kernel_rfl,by kernel_rfl,by kernel_rfl,by kernel_rfl,by kernel_rfl,by kernel_rfl,by kernel_rfl,by kernel_rfl,by kernel_rfl,by kernel_rfl,by kernel_rfl,by kernel_rfl,by kernel_rfl,by kernel_rfl,by kernel_rfl,by kernel_rfl,by kernel_rfl,by kernel_rfl,by kernel_rfl,by kernel_rfl⟩
theorem ty65:layT prog 65 = some (false,1) ∧ sizeT prog 65 = 1 ∧ (prog.info? 65).isSome = true ∧ zeroT prog 65 = some (.nilFunc) ∧ concreteT prog 65 = true:=⟨by kernel_rfl,by kernel_rfl,by kernel_rfl,by kernel_rfl,by kernel_rfl⟩
theorem ty69:layT prog 69 = some (true,6) ∧ sizeT prog 69 = 6 ∧ (prog.info? 69).isSome = true ∧ zeroT prog 69 = some (.agg #[.int .i64 0,.bool false,.int .i64 0,.bool false,.int .i64 0,.bool false]) ∧ concreteT prog 69 = true ∧ fOff prog 69 0 = some 0 ∧ fTy prog 69 0 = some 26 ∧ fOff prog 69 1 = some 4 ∧ fTy prog 69 1 = some 24 ∧ bPlaces prog 69 = some [(0,4),(4,2)]:=⟨by kernel_rfl,by kernel_rfl,by kernel_rfl,by kernel_rfl,by kernel_rfl,by kernel_rfl,by kernel_rfl,by kernel_rfl,by kernel_rfl,by kernel_rfl⟩
theorem ty83:layT prog 83 = some (true,13) ∧ sizeT prog 83 = 13 ∧ (prog.info? 83).isSome = true ∧ zeroT prog 83 = some (.agg #[.int .i64 0,.int .i64 0,.int .i64 0,.int .i64 0,.bool false,.int .i64 0,.bool false,.int .i64 0,.bool false,.int .i64 0,.bool false,.int .i64 0,.bool false]) ∧ concreteT prog 83 = true ∧ fOff prog 83 0 = some 0 ∧ fTy prog 83 0 = some 3 ∧ fOff prog 83 1 = some 1 ∧ fTy prog 83 1 = some 3 ∧ fOff prog 83 2 = some 2 ∧ fTy prog 83 2 = some 3 ∧ fOff prog 83 3 = some 3 ∧ fTy prog 83 3 = some 26 ∧ fOff prog 83 4 = some 7 ∧ fTy prog 83 4 = some 26 ∧ fOff prog 83 5 = some 11 ∧ fTy prog 83 5 = some 24 ∧ bPlaces prog 83 = some [(0,1),(1,1),(2,1),(3,4),(7,4),(11,2)]:=⟨by kernel_rfl,by kernel_rfl,by kernel_rfl,by kernel_rfl,by kernel_rfl,by kernel_rfl,by kernel_rfl,by kernel_rfl,by kernel_rfl,by kernel_rfl,by kernel_rfl,by kernel_rfl,by kernel_rfl,by kernel_rfl,by kernel_rfl,by kernel_rfl,by kernel_rfl,by kernel_rfl⟩
theorem ty85:layT prog 85 = some (false,1) ∧ sizeT prog 85 = 1 ∧ (prog.info? 85).isSome = true ∧ zeroT prog 85 = some (.int .i64 0) ∧ concreteT prog 85 = true:=⟨by kernel_rfl,by kernel_rfl,by kernel_rfl,by kernel_rfl,by kernel_rfl⟩
theorem ty89:layT prog 89 = some (false,1) ∧ sizeT prog 89 = 1 ∧ (prog.info? 89).isSome = true ∧ zeroT prog 89 = some (.nilFunc) ∧ concreteT prog 89 = true:=⟨by kernel_rfl,by kernel_rfl,by kernel_rfl,by kernel_rfl,by kernel_rfl⟩
theorem ty101:layT prog 101 = some (true,2) ∧ sizeT prog 101 = 2 ∧ (prog.info? 101).isSome = true ∧ zeroT prog 101 = some (.agg #[.int .i64 0,.int .i64 0]) ∧ concreteT prog 101 = true ∧ fOff prog 101 0 = some 0 ∧ fTy prog 101 0 = some 2 ∧ fOff prog 101 1 = some 1 ∧ fTy prog 101 1 = some 2 ∧ bPlaces prog 101 = some [(0,1),(1,1)]:=⟨by kernel_rfl,by kernel_rfl,by kernel_rfl,by kernel_rfl,by kernel_rfl,by kernel_rfl,by kernel_rfl,by kernel_rfl,by kernel_rfl,by kernel_rfl⟩
theorem ty103:layT prog 103 = some (true,5) ∧ sizeT prog 103 = 5 ∧ (prog.info? 103).isSome = true ∧ zeroT prog 103 = some (.agg #[.int .i64 0,.int .i64 0,.int .i64 0,.int .i64 0,.slice none 0 0]) ∧ concreteT prog 103 = true ∧ fOff prog 103 0 = some 0 ∧ fTy prog 103 0 = some 3 ∧ fOff prog 103 1 = some 1 ∧ fTy prog 103 1 = some 101 ∧ fOff prog 103 2 = some 3 ∧ fTy prog 103 2 = some 2 ∧ fOff prog 103 3 = some 4 ∧ fTy prog 103 3 = some 47 ∧ bPlaces prog 103 = some [(0,1),(1,2),(3,1),(4,1)]:=⟨by kernel_rfl,by kernel_rfl,by kernel_rfl,by kernel_rfl,by kernel_rfl,by kernel_rfl,by kernel_rfl,by kernel_rfl,by kernel_rfl,by kernel_rfl,by kernel_rfl,by kernel_rfl,by kernel_rfl,by kernel_rfl⟩
theorem ty108:layT prog 108 = some (true,4) ∧ sizeT prog 108 = 4 ∧ (prog.info? 108).isSome = true ∧ zeroT prog 108 = some (.agg #[.int .i64 0,.int .i64 0,.int .i64 0,.int .i64 0]) ∧ concreteT prog 108 = true ∧ fOff prog 108 0 = some 0 ∧ fTy prog 108 0 = some 2 ∧ fOff prog 108 1 = some 1 ∧ fTy prog 108 1 = some 2 ∧ fOff prog 108 2 = some 2 ∧ fTy prog 108 2 = some 2 ∧ fOff prog 108 3 = some 3 ∧ fTy prog 108 3 = some 2 ∧ bPlaces prog 108 = some [(0,1),(1,1),(2,1),(3,1)]:=⟨by kernel_rfl,by kernel_rfl,by kernel_rfl,by kernel_rfl,by kernel_rfl,by kernel_rfl,by kernel_rfl,by kernel_rfl,by kernel_rfl,by kernel_rfl,by kernel_rfl,by kernel_rfl,by kernel_rfl,by kernel_rfl⟩
theorem ty114:layT prog 114 = some (false,1) ∧ sizeT prog 114 = 1 ∧ (prog.info? 114).isSome = true ∧ zeroT prog 114 = some (.slice none 0 0) ∧ concreteT prog 114 = true ∧ sElem prog 114 = some 151:=⟨by kernel_rfl,by kernel_rfl,by kernel_rfl,by kernel_rfl,by kernel_rfl,by kernel_rfl⟩
theorem ty125:layT prog 125 = some (false,1) ∧ sizeT prog 125 = 1 ∧ (prog.info? 125).isSome = true ∧ zeroT prog 125 = some (.pointer none) ∧ concreteT prog 125 = true:=⟨by kernel_rfl,by kernel_rfl,by kernel_rfl,by kernel_rfl,by kernel_rfl⟩
theorem ty138:layT prog 138 = some (false,1) ∧ sizeT prog 138 = 1 ∧ (prog.info? 138).isSome = true ∧ zeroT prog 138 = some (.int .u64 0) ∧ concreteT prog 138 = true:=⟨by kernel_rfl,by kernel_rfl,by kernel_rfl,by kernel_rfl,by kernel_rfl⟩
theorem ty140:layT prog 140 = some (true,3) ∧ sizeT prog 140 = 3 ∧ (prog.info? 140).isSome = true ∧ zeroT prog 140 = some (.agg #[.bool false,.int .u64 0,.int .u64 0]) ∧ concreteT prog 140 = true ∧ fOff prog 140 0 = some 0 ∧ fTy prog 140 0 = some 4 ∧ fOff prog 140 1 = some 1 ∧ fTy prog 140 1 = some 138 ∧ fOff prog 140 2 = some 2 ∧ fTy prog 140 2 = some 138 ∧ bPlaces prog 140 = some [(0,1),(1,1),(2,1)]:=⟨by kernel_rfl,by kernel_rfl,by kernel_rfl,by kernel_rfl,by kernel_rfl,by kernel_rfl,by kernel_rfl,by kernel_rfl,by kernel_rfl,by kernel_rfl,by kernel_rfl,by kernel_rfl⟩
theorem ty151:layT prog 151 = some (false,1) ∧ sizeT prog 151 = 1 ∧ (prog.info? 151).isSome = true ∧ zeroT prog 151 = some (.pointer none) ∧ concreteT prog 151 = true:=⟨by kernel_rfl,by kernel_rfl,by kernel_rfl,by kernel_rfl,by kernel_rfl⟩
theorem ty155:layT prog 155 = some (true,27) ∧ sizeT prog 155 = 27 ∧ (prog.info? 155).isSome = true ∧ zeroT prog 155 = some (.agg #[.int .i64 0,.int .i64 0,.int .i64 0,.int .i64 0,.slice none 0 0,.int .i64 0,.bool false,.int .i64 0,.bool false,.int .i64 0,.bool false,.int .i64 0,.bool false,.int .i64 0,.bool false,.int .i64 0,.bool false,.int .i64 0,.bool false,.int .i64 0,.bool false,.int .i64 0,.bool false,.int .i64 0,.bool false,.bool false,.int .i64 0]) ∧ concreteT prog 155 = true ∧ fOff prog 155 0 = some 0 ∧ fTy prog 155 0 = some 57 ∧ bPlaces prog 155 = some [(0,27)]:=⟨by kernel_rfl,by kernel_rfl,by kernel_rfl,by kernel_rfl,by kernel_rfl,by kernel_rfl,by kernel_rfl,by kernel_rfl⟩
theorem ty171:layT prog 171 = some (false,1) ∧ sizeT prog 171 = 1 ∧ (prog.info? 171).isSome = true ∧ zeroT prog 171 = some (.int .u64 0) ∧ concreteT prog 171 = true:=⟨by kernel_rfl,by kernel_rfl,by kernel_rfl,by kernel_rfl,by kernel_rfl⟩
theorem ty178:layT prog 178 = some (false,1) ∧ sizeT prog 178 = 1 ∧ (prog.info? 178).isSome = true ∧ zeroT prog 178 = some (.slice none 0 0) ∧ concreteT prog 178 = true ∧ sElem prog 178 = some 24:=⟨by kernel_rfl,by kernel_rfl,by kernel_rfl,by kernel_rfl,by kernel_rfl,by kernel_rfl⟩
theorem ty180:layT prog 180 = some (false,1) ∧ sizeT prog 180 = 1 ∧ (prog.info? 180).isSome = true ∧ zeroT prog 180 = some (.slice none 0 0) ∧ concreteT prog 180 = true ∧ sElem prog 180 = some 26:=⟨by kernel_rfl,by kernel_rfl,by kernel_rfl,by kernel_rfl,by kernel_rfl,by kernel_rfl⟩
theorem ty193:layT prog 193 = some (false,1) ∧ sizeT prog 193 = 1 ∧ (prog.info? 193).isSome = true ∧ zeroT prog 193 = some (.pointer none) ∧ concreteT prog 193 = true:=⟨by kernel_rfl,by kernel_rfl,by kernel_rfl,by kernel_rfl,by kernel_rfl⟩
theorem ty194:layT prog 194 = some (false,1) ∧ sizeT prog 194 = 1 ∧ (prog.info? 194).isSome = true ∧ zeroT prog 194 = some (.pointer none) ∧ concreteT prog 194 = true:=⟨by kernel_rfl,by kernel_rfl,by kernel_rfl,by kernel_rfl,by kernel_rfl⟩
theorem ty196:layT prog 196 = some (true,2) ∧ sizeT prog 196 = 2 ∧ (prog.info? 196).isSome = true ∧ zeroT prog 196 = some (.agg #[.int .u64 0,.int .u64 0]) ∧ concreteT prog 196 = true ∧ bPlaces prog 196 = some [(0,1),(1,1)] ∧ aElem prog 196 = some (2,138):=⟨by kernel_rfl,by kernel_rfl,by kernel_rfl,by kernel_rfl,by kernel_rfl,by kernel_rfl,by kernel_rfl⟩
theorem ty198:layT prog 198 = some (true,3) ∧ sizeT prog 198 = 3 ∧ (prog.info? 198).isSome = true ∧ zeroT prog 198 = some (.agg #[.bool false,.int .u64 0,.int .u64 0]) ∧ concreteT prog 198 = true ∧ fOff prog 198 0 = some 0 ∧ fTy prog 198 0 = some 4 ∧ fOff prog 198 1 = some 1 ∧ fTy prog 198 1 = some 196 ∧ bPlaces prog 198 = some [(0,1),(1,2)]:=⟨by kernel_rfl,by kernel_rfl,by kernel_rfl,by kernel_rfl,by kernel_rfl,by kernel_rfl,by kernel_rfl,by kernel_rfl,by kernel_rfl,by kernel_rfl⟩
theorem ty210:layT prog 210 = some (false,1) ∧ sizeT prog 210 = 1 ∧ (prog.info? 210).isSome = true ∧ zeroT prog 210 = some (.nilFunc) ∧ concreteT prog 210 = true:=⟨by kernel_rfl,by kernel_rfl,by kernel_rfl,by kernel_rfl,by kernel_rfl⟩
theorem ty211:layT prog 211 = some (true,4) ∧ sizeT prog 211 = 4 ∧ (prog.info? 211).isSome = true ∧ zeroT prog 211 = some (.agg #[.nilFunc,.nilFunc,.nilFunc,.nilFunc]) ∧ concreteT prog 211 = true ∧ bPlaces prog 211 = some [(0,1),(1,1),(2,1),(3,1)] ∧ aElem prog 211 = some (4,210):=⟨by kernel_rfl,by kernel_rfl,by kernel_rfl,by kernel_rfl,by kernel_rfl,by kernel_rfl,by kernel_rfl⟩
theorem ty232:layT prog 232 = some (true,5) ∧ sizeT prog 232 = 5 ∧ (prog.info? 232).isSome = true ∧ zeroT prog 232 = some (.agg #[.bool false,.int .i64 0,.int .i64 0,.int .i64 0,.bool false]) ∧ concreteT prog 232 = true ∧ fOff prog 232 0 = some 0 ∧ fTy prog 232 0 = some 4 ∧ fOff prog 232 1 = some 1 ∧ fTy prog 232 1 = some 3 ∧ fOff prog 232 2 = some 2 ∧ fTy prog 232 2 = some 3 ∧ fOff prog 232 3 = some 3 ∧ fTy prog 232 3 = some 24 ∧ bPlaces prog 232 = some [(0,1),(1,1),(2,1),(3,2)]:=⟨by kernel_rfl,by kernel_rfl,by kernel_rfl,by kernel_rfl,by kernel_rfl,by kernel_rfl,by kernel_rfl,by kernel_rfl,by kernel_rfl,by kernel_rfl,by kernel_rfl,by kernel_rfl,by kernel_rfl,by kernel_rfl⟩
theorem ty236:layT prog 236 = some (false,1) ∧ sizeT prog 236 = 1 ∧ (prog.info? 236).isSome = true ∧ zeroT prog 236 = some (.slice none 0 0) ∧ concreteT prog 236 = true ∧ sElem prog 236 = some 2:=⟨by kernel_rfl,by kernel_rfl,by kernel_rfl,by kernel_rfl,by kernel_rfl,by kernel_rfl⟩
theorem ty242:layT prog 242 = some (false,1) ∧ sizeT prog 242 = 1 ∧ (prog.info? 242).isSome = true ∧ zeroT prog 242 = some (.nilIface) ∧ concreteT prog 242 = false:=⟨by kernel_rfl,by kernel_rfl,by kernel_rfl,by kernel_rfl,by kernel_rfl⟩
theorem ty244:layT prog 244 = some (true,6) ∧ sizeT prog 244 = 6 ∧ (prog.info? 244).isSome = true ∧ zeroT prog 244 = some (.agg #[.int .i64 0,.bool false,.int .i64 0,.bool false,.int .i64 0,.bool false]) ∧ concreteT prog 244 = true ∧ bPlaces prog 244 = some [(0,2),(2,2),(4,2)] ∧ aElem prog 244 = some (3,24):=⟨by kernel_rfl,by kernel_rfl,by kernel_rfl,by kernel_rfl,by kernel_rfl,by kernel_rfl,by kernel_rfl⟩
theorem ty287:layT prog 287 = some (false,1) ∧ sizeT prog 287 = 1 ∧ (prog.info? 287).isSome = true ∧ zeroT prog 287 = some (.slice none 0 0) ∧ concreteT prog 287 = true ∧ sElem prog 287 = some 3:=⟨by kernel_rfl,by kernel_rfl,by kernel_rfl,by kernel_rfl,by kernel_rfl,by kernel_rfl⟩
end Go.Proofs
end
section
namespace Go.Ax
section
variable {P:Program} {G:Ctx} {H:Hots} {c:Code} {s s':St} {K:AEx→St→Prop} {K1:St→Prop} {hot:Option Hot} {ops:Array Oper} {base:Nat} {rest:List Oper} {i i':Nat} {key key':Nat} {o:Oper} {t t':Slots} {m m':Mem}
def optB {α β:Type} (x:Option α) (k:α→β) (d:Unit→β):β:=match x with
 | some a => k a
 | none => d ()
def ifB {β:Type} (b:Bool) (x y:Unit→β):β:=match b with
 | true => x ()
 | false => y ()
def ifP {β:Type} (p:Prop) [Decidable p] (x y:Unit→β):β:=if p then x () else y ()
def tupK {β:Type} (a:AV) (k:List AV→β) (d:Unit→β):β:=match a with
 | .tup cs => k cs
 | _ => d ()
def fnK {β:Type} (a:AV) (k:FuncId→List AV→β) (d:Unit→β):β:=match a with
 | .fn f cs => k f cs
 | _ => d ()
def ifcK {β:Type} (a:AV) (k:TypeId→AV→β) (d:Unit→β):β:=match a with
 | .iface u y => k u y
 | _ => d ()
theorem stepE_free1 {d:Option Tmp} {op:Op} {ty:TypeId} {pos:String} {af:Array Edge}:stepE P G ops key ⟨d,op,ty,pos,af,none⟩ t m =
  optB (aStep P G key none ⟨d,op,ty,pos,af,none⟩ (opd t) m) (fun e => some ⟨owed ⟨d,op,ty,pos,af,none⟩ (opd t) ++ e.ob,e.val,e.u⟩) (fun _ => none):=by
 kernel_rfl
theorem stepE_guard1 {d:Option Tmp} {op:Op} {ty:TypeId} {pos:String} {af:Array Edge} {g:Nat×Bool}:stepE P G ops key ⟨d,op,ty,pos,af,some g⟩ t m =
  optB (guardOf ops (slot t) g) (fun b => optB (aStep P G key (some b) ⟨d,op,ty,pos,af,some g⟩ (opd t) m) (fun e => ifB e.u.mild (fun _ => some ⟨(owed ⟨d,op,ty,pos,af,some g⟩ (opd t) ++ e.ob).map (b = true→·),.cond b e.val,e.u⟩) (fun _ => none)) (fun _ => none)) (fun _ => none):=by
 kernel_rfl
section
variable {d:Option Tmp} {ty:TypeId} {pos:String} {af:Array Edge} {gd:Option (Nat×Bool)} {g:Option Bool} {ρ0:Operand→AV}
theorem aStep_move {x:Operand}:aStep P G key g ⟨d,.move x,ty,pos,af,gd⟩ ρ0 m = some ⟨[],strip (ρ0 x),.none⟩:=(rfl)
theorem aStep_assign {x:Operand}:aStep P G key g ⟨d,.assign x,ty,pos,af,gd⟩ ρ0 m = some ⟨[],strip (ρ0 x),.none⟩:=(rfl)
theorem aStep_pick {c a b:Operand}:aStep P G key g ⟨d,.pick c a b,ty,pos,af,gd⟩ ρ0 m = effOf2 (aPick ρ0 c a b):=rfl
theorem aPick_or {c y:Operand}:aPick ρ0 c (.const (.bool true)) y = optB (boolOf (strip (ρ0 c))) (fun t => optB (boolOf (strip (ρ0 y))) (fun q => some (needs [ρ0 c] ++ (needs [ρ0 y]).map (t = false→·),.v (.bool (t || q)))) (fun _ => none)) (fun _ => none):=by
 kernel_rfl
theorem aPick_and {c:Operand} {j:Nat}:aPick ρ0 c (.tmp j) (.const (.bool false)) = optB (boolOf (strip (ρ0 c))) (fun t => optB (boolOf (strip (ρ0 (.tmp j)))) (fun q => some (needs [ρ0 c] ++ (needs [ρ0 (.tmp j)]).map (t = true→·),.v (.bool (t && q)))) (fun _ => none)) (fun _ => none):=by
 kernel_rfl
theorem aLoad_bx {t:TypeId} {r k:Nat}:aLoad P t (.bx r k) m = optB (look m r) (fun fam => ifB (decide ((fam 0).n = 1)) (fun _ => optB (ofCells P t (((fam 0).get 0).drop k)) (fun a => some (gOb (fam 0).g [],a)) (fun _ => none)) (fun _ => none)) (fun _ => none):=by
 unfold aLoad optB ifB
 dsimp only
 cases look m r with
 | none => rfl
 | some fam =>
  dsimp only
  generalize (fam 0).n = q
  rcases q with _ | _ | q
  ·rfl
  ·kernel_rfl
  ·rfl
theorem aStep_store {t:TypeId} {p x:Operand}:aStep P G key g ⟨d,.store t p x,ty,pos,af,gd⟩ ρ0 m = aStore P t (strip (ρ0 p)) (strip (ρ0 x)) m:=rfl
theorem aStep_build {t:TypeId} {parts:Array (Nat×Operand)}:aStep P G key g ⟨d,.build t parts,ty,pos,af,gd⟩ ρ0 m = optB (zeroT P t) (fun z => optB (bPlaces P t) (fun pl => optB (fillA (fun i => pl[i]?) (z.cells.toList.map .v) (parts.toList.map fun q => (q.1,strip (ρ0 q.2)))) (fun cs => some ⟨[],.agg cs,.none⟩) (fun _ => none)) (fun _ => none)) (fun _ => none):=by
 show effOf (aBuild P _ t parts.toList) = _
 unfold aBuild optB effOf
 cases zeroT P t with
 | none => rfl
 | some z =>
  dsimp only
  cases bPlaces P t with
  | none => rfl
  | some pl =>
   dsimp only
   cases fillA (fun i => pl[i]?) (z.cells.toList.map .v) (parts.toList.map fun q => (q.1,strip (ρ0 q.2))) <;> rfl
theorem aStep_buildSlice {t:TypeId} {len:Nat} {parts:Array (Nat×Operand)}:aStep P G key g ⟨d,.buildSlice t len parts,ty,pos,af,gd⟩ ρ0 m =
  optB (sElem P t) (fun e => optB (zeroT P e) (fun z => ifP (len * sizeT P e≤16777216∧z.cells.size = sizeT P e) (fun _ => optB (fillA (fun i => some (i * sizeT P e,sizeT P e)) (zeros z len) (parts.toList.map fun q => (q.1,strip (ρ0 q.2))))
   (fun cs => if 13≤sizeT P e * (1 - (1 - ((key - 33) + (33 - key))))∧cs.all (clean 2) = true then some ⟨[],.ro len (sizeT P e) (rowsOf (sizeT P e) cs),.none⟩ else some ⟨[],.own key 0 len (sizeT P e),.new (fun f => if f = 0 then ⟨len,sizeT P e,e,rowsOf (sizeT P e) cs,g⟩ else ⟨0,sizeT P e,e,fun _ => [],g⟩)⟩) (fun _ => none)) (fun _ => none)) (fun _ => none)) (fun _ => none):=by
 kernel_rfl
def addrOff (off:Nat):AV→Option AV
 | .bx r k => some (.bx r (k + off))
 | .ptr r g i sz k => some (.ptr r g i sz (k + off))
 | .rop cs => some (.rop (cs.drop off))
 | _ => none
theorem aStep_fieldAddr {s:TypeId} {p:Operand} {f:Nat}:aStep P G key g ⟨d,.fieldAddr s p f,ty,pos,af,gd⟩ ρ0 m = optB (fOff P s f) (fun off => effOf (addrOff off (strip (ρ0 p)))) (fun _ => none):=by
 show effOf (aFieldAddr P s f _) = _
 unfold aFieldAddr optB
 cases fOff P s f with
 | none => rfl
 | some off => dsimp only; cases strip (ρ0 p) <;> rfl
theorem aStep_field {s:TypeId} {x:Operand} {f:Nat}:aStep P G key g ⟨d,.field s x f,ty,pos,af,gd⟩ ρ0 m = effOf (aField P s f (strip (ρ0 x))):=rfl
theorem aIndexAddr_ro {t:TypeId} {len sz:Nat} {get:Nat→List AV} {k:IntKind} {n:Int}:aIndexAddr P t (.ro len sz get) (.v (.int k n)) = optB (sElem P t) (fun e => ifP ((P.info? e).isSome = true∧sizeT P e = sz) (fun _ => some ([0≤n,n < (len:Int)],.rop (get n.toNat))) (fun _ => none)) (fun _ => none):=by
 kernel_rfl
theorem aIndexAddr_own {t:TypeId} {r f len sz:Nat} {k:IntKind} {n:Int}:aIndexAddr P t (.own r f len sz) (.v (.int k n)) = optB (sElem P t) (fun e => ifP ((P.info? e).isSome = true∧sizeT P e = sz) (fun _ => some ([0≤n,n < (len:Int)],.ptr r f n.toNat sz 0)) (fun _ => none)) (fun _ => none):=by
 kernel_rfl
theorem aIndexAddr_vw {t:TypeId} {r f lo len sz:Nat} {k:IntKind} {n:Int}:aIndexAddr P t (.vw r f lo len sz) (.v (.int k n)) = optB (sElem P t) (fun e => ifP ((P.info? e).isSome = true∧sizeT P e = sz) (fun _ => some ([0≤n,n < (len:Int)],.ptr r f (lo + n.toNat) sz 0)) (fun _ => none)) (fun _ => none):=by
 kernel_rfl
theorem aIndexAddr_bx {t:TypeId} {r q:Nat} {k:IntKind} {n:Int}:aIndexAddr P t (.bx r q) (.v (.int k n)) = optB (aElem P t) (fun le => ifP ((P.info? le.2).isSome = true) (fun _ => some ([0≤n,n < (le.1:Int)],.bx r (q + n.toNat * sizeT P le.2))) (fun _ => none)) (fun _ => none):=by
 kernel_rfl
theorem aIndexAddr_rop {t:TypeId} {cs:List AV} {k:IntKind} {n:Int}:aIndexAddr P t (.rop cs) (.v (.int k n)) = optB (aElem P t) (fun le => ifP ((P.info? le.2).isSome = true) (fun _ => some ([0≤n,n < (le.1:Int)],.rop (cs.drop (n.toNat * sizeT P le.2)))) (fun _ => none)) (fun _ => none):=by
 kernel_rfl
theorem aStep_makeFunc {f:FuncId} {cap:Array Operand}:aStep P G key g ⟨d,.makeFunc (.func f) #[] cap,ty,pos,af,gd⟩ ρ0 m = some ⟨[],.fn f (cap.toList.map fun x => strip (ρ0 x)),.none⟩:=rfl
theorem aStep_makeInterface {t:TypeId} {x:Operand}:aStep P G key g ⟨d,.makeInterface t x,ty,pos,af,gd⟩ ρ0 m = ifB (concreteT P t) (fun _ => some ⟨[],.iface t (strip (ρ0 x)),.none⟩) (fun _ => none):=by
 kernel_rfl
theorem aStep_extract {x:Operand} {i:Nat}:aStep P G key g ⟨d,.extract x i,ty,pos,af,gd⟩ ρ0 m = tupK (strip (ρ0 x)) (fun cs => effOf cs[i]?) (fun _ => effOf (aPure P (fun x => strip (ρ0 x)) ⟨d,.extract x i,ty,pos,af,gd⟩)):=by
 kernel_rfl
theorem aStep_nilCheck {x:Operand}:aStep P G key g ⟨d,.nilCheck x,ty,pos,af,gd⟩ ρ0 m = ifB (nonNil (strip (ρ0 x))) (fun _ => some ⟨[],strip (ρ0 x),.none⟩) (fun _ => effOf (aPure P (fun x => strip (ρ0 x)) ⟨d,.nilCheck x,ty,pos,af,gd⟩)):=by
 kernel_rfl
theorem aStep_assertOk {x:Operand} {it t:TypeId}:aStep P G key g ⟨d,.typeAssert x it t true,ty,pos,af,gd⟩ ρ0 m = ifcK (strip (ρ0 x)) (fun u y => ifB (concreteT P t) (fun _ => ifP (u = t) (fun _ => some ⟨[],.tup [y,.v (.bool true)],.none⟩) (fun _ => optB (zeroT P t) (fun z => some ⟨[],.tup [ofVal1 z,.v (.bool false)],.none⟩) (fun _ => none))) (fun _ => none)) (fun _ => effOf (aPure P (fun x => strip (ρ0 x)) ⟨d,.typeAssert x it t true,ty,pos,af,gd⟩)):=by
 kernel_rfl
theorem aStep_assert {x:Operand} {it t:TypeId}:aStep P G key g ⟨d,.typeAssert x it t false,ty,pos,af,gd⟩ ρ0 m = ifcK (strip (ρ0 x)) (fun u y => ifB (concreteT P t) (fun _ => ifP (u = t) (fun _ => some ⟨[],y,.none⟩) (fun _ => none)) (fun _ => none)) (fun _ => effOf (aPure P (fun x => strip (ρ0 x)) ⟨d,.typeAssert x it t false,ty,pos,af,gd⟩)):=by
 kernel_rfl
theorem aStep_eql {t u:TypeId} {x y:Operand}:aStep P G key g ⟨d,.binOp .eql t x y u,ty,pos,af,gd⟩ ρ0 m = optB (aEq P t (strip (ρ0 x)) (strip (ρ0 y))) (fun b => some ⟨[],.v (.bool b),.none⟩) (fun _ => effOf (aPure P (fun x => strip (ρ0 x)) ⟨d,.binOp .eql t x y u,ty,pos,af,gd⟩)):=by
 kernel_rfl
theorem aStep_neq {t u:TypeId} {x y:Operand}:aStep P G key g ⟨d,.binOp .neq t x y u,ty,pos,af,gd⟩ ρ0 m = optB (aEq P t (strip (ρ0 x)) (strip (ρ0 y))) (fun b => some ⟨[],.v (.bool (!b)),.none⟩) (fun _ => effOf (aPure P (fun x => strip (ρ0 x)) ⟨d,.binOp .neq t x y u,ty,pos,af,gd⟩)):=by
 kernel_rfl
theorem aStep_len {a:Operand} {t:TypeId}:aStep P G key g ⟨d,.call ⟨.builtin .len,#[a],#[t]⟩,ty,pos,af,gd⟩ ρ0 m = optB (lenA (strip (ρ0 a))) (fun n => optB (sElem P t) (fun _ => some ⟨[],.v (.int .i64 n),.none⟩) (fun _ => none)) (fun _ => effOf (aPure P (fun x => strip (ρ0 x)) ⟨d,.call ⟨.builtin .len,#[a],#[t]⟩,ty,pos,af,gd⟩)):=by
 kernel_rfl
theorem aStep_call {f:Operand} {args:Array Operand} {ats:Array TypeId}:aStep P G key g ⟨d,.call ⟨.value f,args,ats⟩,ty,pos,af,gd⟩ ρ0 m = fnK (strip (ρ0 f)) (fun h cap => optB (mutOf (ctxGet G h)) (fun c => aMut g (c key m (args.toList.map (fun x => strip (ρ0 x)) ++ cap))) (fun _ => effOf2 (aCall G h (args.toList.map (fun x => strip (ρ0 x)) ++ cap) m))) (fun _ => none):=by
 kernel_rfl
theorem aStep_unOp {op:UnOp} {t:TypeId} {x:Operand}:aStep P G key g ⟨d,.unOp op t x,ty,pos,af,gd⟩ ρ0 m = effOf (aPure P (fun x => strip (ρ0 x)) ⟨d,.unOp op t x,ty,pos,af,gd⟩):=rfl
theorem aStep_min {args:Array Operand} {ats:Array TypeId}:aStep P G key g ⟨d,.call ⟨.builtin .min,args,ats⟩,ty,pos,af,gd⟩ ρ0 m = effOf (aPure P (fun x => strip (ρ0 x)) ⟨d,.call ⟨.builtin .min,args,ats⟩,ty,pos,af,gd⟩):=rfl
theorem aStep_max {args:Array Operand} {ats:Array TypeId}:aStep P G key g ⟨d,.call ⟨.builtin .max,args,ats⟩,ty,pos,af,gd⟩ ρ0 m = effOf (aPure P (fun x => strip (ρ0 x)) ⟨d,.call ⟨.builtin .max,args,ats⟩,ty,pos,af,gd⟩):=rfl
theorem aStep_convert {a b:TypeId} {x:Operand}:aStep P G key g ⟨d,.convert a b x,ty,pos,af,gd⟩ ρ0 m = effOf (aPure P (fun x => strip (ρ0 x)) ⟨d,.convert a b x,ty,pos,af,gd⟩):=rfl
end
end
inductive Fr where
 | seq (c:Code)
 | block (id:Nat)
section
variable (P:Program) (G:Ctx) (H:Hots) (K0:AEx→St→Prop)
def kOf:List Fr→AEx→St→Prop
 | [] => K0
 | .seq c :: st => seqK (kOf st) fun s' => awp P G H c s' (kOf st)
 | .block id :: st => blockK id (kOf st)
def goC (c:Code) (st:List Fr) (s:St):Prop:=awp P G H c s (kOf P G H K0 st)
def retC (e:AEx) (st:List Fr) (s:St):Prop:=kOf P G H K0 st e s
def regC (hot:Option Hot) (ops:Array Oper) (rest:List Oper) (i:Nat) (st:List Fr) (t:Slots) (m:Mem) (nx:Nat):Prop:=
 regP P G hot ops nx rest i ⟨t,m,nx⟩ fun s' => kOf P G H K0 st .normal { s' with nx:=s'.nx + ops.size }
def stepC (hot:Option Hot) (ops:Array Oper) (dst:Option Tmp) (rest:List Oper) (i:Nat) (st:List Fr) (t:Slots) (m:Mem) (nx:Nat) (x:Option Eff):Prop:=
 optK x fun e => boolK (rootOK hot nx i t e.u) (conj e.ob (regC P G H K0 hot ops rest (i + 1) st (putSlot dst e.val t) (e.u.app (nx + i) m) nx))
def rootC (hot:Option Hot) (ops:Array Oper) (rest:List Oper) (i:Nat) (st:List Fr) (nx:Nat) (ob:List Prop) (t:Slots) (m:Mem) (b:Bool):Prop:=
 boolK b (conj ob (regC P G H K0 hot ops rest (i + 1) st t m nx))
def condC (b:Option Bool) (x y:Code) (st:List Fr) (s:St):Prop:=optK b fun b => (b = true→goC P G H K0 x st s)∧(b = false→goC P G H K0 y st s)
def exitC (j:Nat) (st:List Fr) (s:St) (b:Bool):Prop:=match b with
 | true => retC P G H K0 .normal st s
 | false => retC P G H K0 (.exit j) st s
variable {P G H K0} {st:List Fr} {s:St} {hot:Option Hot} {ops:Array Oper} {rest:List Oper} {i:Nat} {t:Slots} {m:Mem} {nx:Nat}
theorem goC_seq {a b:Code}:goC P G H K0 (.seq a b) st s = goC P G H K0 a (.seq b :: st) s:=(rfl)
theorem goC_block {id:Nat} {c:Code}:goC P G H K0 (.block id c) st s = goC P G H K0 c (.block id :: st) s:=(rfl)
theorem goC_skip:goC P G H K0 .skip st s = retC P G H K0 .normal st s:=(rfl)
theorem goC_ret:goC P G H K0 .ret st s = retC P G H K0 .ret st s:=(rfl)
theorem goC_scope {c:Code}:goC P G H K0 (.scope c) st s = goC P G H K0 c st s:=(rfl)
theorem goC_label {j:Nat}:goC P G H K0 (.label j) st s = retC P G H K0 .normal st s:=(rfl)
theorem goC_exit {j:Nat}:goC P G H K0 (.exit j) st s = retC P G H K0 (.exit j) st s:=(rfl)
theorem goC_cond {c:Operand} {x y:Code}:goC P G H K0 (.cond c x y) st s = condC P G H K0 (boolOf (opd s.t c)) x y st s:=(rfl)
theorem retC_nseq {c:Code}:retC P G H K0 .normal (.seq c :: st) s = goC P G H K0 c st s:=(rfl)
theorem retC_rseq {c:Code}:retC P G H K0 .ret (.seq c :: st) s = retC P G H K0 .ret st s:=(rfl)
theorem retC_eseq {j:Nat} {c:Code}:retC P G H K0 (.exit j) (.seq c :: st) s = retC P G H K0 (.exit j) st s:=(rfl)
theorem retC_nblock {id:Nat}:retC P G H K0 .normal (.block id :: st) s = retC P G H K0 .normal st s:=(rfl)
theorem retC_rblock {id:Nat}:retC P G H K0 .ret (.block id :: st) s = retC P G H K0 .ret st s:=(rfl)
theorem retC_eblock {j id:Nat}:retC P G H K0 (.exit j) (.block id :: st) s = exitC P G H K0 j st s (decide (j = id)):=by
 show (if j = id then kOf P G H K0 st .normal s else kOf P G H K0 st (.exit j) s) = _
 unfold exitC retC
 by_cases h:j = id <;> simp [h]
theorem exitC_true {j:Nat}:exitC P G H K0 j st s true = retC P G H K0 .normal st s:=(rfl)
theorem exitC_false {j:Nat}:exitC P G H K0 j st s false = retC P G H K0 (.exit j) st s:=(rfl)
theorem retC_nil {e:AEx}:retC P G H K0 e [] s = K0 e s:=(rfl)
theorem condC_some {b:Bool} {x y:Code}:condC P G H K0 (some b) x y st s = ((b = true→goC P G H K0 x st s)∧(b = false→goC P G H K0 y st s)):=(rfl)
theorem goC_region {id:Nat} {draw:Bool}:goC P G H K0 (.region id ops draw) st ⟨t,m,nx⟩ = regC P G H K0 (hotOf H id draw) ops ops.toList 0 st t m nx:=by
 show regP P G _ ops nx ops.toList 0 _ _ = _
 unfold regC
 have key:∀ (rest:List Oper) (i:Nat) (s:St),s.nx = nx→∀ K1 K2:St→Prop,(∀ s',s'.nx = nx→K1 s' = K2 s')→regP P G (hotOf H id draw) ops nx rest i s K1 = regP P G (hotOf H id draw) ops nx rest i s K2:=by
  intro rest
  induction rest with
  | nil => intro i s hs K1 K2 h; exact h s hs
  | cons o rest ih =>
   intro i s hs K1 K2 h
   simp only [regP,optK,boolK]
   cases stepE P G ops (nx + i) o s.t (memFor (hotOf H id draw) nx i o s.t s.m) with
   | none => rfl
   | some e =>
    dsimp only
    rw [ih (i + 1) _ (by exact hs) K1 K2 h]
 exact key _ _ _ rfl _ _ fun s' hs' => by show kOf P G H K0 st .normal _ = kOf P G H K0 st .normal _; rw [hs']
theorem regC_nil:regC P G H K0 hot ops [] i st t m nx = retC P G H K0 .normal st ⟨t,m,nx + ops.size⟩:=(rfl)
theorem regC_cons {d:Option Tmp} {op:Op} {ty:TypeId} {pos:String} {af:Array Edge} {gd:Option (Nat×Bool)}:regC P G H K0 hot ops (⟨d,op,ty,pos,af,gd⟩ :: rest) i st t m nx =
  stepC P G H K0 hot ops d rest i st t m nx (stepE P G ops (nx + i) ⟨d,op,ty,pos,af,gd⟩ t (memFor hot nx i ⟨d,op,ty,pos,af,gd⟩ t m)):=rfl
end
section
variable {P:Program} {G:Ctx} {key:Nat} {m:Mem} {d:Option Tmp} {ty:TypeId} {pos:String} {af:Array Edge} {gd:Option (Nat×Bool)} {g:Option Bool} {ρ0:Operand→AV}
def intsOf:List AV→Option (List Int)
 | [] => some []
 | .v (.int .i64 n) :: rest => match intsOf rest with
  | some l => some (n :: l)
  | none => none
 | _ => none
def gmax (x y:Int):Int:=if y > x then y else x
def gmin (x y:Int):Int:=if y < x then y else x
theorem intsOf_flat:∀ {q:List AV} {l:List Int},intsOf q = some l→q.map (fun a => (flat a).getD undef) = l.map (.int .i64 ·)∧flatAll q = true
 | [],l,h => by cases h; exact ⟨rfl,rfl⟩
 | a :: rest,l,h => by
  unfold intsOf at h
  split at h
  ·rename_i e; cases e
  ·rename_i n r e
   cases e
   split at h
   ·rename_i l' h'
    cases h
    obtain ⟨h1,h2⟩:=intsOf_flat h'
    refine ⟨?_,h2⟩
    rw [List.map_cons,List.map_cons,h1]
    rfl
   ·cases h
  ·cases h
theorem max_fold:∀ (l:List Int) (x:Int),(l.map (Value.int .i64 ·)).foldlM Builtin.max2 (.int .i64 x) = (Sem.pure (.int .i64 (l.foldl gmax x)):Sem Value)
 | [],x => rfl
 | y :: l,x => by
  rw [List.map_cons,List.foldlM_cons,List.foldl_cons,← max_fold l (gmax x y)]
  rfl
theorem min_fold:∀ (l:List Int) (x:Int),(l.map (Value.int .i64 ·)).foldlM Builtin.min2 (.int .i64 x) = (Sem.pure (.int .i64 (l.foldl gmin x)):Sem Value)
 | [],x => rfl
 | y :: l,x => by
  rw [List.map_cons,List.foldlM_cons,List.foldl_cons,← min_fold l (gmin x y)]
  rfl
theorem builtin_pure {b:Builtin} {args:Array Operand} {ats:Array TypeId} {l:List Int} (hl:intsOf (args.toList.map fun x => strip (ρ0 x)) = some l) {v:Value}
  (hv:Go.builtin b ats ty (args.map fun | .const _ => true | _ => false) (l.map (Value.int .i64 ·)).toArray = Sem.pure (.value v)) :
  aPure P (fun x => strip (ρ0 x)) ⟨d,.call ⟨.builtin b,args,ats⟩,ty,pos,af,gd⟩ = some (ofVal v):=by
 obtain ⟨h1,h2⟩:=intsOf_flat hl
 have ho:(Op.call ⟨.builtin b,args,ats⟩).operands.toList = args.toList:=by simp [Op.operands,Call.operands]
 unfold aPure
 dsimp only
 rw [ho,h2]
 dsimp only
 have he:args.map (fun x => (flat (strip (ρ0 x))).getD undef) = (l.map (Value.int .i64 ·)).toArray:=by
  apply Array.ext'
  rw [Array.toList_map,← h1,List.map_map]
  rfl
 have:execOp (fun x => (flat (strip (ρ0 x))).getD undef) ⟨d,.call ⟨.builtin b,args,ats⟩,ty,pos,af,gd⟩ = Sem.pure (.value v):=by
  rw [← hv,← he]
  rfl
 rw [this]
 rfl
theorem aStep_max' {args:Array Operand} {ats:Array TypeId}:aStep P G key g ⟨d,.call ⟨.builtin .max,args,ats⟩,ty,pos,af,gd⟩ ρ0 m =
  optB (intsOf (args.toList.map fun x => strip (ρ0 x))) (fun l => match l with
   | x :: l => some ⟨[],.v (.int .i64 (l.foldl gmax x)),.none⟩
   | [] => effOf (aPure P (fun x => strip (ρ0 x)) ⟨d,.call ⟨.builtin .max,args,ats⟩,ty,pos,af,gd⟩)) (fun _ => effOf (aPure P (fun x => strip (ρ0 x)) ⟨d,.call ⟨.builtin .max,args,ats⟩,ty,pos,af,gd⟩)):=by
 rw [aStep_max]
 cases h:intsOf (args.toList.map fun x => strip (ρ0 x)) with
 | none => rfl
 | some l =>
  cases l with
  | nil => rfl
  | cons x l =>
   rw [builtin_pure h (v:=.int .i64 (l.foldl gmax x)) (by
    show (Sem.bind (Builtin.max_ ats ty _) fun v => Sem.pure (Next.value v)) = _
    show (Sem.bind ((l.map (Value.int .i64 ·)).foldlM Builtin.max2 (.int .i64 x)) fun v => Sem.pure (Next.value v)) = _
    rw [max_fold]; rfl)]
   rfl
theorem aStep_min' {args:Array Operand} {ats:Array TypeId}:aStep P G key g ⟨d,.call ⟨.builtin .min,args,ats⟩,ty,pos,af,gd⟩ ρ0 m =
  optB (intsOf (args.toList.map fun x => strip (ρ0 x))) (fun l => match l with
   | x :: l => some ⟨[],.v (.int .i64 (l.foldl gmin x)),.none⟩
   | [] => effOf (aPure P (fun x => strip (ρ0 x)) ⟨d,.call ⟨.builtin .min,args,ats⟩,ty,pos,af,gd⟩)) (fun _ => effOf (aPure P (fun x => strip (ρ0 x)) ⟨d,.call ⟨.builtin .min,args,ats⟩,ty,pos,af,gd⟩)):=by
 rw [aStep_min]
 cases h:intsOf (args.toList.map fun x => strip (ρ0 x)) with
 | none => rfl
 | some l =>
  cases l with
  | nil => rfl
  | cons x l =>
   rw [builtin_pure h (v:=.int .i64 (l.foldl gmin x)) (by
    show (Sem.bind (Builtin.min_ ats ty _) fun v => Sem.pure (Next.value v)) = _
    show (Sem.bind ((l.map (Value.int .i64 ·)).foldlM Builtin.min2 (.int .i64 x)) fun v => Sem.pure (Next.value v)) = _
    rw [min_fold]; rfl)]
   rfl
end
def nm (k:IntKind) (e:Int):AV:=.v (.int k e)
def bnd (a:AV):AV:=a
def bndE:Option Eff→Option Eff
 | some ⟨ob,v,u⟩ => some ⟨ob,bnd v,u⟩
 | none => none
section
variable {P:Program} {G:Ctx} {H:Hots} {K0:AEx→St→Prop} {st:List Fr} {s:St} {hot:Option Hot} {ops:Array Oper} {rest:List Oper} {i j k n sz len key base:Nat} {t:Slots} {m:Mem} {nx:Nat} {d:Option Tmp} {ty:TypeId} {pos:String} {af:Array Edge} {gd:Option (Nat×Bool)} {g:Option Bool} {ρ0:Operand→AV} {a b:AV} {l:List AV} {cs:List AV}
theorem opd_tmp:opd t (.tmp j) = slot t j:=(rfl)
theorem opd_const {x:Value}:opd t (.const x) = .v x:=(rfl)
theorem opd_global {q:Nat}:opd t (.global q) = .v (.pointer (some ⟨q,0,none⟩)):=(rfl)
theorem opd_func {f:FuncId}:opd t (.func f) = .fn f []:=(rfl)
theorem slot_cons:slot ((k,a) :: t) j = if k = j then a else slot t j:=(rfl)
theorem slot_nil:slot [] j = .v undef:=(rfl)
theorem strip_v {x:Value}:strip (.v x) = .v x:=(rfl)
theorem strip_any:strip .any = .any:=(rfl)
theorem strip_agg:strip (.agg l) = .agg l:=(rfl)
theorem strip_tup:strip (.tup l) = .tup l:=(rfl)
theorem strip_ro {f:Nat→List AV}:strip (.ro n sz f) = .ro n sz f:=(rfl)
theorem strip_rop:strip (.rop l) = .rop l:=(rfl)
theorem strip_bx:strip (.bx n k) = .bx n k:=(rfl)
theorem strip_ptr {r f i sz k:Nat}:strip (.ptr r f i sz k) = .ptr r f i sz k:=(rfl)
theorem strip_own {r f n sz:Nat}:strip (.own r f n sz) = .own r f n sz:=(rfl)
theorem strip_vw {r f lo n sz:Nat}:strip (.vw r f lo n sz) = .vw r f lo n sz:=(rfl)
theorem strip_fn {f:FuncId}:strip (.fn f l) = .fn f l:=(rfl)
theorem strip_iface {q:TypeId}:strip (.iface q a) = .iface q a:=(rfl)
theorem strip_cond {c:Bool}:strip (.cond c a) = a:=(rfl)
theorem needs_nil:needs [] = []:=(rfl)
theorem needs_v {x:Value}:needs (.v x :: l) = needs l:=(rfl)
theorem needs_any:needs (.any :: l) = needs l:=(rfl)
theorem needs_agg:needs (.agg cs :: l) = needs l:=(rfl)
theorem needs_tup:needs (.tup cs :: l) = needs l:=(rfl)
theorem needs_ro {f:Nat→List AV}:needs (.ro n sz f :: l) = needs l:=(rfl)
theorem needs_rop:needs (.rop cs :: l) = needs l:=(rfl)
theorem needs_bx:needs (.bx n k :: l) = needs l:=(rfl)
theorem needs_ptr {r f i sz k:Nat}:needs (.ptr r f i sz k :: l) = needs l:=(rfl)
theorem needs_own {r f n sz:Nat}:needs (.own r f n sz :: l) = needs l:=(rfl)
theorem needs_vw {r f lo n sz:Nat}:needs (.vw r f lo n sz :: l) = needs l:=(rfl)
theorem needs_fn {f:FuncId}:needs (.fn f cs :: l) = needs l:=(rfl)
theorem needs_iface {q:TypeId}:needs (.iface q a :: l) = needs l:=(rfl)
theorem needs_cond {c:Bool}:needs (.cond c a :: l) = (c = true) :: needs l:=(rfl)
theorem conj_nil {p:Prop}:conj [] p = p:=(rfl)
theorem conj_cons {p q:Prop} {ps:List Prop}:conj (p :: ps) q = (p∧conj ps q):=(rfl)
theorem isCell_bool {x:Bool}:isCell (.v (.bool x)) = true:=(rfl)
theorem isCell_int {q:IntKind} {x:Int}:isCell (.v (.int q x)) = true:=(rfl)
theorem isCell_string {x:ByteArray}:isCell (.v (.string x)) = true:=(rfl)
theorem isCell_pointer {x:Option Addr}:isCell (.v (.pointer x)) = true:=(rfl)
theorem isCell_slice {x:Option Addr}:isCell (.v (.slice x n k)) = true:=(rfl)
theorem isCell_map {x:Option Nat}:isCell (.v (.map x)) = true:=(rfl)
theorem isCell_nilFunc:isCell (.v .nilFunc) = true:=(rfl)
theorem isCell_nilIface:isCell (.v .nilIface) = true:=(rfl)
theorem isCell_ro {f:Nat→List AV}:isCell (.ro n sz f) = true:=(rfl)
theorem isCell_rop:isCell (.rop l) = true:=(rfl)
theorem isCell_bx:isCell (.bx n k) = true:=(rfl)
theorem isCell_ptr {r f i sz k:Nat}:isCell (.ptr r f i sz k) = true:=(rfl)
theorem isCell_own {r f n sz:Nat}:isCell (.own r f n sz) = true:=(rfl)
theorem isCell_vw {r f lo n sz:Nat}:isCell (.vw r f lo n sz) = true:=(rfl)
theorem isCell_fn {f:FuncId}:isCell (.fn f l) = true:=(rfl)
theorem isCell_iface {q:TypeId}:isCell (.iface q a) = true:=(rfl)
theorem allCells_nil:allCells [] = true:=(rfl)
theorem allCells_cons:allCells (a :: l) = (isCell a && allCells l):=by
 rw [allCells]
 cases isCell a <;> rfl
def cellsAgg (c:Bool) (l:List AV):Option (List AV):=match c with
 | true => some l
 | false => none
theorem cellsAgg_true:cellsAgg true l = some l:=(rfl)
theorem cellsOf_agg:cellsOf (.agg l) = cellsAgg (allCells l) l:=by
 kernel_rfl
theorem cellsOf_bool {x:Bool}:cellsOf (.v (.bool x)) = some [.v (.bool x)]:=(rfl)
theorem cellsOf_int {q:IntKind} {x:Int}:cellsOf (.v (.int q x)) = some [.v (.int q x)]:=(rfl)
theorem cellsOf_string {x:ByteArray}:cellsOf (.v (.string x)) = some [.v (.string x)]:=(rfl)
theorem cellsOf_pointer {x:Option Addr}:cellsOf (.v (.pointer x)) = some [.v (.pointer x)]:=(rfl)
theorem cellsOf_slice {x:Option Addr}:cellsOf (.v (.slice x n k)) = some [.v (.slice x n k)]:=(rfl)
theorem cellsOf_map {x:Option Nat}:cellsOf (.v (.map x)) = some [.v (.map x)]:=(rfl)
theorem cellsOf_nilFunc:cellsOf (.v .nilFunc) = some [.v .nilFunc]:=(rfl)
theorem cellsOf_nilIface:cellsOf (.v .nilIface) = some [.v .nilIface]:=(rfl)
theorem cellsOf_ro {f:Nat→List AV}:cellsOf (.ro n sz f) = some [.ro n sz f]:=(rfl)
theorem cellsOf_rop:cellsOf (.rop l) = some [.rop l]:=(rfl)
theorem cellsOf_bx:cellsOf (.bx n k) = some [.bx n k]:=(rfl)
theorem cellsOf_ptr {r f i sz k:Nat}:cellsOf (.ptr r f i sz k) = some [.ptr r f i sz k]:=(rfl)
theorem cellsOf_own {r f n sz:Nat}:cellsOf (.own r f n sz) = some [.own r f n sz]:=(rfl)
theorem cellsOf_vw {r f lo n sz:Nat}:cellsOf (.vw r f lo n sz) = some [.vw r f lo n sz]:=(rfl)
theorem cellsOf_fn {f:FuncId}:cellsOf (.fn f l) = some [.fn f l]:=(rfl)
theorem cellsOf_iface {q:TypeId}:cellsOf (.iface q a) = some [.iface q a]:=(rfl)
def ofC (x:Option (Bool×Nat)) (cs:List AV):Option AV:=match x with
 | some (true,n) => if n≤cs.length then some (.agg (cs.take n)) else none
 | some (false,_) => match cs with
  | c :: _ => some c
  | [] => none
 | none => none
theorem ofCells_eq:ofCells P ty cs = ofC (layT P ty) cs:=by
 kernel_rfl
theorem ofC_agg:ofC (some (true,n)) cs = if n≤cs.length then some (.agg (cs.take n)) else none:=(rfl)
theorem ofC_one:ofC (some (false,n)) (a :: cs) = some a:=(rfl)
def withOb (l:List Prop) (x:Option Eff):Option Eff:=match x with
 | some ⟨ob,v,u⟩ => some ⟨l ++ ob,v,u⟩
 | none => none
theorem withOb_some {q ob:List Prop} {u:Upd}:withOb q (some ⟨ob,a,u⟩) = some ⟨q ++ ob,a,u⟩:=(rfl)
def owedL (p:Bool) (l:List AV):List Prop:=match p with
 | true => []
 | false => needs l
theorem owedL_true:owedL true l = []:=(rfl)
theorem owedL_false:owedL false l = needs l:=(rfl)
theorem owed_L {op:Op} {ρ:Operand→AV}:owed ⟨d,op,ty,pos,af,gd⟩ ρ = owedL (isPick op) (op.operands.toList.map ρ):=by
 unfold owed owedL
 dsimp only
 cases isPick op <;> rfl
def owedV (t:Slots) (op:Op):List Prop:=owedL (isPick op) (op.operands.toList.map (opd t))
section
variable {x y z:Operand}
theorem owedV_move:owedV t (.move x) = needs [opd t x]:=(rfl)
theorem owedV_assign:owedV t (.assign x) = needs [opd t x]:=(rfl)
theorem owedV_pick:owedV t (.pick x y z) = []:=(rfl)
theorem owedV_alloc:owedV t (.alloc ty) = []:=(rfl)
theorem owedV_box:owedV t (.box ty x) = needs [opd t x]:=(rfl)
def rawP (t:Slots):List (Nat×Operand)→List AV
 | [] => []
 | (_,x) :: r => opd t x :: rawP t r
theorem rawP_eq:∀ {l:List (Nat×Operand)},(l.map (·.2)).map (opd t) = rawP t l
 | [] => rfl
 | (_,x) :: l => by rw [List.map_cons,List.map_cons,rawP_eq]; rfl
theorem rawP_nil:rawP t [] = []:=(rfl)
theorem rawP_cons {r:List (Nat×Operand)}:rawP t ((i,x) :: r) = opd t x :: rawP t r:=(rfl)
def rawV (t:Slots):List Operand→List AV
 | [] => []
 | x :: r => opd t x :: rawV t r
theorem rawV_eq:∀ {l:List Operand},l.map (opd t) = rawV t l
 | [] => rfl
 | x :: l => by rw [List.map_cons,rawV_eq]; rfl
theorem rawV_nil:rawV t [] = []:=(rfl)
theorem rawV_cons {r:List Operand}:rawV t (x :: r) = opd t x :: rawV t r:=(rfl)
theorem owedV_build {l:List (Nat×Operand)}:owedV t (.build ty l.toArray) = needs (rawP t l):=by rw [← rawP_eq]; rfl
theorem owedV_buildSlice {l:List (Nat×Operand)}:owedV t (.buildSlice ty n l.toArray) = needs (rawP t l):=by rw [← rawP_eq]; rfl
theorem owedV_load:owedV t (.load ty x) = needs [opd t x]:=(rfl)
theorem owedV_store:owedV t (.store ty x y) = needs [opd t x,opd t y]:=(rfl)
theorem owedV_nilCheck:owedV t (.nilCheck x) = needs [opd t x]:=(rfl)
theorem owedV_binOp {op:BinOp} {u:TypeId}:owedV t (.binOp op ty x y u) = needs [opd t x,opd t y]:=(rfl)
theorem owedV_unOp {op:UnOp}:owedV t (.unOp op ty x) = needs [opd t x]:=(rfl)
theorem owedV_convert {u:TypeId}:owedV t (.convert ty u x) = needs [opd t x]:=(rfl)
theorem owedV_makeInterface:owedV t (.makeInterface ty x) = needs [opd t x]:=(rfl)
theorem owedV_makeFunc {f:Fn} {l:List Operand}:owedV t (.makeFunc f #[] l.toArray) = needs (rawV t l):=by
 rw [← rawV_eq]; simp [owedV,owedL,isPick,Op.operands]
theorem owedV_makeSlice:owedV t (.makeSlice ty x y) = needs [opd t x,opd t y]:=(rfl)
theorem owedV_slice {lo hi mx:Option Operand}:owedV t (.slice ty x lo hi mx) = needs (opd t x :: (rawV t lo.toList ++ rawV t hi.toList ++ rawV t mx.toList)):=by
 rw [← rawV_eq,← rawV_eq,← rawV_eq]; simp [owedV,owedL,isPick,Op.operands]
theorem owedV_fieldAddr {f:Nat}:owedV t (.fieldAddr ty x f) = needs [opd t x]:=(rfl)
theorem owedV_field {f:Nat}:owedV t (.field ty x f) = needs [opd t x]:=(rfl)
theorem owedV_indexAddr:owedV t (.indexAddr ty x y) = needs [opd t x,opd t y]:=(rfl)
theorem owedV_index:owedV t (.index ty x y) = needs [opd t x,opd t y]:=(rfl)
theorem owedV_typeAssert {u:TypeId} {c:Bool}:owedV t (.typeAssert x ty u c) = needs [opd t x]:=(rfl)
theorem owedV_extract:owedV t (.extract x i) = needs [opd t x]:=(rfl)
theorem owedV_callB {f:Builtin} {l:List Operand} {q:Array TypeId}:owedV t (.call ⟨.builtin f,l.toArray,q⟩) = needs (rawV t l):=by
 rw [← rawV_eq]; simp [owedV,owedL,isPick,Op.operands,Call.operands]
theorem owedV_callV {l:List Operand} {q:Array TypeId}:owedV t (.call ⟨.value x,l.toArray,q⟩) = needs (opd t x :: rawV t l):=by
 rw [← rawV_eq]; simp [owedV,owedL,isPick,Op.operands,Call.operands]
theorem owedV_callI {f:String} {l:List Operand} {q:Array TypeId}:owedV t (.call ⟨.invoke x f,l.toArray,q⟩) = needs (opd t x :: rawV t l):=by
 rw [← rawV_eq]; simp [owedV,owedL,isPick,Op.operands,Call.operands]
end
theorem regC_free {op:Op}:regC P G H K0 hot ops (⟨d,op,ty,pos,af,none⟩ :: rest) i st t m nx =
  stepC P G H K0 hot ops d rest i st t m nx (withOb (owedV t op) (aStep P G (nx + i) none ⟨d,op,ty,pos,af,none⟩ (opd t) (memFor hot nx i ⟨d,op,ty,pos,af,none⟩ t m))):=by
 rw [regC_cons,stepE_free1]
 congr 1
 unfold owedV
 rw [← owed_L]
 cases aStep P G (nx + i) none ⟨d,op,ty,pos,af,none⟩ (opd t) (memFor hot nx i ⟨d,op,ty,pos,af,none⟩ t m) <;> rfl
def condV (b:Bool) (v:AV):AV:=.cond b v
def guardM (b c:Bool) (ob:List Prop) (v:AV) (u:Upd):Option Eff:=match c with
 | true => some ⟨ob.map (b = true→·),condV b v,u⟩
 | false => none
theorem guardM_true {b:Bool} {ob:List Prop} {u:Upd}:guardM b true ob a u = some ⟨ob.map (b = true→·),condV b a,u⟩:=(rfl)
def guardE (b:Bool) (l:List Prop) (x:Option Eff):Option Eff:=match x with
 | some ⟨ob,v,u⟩ => guardM b u.mild (l ++ ob) v u
 | none => none
theorem guardE_some {b:Bool} {q ob:List Prop} {u:Upd}:guardE b q (some ⟨ob,a,u⟩) = guardM b u.mild (q ++ ob) a u:=(rfl)
def guardS (P:Program) (G:Ctx) (key:Nat) (o:Oper) (t:Slots) (m:Mem) (x:Option Bool):Option Eff:=match x with
 | some b => guardE b (owed o (opd t)) (aStep P G key (some b) o (opd t) m)
 | none => none
theorem guardS_some {b:Bool} {op:Op}:guardS P G key ⟨d,op,ty,pos,af,gd⟩ t m (some b) = guardE b (owedV t op) (aStep P G key (some b) ⟨d,op,ty,pos,af,gd⟩ (opd t) m):=by
 unfold owedV
 rw [← owed_L]; rfl
theorem regC_guard {op:Op} {q:Nat×Bool}:regC P G H K0 hot ops (⟨d,op,ty,pos,af,some q⟩ :: rest) i st t m nx =
  stepC P G H K0 hot ops d rest i st t m nx (guardS P G (nx + i) ⟨d,op,ty,pos,af,some q⟩ t (memFor hot nx i ⟨d,op,ty,pos,af,some q⟩ t m) (guardOf ops (slot t) q)):=by
 rw [regC_cons,stepE_guard1]
 congr 1
 unfold guardS
 cases guardOf ops (slot t) q with
 | none => rfl
 | some b =>
  simp only [optB]
  cases aStep P G (nx + i) (some b) ⟨d,op,ty,pos,af,some q⟩ (opd t) (memFor hot nx i ⟨d,op,ty,pos,af,some q⟩ t m) with
  | none => rfl
  | some e =>
   obtain ⟨ob,v,u⟩:=e
   simp only [guardE,guardM,ifB,condV]
   all_goals (cases u.mild <;> rfl)
def gval (w:Bool) (x:AV):Option Bool:=match x with
 | .v (.bool b) => some (match w with | true => b | false => !b)
 | .cond c (.v (.bool b)) => some (c && (match w with | true => b | false => !b))
 | _ => none
def gslot (w:Bool) (sl:Nat→AV) (x:Option Oper):Option Bool:=match x with
 | some ⟨some d,_,_,_,_,_⟩ => gval w (sl d)
 | _ => none
theorem gslot_some {w:Bool} {sl:Nat→AV} {q:Tmp} {op:Op}:gslot w sl (some ⟨some q,op,ty,pos,af,gd⟩) = gval w (sl q):=(rfl)
theorem guardOf_eq {sl:Nat→AV} {q:Nat} {w:Bool}:guardOf ops sl (q,w) = gslot w sl ops[q]?:=by
 unfold guardOf gslot gval
 dsimp only
 cases ops[q]? with
 | none => rfl
 | some o =>
  obtain ⟨d,op,ty,pos,af,gd⟩:=o
  cases d <;> rfl
theorem gval_t {x:Bool}:gval true (.v (.bool x)) = some x:=(rfl)
theorem gval_f {x:Bool}:gval false (.v (.bool x)) = some (!x):=(rfl)
theorem gval_ct {c x:Bool}:gval true (.cond c (.v (.bool x))) = some (c && x):=(rfl)
theorem gval_cf {c x:Bool}:gval false (.cond c (.v (.bool x))) = some (c && !x):=(rfl)
theorem memFor_none {o:Oper}:memFor none base i o t m = m:=(rfl)
theorem rootOK_none {u:Upd}:rootOK none base i t u = true:=(rfl)
theorem hotOf_false {id:Nat}:hotOf H id false = none:=(rfl)
theorem hotOf_true {id:Nat}:hotOf H id true = some (hotAt H id):=(rfl)
def bindC (P:Program) (G:Ctx) (H:Hots) (K0:AEx→St→Prop) (hot:Option Hot) (ops:Array Oper) (d:Option Tmp) (rest:List Oper) (i:Nat) (st:List Fr) (t:Slots) (m:Mem) (nx:Nat) (ob:List Prop) (u:Upd) (a:AV):Prop:=
 rootC P G H K0 hot ops rest i st nx ob (putSlot d a t) (u.app (nx + i) m) (rootOK hot nx i t u)
theorem stepC_eff {ob:List Prop} {u:Upd}:stepC P G H K0 hot ops d rest i st t m nx (some ⟨ob,a,u⟩) = bindC P G H K0 hot ops d rest i st t m nx ob u a:=(rfl)
theorem bindC_nm {ob:List Prop} {u:Upd} {q:IntKind} {e:Int}:bindC P G H K0 hot ops d rest i st t m nx ob u (nm q e) = ∀ z,z = e→bindC P G H K0 hot ops d rest i st t m nx ob u (.v (.int q z)):=by
 simp only [forall_eq]; rfl
theorem bindC_cnm {ob:List Prop} {u:Upd} {q:IntKind} {e:Int} {c:Bool}:bindC P G H K0 hot ops d rest i st t m nx ob u (condV c (nm q e)) = ∀ z,z = e→bindC P G H K0 hot ops d rest i st t m nx ob u (condV c (.v (.int q z))):=by
 simp only [forall_eq]; rfl
theorem bindC_v {ob:List Prop} {u:Upd} {x:Value}:bindC P G H K0 hot ops d rest i st t m nx ob u (.v x) = rootC P G H K0 hot ops rest i st nx ob (putSlot d (.v x) t) (u.app (nx + i) m) (rootOK hot nx i t u):=(rfl)
theorem bindC_any {ob:List Prop} {u:Upd}:bindC P G H K0 hot ops d rest i st t m nx ob u .any = rootC P G H K0 hot ops rest i st nx ob (putSlot d .any t) (u.app (nx + i) m) (rootOK hot nx i t u):=(rfl)
theorem bindC_agg {ob:List Prop} {u:Upd}:bindC P G H K0 hot ops d rest i st t m nx ob u (.agg l) = rootC P G H K0 hot ops rest i st nx ob (putSlot d (.agg l) t) (u.app (nx + i) m) (rootOK hot nx i t u):=(rfl)
theorem bindC_tup {ob:List Prop} {u:Upd}:bindC P G H K0 hot ops d rest i st t m nx ob u (.tup l) = rootC P G H K0 hot ops rest i st nx ob (putSlot d (.tup l) t) (u.app (nx + i) m) (rootOK hot nx i t u):=(rfl)
theorem bindC_ro {ob:List Prop} {u:Upd} {f:Nat→List AV}:bindC P G H K0 hot ops d rest i st t m nx ob u (.ro n sz f) = rootC P G H K0 hot ops rest i st nx ob (putSlot d (.ro n sz f) t) (u.app (nx + i) m) (rootOK hot nx i t u):=(rfl)
theorem bindC_rop {ob:List Prop} {u:Upd}:bindC P G H K0 hot ops d rest i st t m nx ob u (.rop l) = rootC P G H K0 hot ops rest i st nx ob (putSlot d (.rop l) t) (u.app (nx + i) m) (rootOK hot nx i t u):=(rfl)
theorem bindC_bx {ob:List Prop} {u:Upd}:bindC P G H K0 hot ops d rest i st t m nx ob u (.bx n k) = rootC P G H K0 hot ops rest i st nx ob (putSlot d (.bx n k) t) (u.app (nx + i) m) (rootOK hot nx i t u):=(rfl)
theorem bindC_ptr {ob:List Prop} {u:Upd} {r f j sz k:Nat}:bindC P G H K0 hot ops d rest i st t m nx ob u (.ptr r f j sz k) = rootC P G H K0 hot ops rest i st nx ob (putSlot d (.ptr r f j sz k) t) (u.app (nx + i) m) (rootOK hot nx i t u):=(rfl)
theorem bindC_own {ob:List Prop} {u:Upd} {r f n sz:Nat}:bindC P G H K0 hot ops d rest i st t m nx ob u (.own r f n sz) = rootC P G H K0 hot ops rest i st nx ob (putSlot d (.own r f n sz) t) (u.app (nx + i) m) (rootOK hot nx i t u):=(rfl)
theorem bindC_vw {ob:List Prop} {u:Upd} {r f lo n sz:Nat}:bindC P G H K0 hot ops d rest i st t m nx ob u (.vw r f lo n sz) = rootC P G H K0 hot ops rest i st nx ob (putSlot d (.vw r f lo n sz) t) (u.app (nx + i) m) (rootOK hot nx i t u):=(rfl)
theorem bindC_fn {ob:List Prop} {u:Upd} {f:FuncId}:bindC P G H K0 hot ops d rest i st t m nx ob u (.fn f l) = rootC P G H K0 hot ops rest i st nx ob (putSlot d (.fn f l) t) (u.app (nx + i) m) (rootOK hot nx i t u):=(rfl)
theorem bindC_iface {ob:List Prop} {u:Upd} {q:TypeId}:bindC P G H K0 hot ops d rest i st t m nx ob u (.iface q a) = rootC P G H K0 hot ops rest i st nx ob (putSlot d (.iface q a) t) (u.app (nx + i) m) (rootOK hot nx i t u):=(rfl)
theorem putSlot_some {q:Tmp}:putSlot (some q) a t = (q,a) :: t:=(rfl)
theorem putSlot_none:putSlot none a t = t:=(rfl)
theorem bindC_ite {ob:List Prop} {u:Upd} {p:Prop} [Decidable p]:bindC P G H K0 hot ops d rest i st t m nx ob u (bnd (if p then a else b)) =
  ((p→bindC P G H K0 hot ops d rest i st t m nx ob u (bnd a))∧(¬ p→bindC P G H K0 hot ops d rest i st t m nx ob u (bnd b))):=by
 by_cases h:p <;> simp [h]
def bindL (P:Program) (G:Ctx) (H:Hots) (K0:AEx→St→Prop) (hot:Option Hot) (ops:Array Oper) (d:Option Tmp) (rest:List Oper) (i:Nat) (st:List Fr) (t:Slots) (m:Mem) (nx:Nat) (ob:List Prop) (u:Upd) (tag:Bool) (done todo:List AV):Prop:=
 bindC P G H K0 hot ops d rest i st t m nx ob u (match tag with | true => .tup (done ++ todo) | false => .agg (done ++ todo))
theorem bindC_bint {ob:List Prop} {u:Upd} {q:IntKind} {e:Int}:bindC P G H K0 hot ops d rest i st t m nx ob u (bnd (.v (.int q e))) = ∀ z,z = e→bindC P G H K0 hot ops d rest i st t m nx ob u (.v (.int q z)):=by
 simp only [forall_eq]; rfl
theorem bindC_bbool {ob:List Prop} {u:Upd} {e:Bool}:bindC P G H K0 hot ops d rest i st t m nx ob u (bnd (.v (.bool e))) = ∀ z,z = e→bindC P G H K0 hot ops d rest i st t m nx ob u (.v (.bool z)):=by
 simp only [forall_eq]; rfl
theorem bindC_bnilI {ob:List Prop} {u:Upd}:bindC P G H K0 hot ops d rest i st t m nx ob u (bnd (.v .nilIface)) = bindC P G H K0 hot ops d rest i st t m nx ob u (.v .nilIface):=(rfl)
theorem bindC_bnilS {ob:List Prop} {u:Upd} {x:Option Addr}:bindC P G H K0 hot ops d rest i st t m nx ob u (bnd (.v (.slice x n k))) = bindC P G H K0 hot ops d rest i st t m nx ob u (.v (.slice x n k)):=(rfl)
theorem bindC_bro {ob:List Prop} {u:Upd} {f:Nat→List AV}:bindC P G H K0 hot ops d rest i st t m nx ob u (bnd (.ro n sz f)) = bindC P G H K0 hot ops d rest i st t m nx ob u (.ro n sz f):=(rfl)
theorem bindC_brop {ob:List Prop} {u:Upd}:bindC P G H K0 hot ops d rest i st t m nx ob u (bnd (.rop l)) = bindC P G H K0 hot ops d rest i st t m nx ob u (.rop l):=(rfl)
theorem bindC_bfn {ob:List Prop} {u:Upd} {f:FuncId}:bindC P G H K0 hot ops d rest i st t m nx ob u (bnd (.fn f l)) = bindC P G H K0 hot ops d rest i st t m nx ob u (.fn f l):=(rfl)
theorem bindC_biface {ob:List Prop} {u:Upd} {q:TypeId}:bindC P G H K0 hot ops d rest i st t m nx ob u (bnd (.iface q a)) = bindC P G H K0 hot ops d rest i st t m nx ob u (.iface q a):=(rfl)
theorem bindC_bagg {ob:List Prop} {u:Upd}:bindC P G H K0 hot ops d rest i st t m nx ob u (bnd (.agg l)) = bindL P G H K0 hot ops d rest i st t m nx ob u false [] l:=(rfl)
theorem bindC_btup {ob:List Prop} {u:Upd}:bindC P G H K0 hot ops d rest i st t m nx ob u (bnd (.tup l)) = bindL P G H K0 hot ops d rest i st t m nx ob u true [] l:=(rfl)
theorem bindL_int {ob:List Prop} {u:Upd} {tag:Bool} {q:IntKind} {e:Int}:bindL P G H K0 hot ops d rest i st t m nx ob u tag l (.v (.int q e) :: cs) = ∀ z,z = e→bindL P G H K0 hot ops d rest i st t m nx ob u tag (l ++ [.v (.int q z)]) cs:=by
 simp only [forall_eq]
 unfold bindL
 simp only [List.append_assoc,List.singleton_append]
theorem bindL_bool {ob:List Prop} {u:Upd} {tag:Bool} {e:Bool}:bindL P G H K0 hot ops d rest i st t m nx ob u tag l (.v (.bool e) :: cs) = ∀ z,z = e→bindL P G H K0 hot ops d rest i st t m nx ob u tag (l ++ [.v (.bool z)]) cs:=by
 simp only [forall_eq]
 unfold bindL
 simp only [List.append_assoc,List.singleton_append]
theorem bindL_skip {ob:List Prop} {u:Upd} {tag:Bool}:bindL P G H K0 hot ops d rest i st t m nx ob u tag l (a :: cs) = bindL P G H K0 hot ops d rest i st t m nx ob u tag (l ++ [a]) cs:=by
 unfold bindL
 simp only [List.append_assoc,List.singleton_append]
theorem bindL_ro {ob:List Prop} {u:Upd} {tag:Bool} {f:Nat→List AV}:bindL P G H K0 hot ops d rest i st t m nx ob u tag l (.ro n sz f :: cs) = bindL P G H K0 hot ops d rest i st t m nx ob u tag (l ++ [.ro n sz f]) cs:=bindL_skip
theorem bindL_nilS {ob:List Prop} {u:Upd} {tag:Bool} {x:Option Addr}:bindL P G H K0 hot ops d rest i st t m nx ob u tag l (.v (.slice x n k) :: cs) = bindL P G H K0 hot ops d rest i st t m nx ob u tag (l ++ [.v (.slice x n k)]) cs:=bindL_skip
theorem bindL_nilI {ob:List Prop} {u:Upd} {tag:Bool}:bindL P G H K0 hot ops d rest i st t m nx ob u tag l (.v .nilIface :: cs) = bindL P G H K0 hot ops d rest i st t m nx ob u tag (l ++ [.v .nilIface]) cs:=bindL_skip
theorem bindL_iface {ob:List Prop} {u:Upd} {tag:Bool} {q:TypeId}:bindL P G H K0 hot ops d rest i st t m nx ob u tag l (.iface q a :: cs) = bindL P G H K0 hot ops d rest i st t m nx ob u tag (l ++ [.iface q a]) cs:=bindL_skip
theorem bindL_agg {ob:List Prop} {u:Upd} {tag:Bool} {q:List AV}:bindL P G H K0 hot ops d rest i st t m nx ob u tag l (.agg q :: cs) = bindL P G H K0 hot ops d rest i st t m nx ob u tag (l ++ [.agg q]) cs:=bindL_skip
theorem bindL_nilT {ob:List Prop} {u:Upd}:bindL P G H K0 hot ops d rest i st t m nx ob u true l [] = bindC P G H K0 hot ops d rest i st t m nx ob u (.tup l):=by
 unfold bindL; simp
theorem bindL_nilA {ob:List Prop} {u:Upd}:bindL P G H K0 hot ops d rest i st t m nx ob u false l [] = bindC P G H K0 hot ops d rest i st t m nx ob u (.agg l):=by
 unfold bindL; simp
theorem bindC_cbint {ob:List Prop} {u:Upd} {c:Bool} {q:IntKind} {e:Int}:bindC P G H K0 hot ops d rest i st t m nx ob u (condV c (bnd (.v (.int q e)))) = ∀ z,z = e→bindC P G H K0 hot ops d rest i st t m nx ob u (condV c (.v (.int q z))):=by
 simp only [forall_eq]; rfl
theorem bindC_cbbool {ob:List Prop} {u:Upd} {c:Bool} {e:Bool}:bindC P G H K0 hot ops d rest i st t m nx ob u (condV c (bnd (.v (.bool e)))) = ∀ z,z = e→bindC P G H K0 hot ops d rest i st t m nx ob u (condV c (.v (.bool z))):=by
 simp only [forall_eq]; rfl
theorem bindC_cbagg {ob:List Prop} {u:Upd} {c:Bool}:bindC P G H K0 hot ops d rest i st t m nx ob u (condV c (bnd (.agg l))) = bindC P G H K0 hot ops d rest i st t m nx ob u (condV c (.agg l)):=(rfl)
theorem bindC_cbtup {ob:List Prop} {u:Upd} {c:Bool}:bindC P G H K0 hot ops d rest i st t m nx ob u (condV c (bnd (.tup l))) = bindC P G H K0 hot ops d rest i st t m nx ob u (condV c (.tup l)):=(rfl)
theorem bindC_kv {ob:List Prop} {u:Upd} {c:Bool} {x:Value}:bindC P G H K0 hot ops d rest i st t m nx ob u (condV c (.v x)) = rootC P G H K0 hot ops rest i st nx ob (putSlot d (.cond c (.v x)) t) (u.app (nx + i) m) (rootOK hot nx i t u):=(rfl)
theorem bindC_kany {ob:List Prop} {u:Upd} {c:Bool} :bindC P G H K0 hot ops d rest i st t m nx ob u (condV c (.any)) = rootC P G H K0 hot ops rest i st nx ob (putSlot d (.cond c (.any)) t) (u.app (nx + i) m) (rootOK hot nx i t u):=(rfl)
theorem bindC_kagg {ob:List Prop} {u:Upd} {c:Bool} :bindC P G H K0 hot ops d rest i st t m nx ob u (condV c (.agg l)) = rootC P G H K0 hot ops rest i st nx ob (putSlot d (.cond c (.agg l)) t) (u.app (nx + i) m) (rootOK hot nx i t u):=(rfl)
theorem bindC_ktup {ob:List Prop} {u:Upd} {c:Bool} :bindC P G H K0 hot ops d rest i st t m nx ob u (condV c (.tup l)) = rootC P G H K0 hot ops rest i st nx ob (putSlot d (.cond c (.tup l)) t) (u.app (nx + i) m) (rootOK hot nx i t u):=(rfl)
theorem bindC_kro {ob:List Prop} {u:Upd} {c:Bool} {f:Nat→List AV}:bindC P G H K0 hot ops d rest i st t m nx ob u (condV c (.ro n sz f)) = rootC P G H K0 hot ops rest i st nx ob (putSlot d (.cond c (.ro n sz f)) t) (u.app (nx + i) m) (rootOK hot nx i t u):=(rfl)
theorem bindC_krop {ob:List Prop} {u:Upd} {c:Bool} :bindC P G H K0 hot ops d rest i st t m nx ob u (condV c (.rop l)) = rootC P G H K0 hot ops rest i st nx ob (putSlot d (.cond c (.rop l)) t) (u.app (nx + i) m) (rootOK hot nx i t u):=(rfl)
theorem bindC_kbx {ob:List Prop} {u:Upd} {c:Bool} {r k:Nat}:bindC P G H K0 hot ops d rest i st t m nx ob u (condV c (.bx r k)) = rootC P G H K0 hot ops rest i st nx ob (putSlot d (.cond c (.bx r k)) t) (u.app (nx + i) m) (rootOK hot nx i t u):=(rfl)
theorem bindC_kptr {ob:List Prop} {u:Upd} {c:Bool} {r f j z k:Nat}:bindC P G H K0 hot ops d rest i st t m nx ob u (condV c (.ptr r f j z k)) = rootC P G H K0 hot ops rest i st nx ob (putSlot d (.cond c (.ptr r f j z k)) t) (u.app (nx + i) m) (rootOK hot nx i t u):=(rfl)
theorem bindC_kown {ob:List Prop} {u:Upd} {c:Bool} {r f:Nat}:bindC P G H K0 hot ops d rest i st t m nx ob u (condV c (.own r f n sz)) = rootC P G H K0 hot ops rest i st nx ob (putSlot d (.cond c (.own r f n sz)) t) (u.app (nx + i) m) (rootOK hot nx i t u):=(rfl)
theorem bindC_kvw {ob:List Prop} {u:Upd} {c:Bool} {r f lo:Nat}:bindC P G H K0 hot ops d rest i st t m nx ob u (condV c (.vw r f lo n sz)) = rootC P G H K0 hot ops rest i st nx ob (putSlot d (.cond c (.vw r f lo n sz)) t) (u.app (nx + i) m) (rootOK hot nx i t u):=(rfl)
theorem bindC_kfn {ob:List Prop} {u:Upd} {c:Bool} {f:FuncId}:bindC P G H K0 hot ops d rest i st t m nx ob u (condV c (.fn f l)) = rootC P G H K0 hot ops rest i st nx ob (putSlot d (.cond c (.fn f l)) t) (u.app (nx + i) m) (rootOK hot nx i t u):=(rfl)
theorem bindC_kiface {ob:List Prop} {u:Upd} {c:Bool} {q:TypeId}:bindC P G H K0 hot ops d rest i st t m nx ob u (condV c (.iface q a)) = rootC P G H K0 hot ops rest i st nx ob (putSlot d (.cond c (.iface q a)) t) (u.app (nx + i) m) (rootOK hot nx i t u):=(rfl)
theorem rootC_conj {ob:List Prop}:rootC P G H K0 hot ops rest i st nx ob t m true = conj ob (regC P G H K0 hot ops rest (i + 1) st t m nx):=(rfl)
theorem look_nil {r:Nat}:look [] r = none:=(rfl)
theorem look_cons {r:Nat} {x:Fam}:look ((k,x) :: m) r = if k = r then some x else look m r:=(rfl)
theorem setRow_nil {r:Nat} {x:Fam}:setRow r x [] = []:=(rfl)
theorem setRow_cons {r:Nat} {x y:Fam}:setRow r x ((k,y) :: m) = if k = r then (k,x) :: m else (k,y) :: setRow r x m:=(rfl)
theorem insRow_nil {x:Fam}:insRow k x [] = [(k,x)]:=(rfl)
theorem insRow_cons {x y:Fam}:insRow k x ((j,y) :: m) = if j < k then (k,x) :: (j,y) :: m else (j,y) :: insRow k x m:=(rfl)
theorem dropRow_nil {r:Nat}:dropRow r [] = []:=(rfl)
theorem dropRow_cons {r:Nat} {y:Fam}:dropRow r ((k,y) :: m) = if k = r then dropRow r m else (k,y) :: dropRow r m:=(rfl)
theorem app_none:Upd.app key m .none = m:=(rfl)
theorem app_new {x:Fam}:Upd.app key m (.new x) = insRow key x m:=(rfl)
theorem app_set {r:Nat} {x:Fam}:Upd.app key m (.set r x) = setRow r x m:=(rfl)
theorem app_swap {r:Nat} {x:Fam}:Upd.app key m (.swap r x) = insRow key x (setRow r dead m):=(rfl)
theorem app_manyN {l:List (Nat×Fam)}:Upd.app key m (.many l none) = setRows l m:=(rfl)
theorem app_manyS {l:List (Nat×Fam)} {x:Fam}:Upd.app key m (.many l (some x)) = insRow key x (setRows l m):=(rfl)
theorem setRows_nil:setRows [] m = m:=(rfl)
theorem setRows_cons {l:List (Nat×Fam)} {r:Nat} {x:Fam}:setRows ((r,x) :: l) m = setRows l (setRow r x m):=(rfl)
theorem mild_none:Upd.mild .none = true:=(rfl)
theorem mild_new {x:Fam}:Upd.mild (.new x) = true:=(rfl)
def fam1 (ty:TypeId) (sz:Nat) (cs:List AV) (g:Option Bool):Fam:=fun f => if f = 0 then ⟨1,sz,ty,fun _ => cs,g⟩ else ⟨0,sz,ty,fun _ => [],g⟩
theorem aAlloc_eq:aAlloc key ty cs g = ⟨[],.bx key 0,.new (fam1 ty cs.length cs g)⟩:=(rfl)
def allocZ (key:Nat) (t:TypeId) (g:Option Bool) (z:Option Value):Option Eff:=match z with
 | some z => some (aAlloc key t (z.cells.toList.map .v) g)
 | none => none
theorem allocZ_agg {z:Array Value}:allocZ key ty g (some (.agg z)) = some ⟨[],.bx key 0,.new (fam1 ty (z.toList.map AV.v).length (z.toList.map .v) g)⟩:=(rfl)
theorem allocZ_int {q:IntKind} {x:Int}:allocZ key ty g (some (.int q x)) = some ⟨[],.bx key 0,.new (fam1 ty 1 [.v (.int q x)] g)⟩:=(rfl)
theorem allocZ_bool {x:Bool}:allocZ key ty g (some (.bool x)) = some ⟨[],.bx key 0,.new (fam1 ty 1 [.v (.bool x)] g)⟩:=(rfl)
theorem allocZ_string {x:ByteArray}:allocZ key ty g (some (.string x)) = some ⟨[],.bx key 0,.new (fam1 ty 1 [.v (.string x)] g)⟩:=(rfl)
theorem allocZ_slice {x:Option Addr}:allocZ key ty g (some (.slice x n k)) = some ⟨[],.bx key 0,.new (fam1 ty 1 [.v (.slice x n k)] g)⟩:=(rfl)
theorem allocZ_pointer {x:Option Addr}:allocZ key ty g (some (.pointer x)) = some ⟨[],.bx key 0,.new (fam1 ty 1 [.v (.pointer x)] g)⟩:=(rfl)
theorem allocZ_nilIface:allocZ key ty g (some .nilIface) = some ⟨[],.bx key 0,.new (fam1 ty 1 [.v .nilIface] g)⟩:=(rfl)
theorem allocZ_nilFunc:allocZ key ty g (some .nilFunc) = some ⟨[],.bx key 0,.new (fam1 ty 1 [.v .nilFunc] g)⟩:=(rfl)
theorem aStep_allocV {q:TypeId}:aStep P G key g ⟨d,.alloc q,ty,pos,af,gd⟩ ρ0 m = allocZ key q g (zeroT P q):=by
 kernel_rfl
def boxZ (key:Nat) (t:TypeId) (g:Option Bool) (z:Option (List AV)):Option Eff:=match z with
 | some cs => some (aAlloc key t cs g)
 | none => none
theorem boxZ_some:boxZ key ty g (some cs) = some ⟨[],.bx key 0,.new (fam1 ty cs.length cs g)⟩:=(rfl)
theorem aStep_boxV {q:TypeId} {x:Operand}:aStep P G key g ⟨d,.box q x,ty,pos,af,gd⟩ ρ0 m = boxZ key q g (cellsOf (strip (ρ0 x))):=by
 kernel_rfl
def effL (ob:List Prop) (x:Option AV):Option Eff:=match x with
 | some a => some ⟨ob,a,.none⟩
 | none => none
theorem effL_some {ob:List Prop}:effL ob (some a) = some ⟨ob,a,.none⟩:=(rfl)
def loadF (P:Program) (t:TypeId) (k:Nat) (x:Option Fam):Option Eff:=match x with
 | some fam => match (fam 0).n with
  | 1 => match ofCells P t (((fam 0).get 0).drop k) with
   | some a => some ⟨gOb (fam 0).g [],a,.none⟩
   | none => none
  | _ => none
 | none => none
theorem loadF_1 {q:TypeId}:loadF P q k (some (fam1 ty sz cs g)) = effL (gOb g []) (ofC (layT P q) (cs.drop k)):=by
 rw [← ofCells_eq]
 show (match ofCells P q (cs.drop k) with
   | some a => some (⟨gOb g [],a,.none⟩:Eff)
   | none => none) = _
 cases ofCells P q (cs.drop k) <;> rfl
def loadA (P:Program) (t:TypeId) (p:AV) (m:Mem):Option Eff:=effOf2 (aLoad P t p m)
theorem aStep_loadV {q:TypeId} {p:Operand}:aStep P G key g ⟨d,.load q p,ty,pos,af,gd⟩ ρ0 m = loadA P q (strip (ρ0 p)) m:=(rfl)
theorem loadA_bx {q:TypeId} {r:Nat}:loadA P q (.bx r k) m = loadF P q k (look m r):=by
 unfold loadA loadF
 rw [aLoad_bx]
 unfold optB ifB
 cases look m r with
 | none => rfl
 | some fam =>
  generalize hq:(fam 0).n = c
  rcases c with _ | _ | c
  ·simp [effOf2,hq]
  ·simp only [hq]
   cases ofCells P q (((fam 0).get 0).drop k) <;> simp [effOf2]
  ·simp [effOf2,hq]
theorem loadA_rop {q:TypeId}:loadA P q (.rop cs) m = effL [] (ofC (layT P q) cs):=by
 rw [← ofCells_eq]
 show effOf2 (match ofCells P q cs with
  | some a => some ([],a)
  | none => none) = _
 cases ofCells P q cs <;> rfl
def loadP (P:Program) (t:TypeId) (f i sz k:Nat) (x:Option Fam):Option Eff:=match x with
 | some fam => match ofCells P t (((fam f).get i).drop k) with
  | some a => some ⟨(i < (fam f).n) :: (sz = (fam f).sz) :: gOb (fam f).g [],a,.none⟩
  | none => none
 | none => none
theorem loadA_ptr {q:TypeId} {r f:Nat}:loadA P q (.ptr r f i sz k) m = loadP P q f i sz k (look m r):=by
 unfold loadA loadP aLoad
 dsimp only
 cases look m r with
 | none => rfl
 | some fam =>
  dsimp only
  cases ofCells P _ (((fam f).get i).drop k) <;> rfl
theorem loadP_N {q:TypeId} {get:Nat→List AV} {sz':Nat}:loadP P q 0 i sz k (some (famN n sz' ty get g)) = effL ((i < n) :: (sz = sz') :: gOb g []) (ofC (layT P q) ((get i).drop k)):=by
 rw [← ofCells_eq]
 show (match ofCells P q ((get i).drop k) with
   | some a => some (⟨(i < n) :: (sz = sz') :: gOb g [],a,.none⟩:Eff)
   | none => none) = _
 cases ofCells P q ((get i).drop k) <;> rfl
theorem gOb_none {l:List Prop}:gOb none l = l:=(rfl)
theorem gOb_some {c:Bool} {l:List Prop}:gOb (some c) l = (c = true) :: l:=(rfl)
def storeF (k:Nat) (r:Nat) (cs:List AV) (x:Option Fam):Option Eff:=match x with
 | some fam => match (fam 0).n with
  | 1 => if k + cs.length≤(fam 0).sz then some ⟨gOb (fam 0).g [],.v undef,.set r (set1 fam k cs)⟩ else none
  | _ => none
 | none => none
def storeP (r f i sz k:Nat) (cs:List AV) (x:Option Fam):Option Eff:=match x with
 | some fam => if k + cs.length≤sz then some ⟨(i < (fam f).n) :: (sz = (fam f).sz) :: gOb (fam f).g [],.v undef,.set r (updAt fam f i k cs)⟩ else none
 | none => none
def storeC (p:AV) (m:Mem) (cs:List AV) (ok:Prop) [Decidable ok]:Option Eff:=if ok then (match p with
 | .bx r k => storeF k r cs (look m r)
 | .ptr r f i sz k => storeP r f i sz k cs (look m r)
 | _ => none) else none
def storeX (P:Program) (t:TypeId) (p:AV) (m:Mem) (x:Option (List AV)):Option Eff:=match x with
 | some cs => storeC p m cs ((layT P t).map (·.2) = some cs.length)
 | none => none
theorem aStep_storeV {q:TypeId} {p x:Operand}:aStep P G key g ⟨d,.store q p x,ty,pos,af,gd⟩ ρ0 m = storeX P q (strip (ρ0 p)) m (cellsOf (strip (ρ0 x))):=by
 rw [aStep_store]
 unfold aStore storeX storeC
 generalize strip (ρ0 p) = a
 cases cellsOf (strip (ρ0 x)) with
 | none => rfl
 | some cs =>
  dsimp only
  split
  ·cases a with
   | bx r k =>
    dsimp only
    unfold storeF
    cases look m r with
    | none => rfl
    | some fam =>
     dsimp only
     generalize (fam 0).n = q
     rcases q with _ | _ | q <;> rfl
   | _ => rfl
  ·rfl
theorem storeX_some {q:TypeId}:storeX P q a m (some cs) = storeC a m cs ((layT P q).map (·.2) = some cs.length):=(rfl)
def laySz:Option (Bool×Nat)→Option Nat
 | some (_,n) => some n
 | none => none
theorem storeX_lay {q:TypeId}:storeX P q a m (some cs) = storeC a m cs (laySz (layT P q) = some cs.length):=by
 rw [storeX_some]
 have:(layT P q).map (·.2) = laySz (layT P q):=by cases layT P q <;> rfl
 simp only [this]
theorem laySz_some {c:Bool}:laySz (some (c,n)) = some n:=(rfl)
theorem storeC_bx {r:Nat} {p:Prop} [Decidable p] (h:p):storeC (.bx r k) m cs p = storeF k r cs (look m r):=if_pos h
theorem storeC_ptr {r f:Nat} {p:Prop} [Decidable p] (h:p):storeC (.ptr r f i sz k) m cs p = storeP r f i sz k cs (look m r):=if_pos h
theorem storeF_1 {r:Nat}:storeF k r l (some (fam1 ty sz cs g)) = if k + l.length≤sz then some ⟨gOb g [],.v undef,.set r (fam1 ty sz (putCells cs k l) g)⟩ else none:=by
 have e:set1 (fam1 ty sz cs g) k l = fam1 ty sz (putCells cs k l) g:=by
  funext f
  unfold set1 fam1
  by_cases h:f = 0
  ·subst h; rfl
  ·rw [if_neg h,if_neg h,if_neg h]
 rw [← e]; rfl
theorem storeP_N {r:Nat} {get:Nat→List AV} {sz':Nat}:storeP r 0 i sz k l (some (famN n sz' ty get g)) = if k + l.length≤sz then some ⟨(i < n) :: (sz = sz') :: gOb g [],.v undef,.set r (famN n sz' ty (fun j => if j = i then putCells (get i) k l else get j) g)⟩ else none:=by
 have e:updAt (famN n sz' ty get g) 0 i k l = famN n sz' ty (fun j => if j = i then putCells (get i) k l else get j) g:=by
  funext f
  unfold updAt famN
  by_cases h:f = 0
  ·subst h; rfl
  ·rw [if_neg h,if_neg h,if_neg h]
 rw [← e]; rfl
theorem putCells_eq:putCells cs k l = cs.take k ++ l ++ cs.drop (k + l.length):=(rfl)
def fillP (pl:List (Nat×Nat)) (cells:List AV) (l:List (Nat×AV)):Option (List AV):=fillA (fun i => pl[i]?) cells l
def fillQ (pl:List (Nat×Nat)) (cells:List AV) (l:List (Nat×AV)) (x:Option (Nat×Nat)) (y:Option (List AV)):Option (List AV):=match x with
 | some (off,size) => match y with
  | some cs => if cs.length = size∧off + cs.length≤cells.length then fillP pl (putCells cells off cs) l else none
  | none => none
 | none => none
theorem fillP_nil {pl:List (Nat×Nat)}:fillP pl cs [] = some cs:=(rfl)
theorem fillP_cons {pl:List (Nat×Nat)} {q:List (Nat×AV)}:fillP pl cs ((i,a) :: q) = fillQ pl cs q pl[i]? (cellsOf a):=by
 unfold fillP fillQ
 rw [fillA]
 cases pl[i]? with
 | none => rfl
 | some p => cases cellsOf a <;> rfl
theorem fillQ_some {pl:List (Nat×Nat)} {q:List (Nat×AV)} {off size:Nat}:fillQ pl cs q (some (off,size)) (some l) = if l.length = size∧off + l.length≤cs.length then fillP pl (putCells cs off l) q else none:=(rfl)
def buildZ (pl:Option (List (Nat×Nat))) (z:Option Value) (l:List (Nat×AV)):Option (List AV):=match z with
 | some z => match pl with
  | some pl => fillP pl (z.cells.toList.map .v) l
  | none => none
 | none => none
theorem buildZ_agg {pl:List (Nat×Nat)} {z:Array Value} {q:List (Nat×AV)}:buildZ (some pl) (some (.agg z)) q = fillP pl (z.toList.map .v) q:=(rfl)
def aggE:Option (List AV)→Option Eff
 | some cs => some ⟨[],.agg cs,.none⟩
 | none => none
theorem aggE_some:aggE (some cs) = some ⟨[],.agg cs,.none⟩:=(rfl)
def partsV (t:Slots):List (Nat×Operand)→List (Nat×AV)
 | [] => []
 | (i,x) :: r => (i,strip (opd t x)) :: partsV t r
theorem partsV_eq:∀ (l:List (Nat×Operand)),l.map (fun q => (q.1,strip (opd t q.2))) = partsV t l
 | [] => rfl
 | (i,x) :: r => by rw [List.map_cons,partsV_eq r]; rfl
theorem aStep_buildV {q:TypeId} {parts:Array (Nat×Operand)}:aStep P G key g ⟨d,.build q parts,ty,pos,af,gd⟩ (opd t) m = aggE (buildZ (bPlaces P q) (zeroT P q) (partsV t parts.toList)):=by
 rw [aStep_build,← partsV_eq]
 unfold optB aggE buildZ fillP
 cases zeroT P q with
 | none => rfl
 | some z =>
  dsimp only
  cases bPlaces P q with
  | none => rfl
  | some pl =>
   dsimp only
   cases fillA (fun i => pl[i]?) (z.cells.toList.map .v) (parts.toList.map fun q => (q.1,strip (opd t q.2))) <;> rfl
def fillS (sz:Nat) (cells:List AV) (l:List (Nat×AV)):Option (List AV):=fillA (fun i => some (i * sz,sz)) cells l
def fillT (sz i:Nat) (cells:List AV) (l:List (Nat×AV)) (y:Option (List AV)):Option (List AV):=match y with
 | some cs => if cs.length = sz∧i * sz + cs.length≤cells.length then fillS sz (putCells cells (i * sz) cs) l else none
 | none => none
theorem fillS_nil:fillS sz cs [] = some cs:=(rfl)
theorem fillS_cons {q:List (Nat×AV)}:fillS sz cs ((i,a) :: q) = fillT sz i cs q (cellsOf a):=by
 unfold fillS fillT
 rw [fillA]
 cases cellsOf a <;> rfl
theorem fillT_some {q:List (Nat×AV)}:fillT sz i cs q (some l) = if l.length = sz∧i * sz + l.length≤cs.length then fillS sz (putCells cs (i * sz) l) q else none:=(rfl)
def sliceR (P:Program) (key len:Nat) (e:TypeId) (g:Option Bool) (cs:List AV) (c:Bool):Option Eff:=match c with
 | true => some ⟨[],.ro len (sizeT P e) (rowsOf (sizeT P e) cs),.none⟩
 | false => some ⟨[],.own key 0 len (sizeT P e),.new (famN len (sizeT P e) e (rowsOf (sizeT P e) cs) g)⟩
theorem sliceR_true {e:TypeId}:sliceR P key len e g cs true = some ⟨[],.ro len (sizeT P e) (rowsOf (sizeT P e) cs),.none⟩:=(rfl)
theorem sliceR_false {e:TypeId}:sliceR P key len e g cs false = some ⟨[],.own key 0 len (sizeT P e),.new (famN len (sizeT P e) e (rowsOf (sizeT P e) cs) g)⟩:=(rfl)
def sliceE (P:Program) (key len:Nat) (e:TypeId) (g:Option Bool) (x:Option (List AV)):Option Eff:=match x with
 | some cs => if 13≤sizeT P e * (1 - (1 - ((key - 33) + (33 - key)))) then sliceR P key len e g cs (cs.all (clean 2)) else some ⟨[],.own key 0 len (sizeT P e),.new (famN len (sizeT P e) e (rowsOf (sizeT P e) cs) g)⟩
 | none => none
theorem sliceE_some {e:TypeId}:sliceE P key len e g (some cs) = if 13≤sizeT P e * (1 - (1 - ((key - 33) + (33 - key)))) then sliceR P key len e g cs (cs.all (clean 2)) else some ⟨[],.own key 0 len (sizeT P e),.new (famN len (sizeT P e) e (rowsOf (sizeT P e) cs) g)⟩:=(rfl)
theorem sliceR_if {e:TypeId}:(if 13≤sizeT P e * (1 - (1 - ((key - 33) + (33 - key))))∧cs.all (clean 2) = true then some (⟨[],.ro len (sizeT P e) (rowsOf (sizeT P e) cs),.none⟩:Eff) else some ⟨[],.own key 0 len (sizeT P e),.new (fun f => if f = 0 then ⟨len,sizeT P e,e,rowsOf (sizeT P e) cs,g⟩ else ⟨0,sizeT P e,e,fun _ => [],g⟩)⟩) =
  if 13≤sizeT P e * (1 - (1 - ((key - 33) + (33 - key)))) then sliceR P key len e g cs (cs.all (clean 2)) else some ⟨[],.own key 0 len (sizeT P e),.new (famN len (sizeT P e) e (rowsOf (sizeT P e) cs) g)⟩:=by
 by_cases h:13≤sizeT P e * (1 - (1 - ((key - 33) + (33 - key))))
 ·rw [if_pos h]
  cases hc:cs.all (clean 2)
  ·rw [if_neg (fun q => by cases q.2)]; rfl
  ·rw [if_pos ⟨h,rfl⟩]; rfl
 ·rw [if_neg h,if_neg (fun q => h q.1)]; rfl
def sliceZ (P:Program) (key len:Nat) (e:TypeId) (g:Option Bool) (l:List (Nat×AV)) (z:Option Value):Option Eff:=match z with
 | some z => if len * sizeT P e≤16777216∧z.cells.size = sizeT P e then sliceE P key len e g (fillS (sizeT P e) (zeros z len) l) else none
 | none => none
theorem sliceZ_some {e:TypeId} {q:List (Nat×AV)} {z:Value}:sliceZ P key len e g q (some z) = if len * sizeT P e≤16777216∧z.cells.size = sizeT P e then sliceE P key len e g (fillS (sizeT P e) (zeros z len) q) else none:=(rfl)
def sliceB (P:Program) (key len:Nat) (g:Option Bool) (l:List (Nat×AV)) (e:Option TypeId):Option Eff:=match e with
 | some e => sliceZ P key len e g l (zeroT P e)
 | none => none
theorem sliceB_some {e:TypeId} {q:List (Nat×AV)}:sliceB P key len g q (some e) = sliceZ P key len e g q (zeroT P e):=(rfl)
theorem aStep_buildSliceV {q:TypeId} {parts:Array (Nat×Operand)}:aStep P G key g ⟨d,.buildSlice q n parts,ty,pos,af,gd⟩ (opd t) m = sliceB P key n g (partsV t parts.toList) (sElem P q):=by
 rw [aStep_buildSlice,← partsV_eq]
 unfold optB ifP sliceB sliceZ sliceE fillS
 cases sElem P q with
 | none => rfl
 | some e =>
  dsimp only
  cases zeroT P e with
  | none => rfl
  | some z =>
   dsimp only
   split
   ·cases fillA (fun i => some (i * sizeT P e,sizeT P e)) (zeros z n) (parts.toList.map fun q => (q.1,strip (opd t q.2))) with
    | none => rfl
    | some cs => exact sliceR_if
   ·rfl
theorem rowsOf_eq:rowsOf sz cs i = (cs.drop (i * sz)).take sz:=(rfl)
def offE (off:Option Nat) (p:AV):Option Eff:=match off with
 | some off => effOf (addrOff off p)
 | none => none
theorem offE_bx {r o:Nat}:offE (some o) (.bx r k) = some ⟨[],.bx r (k + o),.none⟩:=(rfl)
theorem offE_ptr {r f o:Nat}:offE (some o) (.ptr r f i sz k) = some ⟨[],.ptr r f i sz (k + o),.none⟩:=(rfl)
theorem offE_rop {o:Nat}:offE (some o) (.rop cs) = some ⟨[],.rop (cs.drop o),.none⟩:=(rfl)
theorem aStep_fieldAddrV {q:TypeId} {x:Operand} {f:Nat}:aStep P G key g ⟨d,.fieldAddr q x f,ty,pos,af,gd⟩ ρ0 m = offE (fOff P q f) (strip (ρ0 x)):=by
 rw [aStep_fieldAddr]
 unfold optB offE
 cases fOff P q f <;> rfl
def fieldE (P:Program) (off:Option Nat) (t:Option TypeId) (x:AV):Option Eff:=match x with
 | .agg cs => match off with
  | some off => match t with
   | some t => effOf (ofCells P t (cs.drop off))
   | none => none
  | none => none
 | _ => none
theorem fieldE_agg {o:Nat} {q:TypeId}:fieldE P (some o) (some q) (.agg cs) = effL [] (ofC (layT P q) (cs.drop o)):=by
 rw [← ofCells_eq]
 show effOf (ofCells P q (cs.drop o)) = _
 cases ofCells P q (cs.drop o) <;> rfl
theorem aStep_fieldV {q:TypeId} {x:Operand} {f:Nat}:aStep P G key g ⟨d,.field q x f,ty,pos,af,gd⟩ ρ0 m = fieldE P (fOff P q f) (fTy P q f) (strip (ρ0 x)):=by
 rw [aStep_field]
 unfold fieldE aField
 cases strip (ρ0 x) with
 | agg cs =>
  dsimp only
  cases fOff P q f with
  | none => rfl
  | some o =>
   dsimp only
   cases fTy P q f <;> rfl
 | _ => rfl
def idxS (P:Program) (ob:List Prop) (sz:Nat) (a:AV) (e:Option TypeId):Option Eff:=match e with
 | some e => if (P.info? e).isSome = true∧sizeT P e = sz then some ⟨ob,a,.none⟩ else none
 | none => none
theorem idxS_some {ob:List Prop} {e:TypeId}:idxS P ob sz a (some e) = if (P.info? e).isSome = true∧sizeT P e = sz then some ⟨ob,a,.none⟩ else none:=(rfl)
def idxA (P:Program) (x:AV) (n:Int) (e:Option (Nat×TypeId)):Option Eff:=match e with
 | some (len,e) => if (P.info? e).isSome = true then (match x with
  | .bx r k => some ⟨[0≤n,n < (len:Int)],.bx r (k + n.toNat * sizeT P e),.none⟩
  | .ptr r f j sz k => some ⟨[0≤n,n < (len:Int)],.ptr r f j sz (k + n.toNat * sizeT P e),.none⟩
  | .rop cs => some ⟨[0≤n,n < (len:Int)],.rop (cs.drop (n.toNat * sizeT P e)),.none⟩
  | _ => none) else none
 | none => none
theorem idxA_bx {r:Nat} {z:Int} {e:TypeId} (h:(P.info? e).isSome = true):idxA P (.bx r k) z (some (len,e)) = some ⟨[0≤z,z < (len:Int)],.bx r (k + z.toNat * sizeT P e),.none⟩:=if_pos h
theorem idxA_ptr {r f:Nat} {z:Int} {e:TypeId} (h:(P.info? e).isSome = true):idxA P (.ptr r f i sz k) z (some (len,e)) = some ⟨[0≤z,z < (len:Int)],.ptr r f i sz (k + z.toNat * sizeT P e),.none⟩:=if_pos h
theorem idxA_rop {z:Int} {e:TypeId} (h:(P.info? e).isSome = true):idxA P (.rop cs) z (some (len,e)) = some ⟨[0≤z,z < (len:Int)],.rop (cs.drop (z.toNat * sizeT P e)),.none⟩:=if_pos h
def idxE (P:Program) (t:TypeId) (x i:AV):Option Eff:=effOf2 (aIndexAddr P t x i)
theorem aStep_indexAddrV {q:TypeId} {x y:Operand}:aStep P G key g ⟨d,.indexAddr q x y,ty,pos,af,gd⟩ ρ0 m = idxE P q (strip (ρ0 x)) (strip (ρ0 y)):=(rfl)
theorem idxE_ro {q:TypeId} {f:Nat→List AV} {c:IntKind} {z:Int}:idxE P q (.ro len sz f) (.v (.int c z)) = idxS P [0≤z,z < (len:Int)] sz (.rop (f z.toNat)) (sElem P q):=by
 unfold idxE idxS
 rw [aIndexAddr_ro]
 unfold optB ifP
 cases sElem P q with
 | none => rfl
 | some e => dsimp only; split <;> rfl
theorem idxE_own {q:TypeId} {r f:Nat} {c:IntKind} {z:Int}:idxE P q (.own r f len sz) (.v (.int c z)) = idxS P [0≤z,z < (len:Int)] sz (.ptr r f z.toNat sz 0) (sElem P q):=by
 unfold idxE idxS
 rw [aIndexAddr_own]
 unfold optB ifP
 cases sElem P q with
 | none => rfl
 | some e => dsimp only; split <;> rfl
theorem idxE_vw {q:TypeId} {r f lo:Nat} {c:IntKind} {z:Int}:idxE P q (.vw r f lo len sz) (.v (.int c z)) = idxS P [0≤z,z < (len:Int)] sz (.ptr r f (lo + z.toNat) sz 0) (sElem P q):=by
 unfold idxE idxS
 rw [aIndexAddr_vw]
 unfold optB ifP
 cases sElem P q with
 | none => rfl
 | some e => dsimp only; split <;> rfl
theorem idxE_bx {q:TypeId} {r:Nat} {c:IntKind} {z:Int}:idxE P q (.bx r k) (.v (.int c z)) = idxA P (.bx r k) z (aElem P q):=by
 unfold idxE idxA
 rw [aIndexAddr_bx]
 unfold optB ifP
 cases aElem P q with
 | none => rfl
 | some e => dsimp only; split <;> rfl
theorem idxE_rop {q:TypeId} {c:IntKind} {z:Int}:idxE P q (.rop cs) (.v (.int c z)) = idxA P (.rop cs) z (aElem P q):=by
 unfold idxE idxA
 rw [aIndexAddr_rop]
 unfold optB ifP
 cases aElem P q with
 | none => rfl
 | some e => dsimp only; split <;> rfl
theorem idxE_ptr {q:TypeId} {r f:Nat} {c:IntKind} {z:Int}:idxE P q (.ptr r f i sz k) (.v (.int c z)) = idxA P (.ptr r f i sz k) z (aElem P q):=by
 unfold idxE idxA aIndexAddr
 dsimp only [intOfA]
 cases aElem P q with
 | none => rfl
 | some e => obtain ⟨len,e⟩:=e; dsimp only; split <;> rfl
def argsV (t:Slots):List Operand→List AV
 | [] => []
 | x :: r => strip (opd t x) :: argsV t r
theorem argsV_eq:∀ (l:List Operand),l.map (fun x => strip (opd t x)) = argsV t l
 | [] => rfl
 | x :: r => by rw [List.map_cons,argsV_eq r]; rfl
theorem argsV_nil:argsV t [] = []:=(rfl)
theorem argsV_cons {x:Operand} {r:List Operand}:argsV t (x :: r) = strip (opd t x) :: argsV t r:=(rfl)
theorem partsV_nil:partsV t [] = []:=(rfl)
theorem partsV_cons {x:Operand} {r:List (Nat×Operand)}:partsV t ((i,x) :: r) = (i,strip (opd t x)) :: partsV t r:=(rfl)
theorem aStep_makeFuncV {f:FuncId} {cap:Array Operand}:aStep P G key g ⟨d,.makeFunc (.func f) #[] cap,ty,pos,af,gd⟩ (opd t) m = some ⟨[],.fn f (argsV t cap.toList),.none⟩:=by
 rw [aStep_makeFunc,argsV_eq]
def ifaceE (q:TypeId) (a:AV) (c:Bool):Option Eff:=match c with
 | true => some ⟨[],.iface q a,.none⟩
 | false => none
theorem ifaceE_true {q:TypeId}:ifaceE q a true = some ⟨[],.iface q a,.none⟩:=(rfl)
theorem aStep_makeInterfaceV {q:TypeId} {x:Operand}:aStep P G key g ⟨d,.makeInterface q x,ty,pos,af,gd⟩ ρ0 m = ifaceE q (strip (ρ0 x)) (concreteT P q):=by
 rw [aStep_makeInterface]
 unfold ifB ifaceE
 cases concreteT P q <;> rfl
def extractE (P:Program) (o:Oper) (i:Nat) (x:AV) (ρ:Operand→AV):Option Eff:=match x with
 | .tup cs => effOf cs[i]?
 | _ => effOf (aPure P ρ o)
theorem aStep_extractV {x:Operand}:aStep P G key g ⟨d,.extract x i,ty,pos,af,gd⟩ ρ0 m = extractE P ⟨d,.extract x i,ty,pos,af,gd⟩ i (strip (ρ0 x)) (fun x => strip (ρ0 x)):=by
 rw [aStep_extract]
 unfold tupK extractE
 cases strip (ρ0 x) <;> rfl
theorem effOf_some:effOf (some a) = some ⟨[],a,.none⟩:=(rfl)
theorem effOf2_some {ob:List Prop}:effOf2 (some (ob,a)) = some ⟨ob,a,.none⟩:=(rfl)
theorem extractE_tup {o:Oper} {ρ:Operand→AV}:extractE P o i (.tup cs) ρ = effOf cs[i]?:=(rfl)
def nilE (P:Program) (o:Oper) (x:AV) (ρ:Operand→AV):Option Eff:=match nonNil x with
 | true => some ⟨[],x,.none⟩
 | false => effOf (aPure P ρ o)
theorem aStep_nilCheckV {x:Operand}:aStep P G key g ⟨d,.nilCheck x,ty,pos,af,gd⟩ ρ0 m = nilE P ⟨d,.nilCheck x,ty,pos,af,gd⟩ (strip (ρ0 x)) (fun x => strip (ρ0 x)):=by
 rw [aStep_nilCheck]
 unfold ifB nilE
 cases nonNil (strip (ρ0 x)) <;> rfl
theorem nilE_bx {o:Oper} {ρ:Operand→AV}:nilE P o (.bx n k) ρ = some ⟨[],.bx n k,.none⟩:=(rfl)
theorem nilE_ptr {o:Oper} {ρ:Operand→AV} {r f:Nat}:nilE P o (.ptr r f i sz k) ρ = some ⟨[],.ptr r f i sz k,.none⟩:=(rfl)
theorem nilE_rop {o:Oper} {ρ:Operand→AV}:nilE P o (.rop cs) ρ = some ⟨[],.rop cs,.none⟩:=(rfl)
theorem nilE_iface {o:Oper} {ρ:Operand→AV} {q:TypeId}:nilE P o (.iface q a) ρ = some ⟨[],.iface q a,.none⟩:=(rfl)
def zeroE (x:Option Value):Option Eff:=match x with
 | some z => some ⟨[],.tup [ofVal1 z,.v (.bool false)],.none⟩
 | none => none
theorem zeroE_agg {x:Array Value}:zeroE (some (.agg x)) = some ⟨[],.tup [.agg (x.toList.map .v),.v (.bool false)],.none⟩:=(rfl)
theorem zeroE_int {q:IntKind} {x:Int}:zeroE (some (.int q x)) = some ⟨[],.tup [.v (.int q x),.v (.bool false)],.none⟩:=(rfl)
theorem zeroE_nilIface:zeroE (some .nilIface) = some ⟨[],.tup [.v .nilIface,.v (.bool false)],.none⟩:=(rfl)
theorem zeroE_pointer {x:Option Addr}:zeroE (some (.pointer x)) = some ⟨[],.tup [.v (.pointer x),.v (.bool false)],.none⟩:=(rfl)
def assertOkE (P:Program) (o:Oper) (q:TypeId) (c:Bool) (x:AV) (ρ:Operand→AV):Option Eff:=match x with
 | .iface u y => match c with
  | true => if u = q then some ⟨[],.tup [y,.v (.bool true)],.none⟩ else zeroE (zeroT P q)
  | false => none
 | _ => effOf (aPure P ρ o)
theorem aStep_assertOkV {x:Operand} {it q:TypeId}:aStep P G key g ⟨d,.typeAssert x it q true,ty,pos,af,gd⟩ ρ0 m = assertOkE P ⟨d,.typeAssert x it q true,ty,pos,af,gd⟩ q (concreteT P q) (strip (ρ0 x)) (fun x => strip (ρ0 x)):=by
 rw [aStep_assertOk]
 unfold ifcK ifB ifP optB assertOkE zeroE
 cases strip (ρ0 x) with
 | iface u y =>
  dsimp only
  cases concreteT P q with
  | false => rfl
  | true =>
   dsimp only
   by_cases h:u = q
   ·rw [if_pos h,if_pos h]
   ·rw [if_neg h,if_neg h]
    cases zeroT P q <;> rfl
 | _ => rfl
theorem assertOkE_iface {o:Oper} {ρ:Operand→AV} {u q:TypeId}:assertOkE P o q true (.iface u a) ρ = if u = q then some ⟨[],.tup [a,.v (.bool true)],.none⟩ else zeroE (zeroT P q):=(rfl)
def assertE (P:Program) (o:Oper) (q:TypeId) (c:Bool) (x:AV) (ρ:Operand→AV):Option Eff:=match x with
 | .iface u y => match c with
  | true => if u = q then some ⟨[],y,.none⟩ else none
  | false => none
 | _ => effOf (aPure P ρ o)
theorem aStep_assertV {x:Operand} {it q:TypeId}:aStep P G key g ⟨d,.typeAssert x it q false,ty,pos,af,gd⟩ ρ0 m = assertE P ⟨d,.typeAssert x it q false,ty,pos,af,gd⟩ q (concreteT P q) (strip (ρ0 x)) (fun x => strip (ρ0 x)):=by
 rw [aStep_assert]
 unfold ifcK ifB ifP assertE
 cases strip (ρ0 x) with
 | iface u y =>
  dsimp only
  all_goals (cases concreteT P q <;> rfl)
 | _ => rfl
theorem assertE_iface {o:Oper} {ρ:Operand→AV} {u q:TypeId}:assertE P o q true (.iface u a) ρ = if u = q then some ⟨[],a,.none⟩ else none:=(rfl)
def binE (P:Program) (op:BinOp) (q:TypeId) (a b:AV):Option Eff:=match flat a with
 | some x => match flat b with
  | some y => match pureRun P (Go.binOp op q x y) with
   | some v => some ⟨[],ofVal v,.none⟩
   | none => none
  | none => none
 | none => none
end
end Go.Ax
end