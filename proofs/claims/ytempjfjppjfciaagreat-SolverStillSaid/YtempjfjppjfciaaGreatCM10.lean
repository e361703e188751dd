/-
  The frame of a law: its arguments ars abstract values, and what they read ars behind the call.
-/
import Derived.Test.YtempjfjppjfciaaGreatCM9
import Derived.ShutString
import Derived.ChangeOld
import Derived.Below
set_option linter.unusedVariables false
set_option linter.unusedSimpArgs false
section
namespace Go.Ax
open Go.ChangeShapes Go.WideShapes Go.ChangeAt Go.RowKit
inductive ShV where
 | int (k:IntKind)
 | bool
 | agg (es:List Sh)
 | slice (sz:Nat) (es:List Sh)
def shV (P:Program) (t:TypeId):Option ShV:=
 match P.underlying t with
 | some .bool => some .bool
 | some (.int k) => some (.int k)
 | some (.slice _) => match shT P 6 t with
  | some [.slice sz es] => some (.slice sz es)
  | _ => none
 | some (.struct _) => (shT P 6 t).map .agg
 | some (.array _ _) => (shT P 6 t).map .agg
 | _ => none
def fitV:ShV → AV → Prop
 | .int k,a => ∃ n,a = .v (.int k n) ∧ (Lit.int k n).wf = true
 | .bool,a => ∃ b,a = .v (.bool b)
 | .agg es,a => ∃ l,a = .agg l ∧ fitS es l
 | .slice sz es,a => ∃ (n:Nat) (get:Nat → List AV),a = .ro n sz get ∧ n ≤ maxLen ∧ ∀ i,fitS es (get i)
def shVs (P:Program):List TypeId → Option (List ShV)
 | [] => some []
 | t :: ts => match shV P t,shVs P ts with
  | some s,some r => some (s :: r)
  | _,_ => none
def fitVs:List ShV → List AV → Prop
 | [],l => l = []
 | s :: ss,l => ∃ a r,l = a :: r ∧ fitV s a ∧ fitVs ss r
section
variable {H:Type} {enc:TypeId × Value → H} {P:Program} {w:World} {spare:Nat → Bool} {held:Bool} {base:Nat}
theorem okWide_agg_struct {t:TypeId} {fs:Array Field} {v:Value} (ht:P.underlying t = some (.struct fs)) (h:Value.okWide P w .any base t v):∃ cs,v = .agg cs:=by
 obtain ⟨cs,h,_⟩:=okWide_struct ht h
 exact ⟨cs,h⟩
theorem trod_agg_array {t e:TypeId} {n:Nat} {v:Value} {x:DataW H} {ps:List MemPlace} (ht:P.underlying t = some (.array n e)) (h:Value.okWide P w .any base t v):∃ cs,v = .agg cs:=by
 cases v <;> simp [Value.okWide,Value.ok,ht] at h <;> exact ⟨_,rfl⟩
theorem arg_read {t:TypeId} {s:ShV} {v:Value} {x:DataW H} {ps:List MemPlace} (hs:shV P t = some s) (ho:Value.okWide P w .any base t v) (h:DataW.Trod enc P w 0 spare held t v x ps):∃ a,fitV s a ∧ R w (.ext (All w)) a v:=by
 unfold shV at hs
 split at hs
 ·rename_i hu
  cases hs
  obtain ⟨b,rfl⟩:=okWide_bool hu ho
  exact ⟨_,⟨b,rfl⟩,.v⟩
 ·rename_i k hu
  cases hs
  obtain ⟨n,rfl,_,_,hw⟩:=open_int hu ho h
  exact ⟨_,⟨n,rfl,hw⟩,.v⟩
 ·rename_i e hu
  split at hs
  ·rename_i sz es he
   cases hs
   obtain ⟨a,len,cap,rfl⟩:=okWide_slice hu ho
   obtain ⟨n,get,h1,h2,h3⟩:=slice_read he h
   exact ⟨_,⟨n,get,rfl,h1,h2⟩,h3⟩
  ·cases hs
 ·rename_i fs hu
  obtain ⟨es,he,rfl⟩:=Option.map_eq_some_iff.1 hs
  obtain ⟨cs,rfl⟩:=okWide_agg_struct hu ho
  obtain ⟨l,h1,h2⟩:=agg_read he h
  exact ⟨_,⟨l,rfl,h1⟩,h2⟩
 ·rename_i n e hu
  obtain ⟨es,he,rfl⟩:=Option.map_eq_some_iff.1 hs
  obtain ⟨cs,rfl⟩:=trod_agg_array (x:=x) (ps:=ps) hu ho
  obtain ⟨l,h1,h2⟩:=agg_read he h
  exact ⟨_,⟨l,rfl,h1⟩,h2⟩
 ·cases hs
theorem args_read:∀ {ts:List TypeId} {ss:List ShV} {vs:List Value} {ds:List (DataW H)} {ps:List MemPlace},shVs P ts = some ss → (∀ (j:Nat) t v,ts[j]? = some t → vs[j]? = some v → Value.okWide P w .any base t v) →
  DataW.TrodAll enc P w 0 spare held ts vs ds ps → ∃ l,fitVs ss l ∧ Rs w (.ext (All w)) l vs
 | [],ss,vs,ds,ps,hs,ho,h => by
  simp only [shVs,Option.some.injEq] at hs
  subst hs
  obtain ⟨rfl,rfl,rfl⟩:=trodAll_nil h
  exact ⟨[],rfl,.nil⟩
 | t :: ts,ss,vs,ds,ps,hs,ho,h => by
  simp only [shVs] at hs
  split at hs
  ·rename_i s r h1 h2
   cases hs
   obtain ⟨v,vs',d,ds',p,q,rfl,rfl,rfl,h3,h4⟩:=trodAll_cons h
   obtain ⟨a,a1,a2⟩:=arg_read h1 (ho 0 t v rfl rfl) h3
   obtain ⟨l,b1,b2⟩:=args_read h2 (fun j t v hj hv => ho (j + 1) t v (by simpa using hj) (by simpa using hv)) h4
   exact ⟨a :: l,⟨a,l,rfl,a1,b1⟩,Rs.cons a2 b2⟩
  ·cases hs
def readOK (P:Program) (ts:List TypeId):Bool:=ts.all fun t => P.readableRec t && decide (t < P.types.size)
theorem args_stay {W W':World} (hl:laidOutB P = true) (hb:Below W.heap.size W W'):∀ {ts:List TypeId} {vs:List Value} {ds:List (DataW H)} {ps:List MemPlace},readOK P ts = true →
  DataW.TrodAll enc P W 0 (fun _ => true) true ts vs ds ps → ∃ ps,DataW.TrodAll enc P W' 0 (fun b => decide (b < W.heap.size)) true ts vs ds ps
 | [],vs,ds,ps,_,h => by
  obtain ⟨rfl,rfl,rfl⟩:=trodAll_nil h
  exact ⟨[],rfl⟩
 | t :: ts,vs,ds,ps,hr,h => by
  obtain ⟨v,vs',d,ds',p,q,rfl,rfl,rfl,h3,h4⟩:=trodAll_cons h
  simp only [readOK,List.all_cons,Bool.and_eq_true,decide_eq_true_eq] at hr
  obtain ⟨q',h5⟩:=args_stay hl hb (by simpa [readOK] using hr.2) h4
  refine ⟨_,trodAll_cons_mk (Below.trod hl hr.1.1 hr.1.2 h3 hb ?_) h5⟩
  obtain ⟨m,hm⟩:=h3
  exact DataW.trod_lt m _ _ _ hm
end
end Go.Ax
end
section
/-
  Laws about bodies: their arguments.
-/
set_option maxHeartbeats 4000000
set_option maxRecDepth 100000
namespace Go.Ax
open Go.Proofs
end Go.Ax
end