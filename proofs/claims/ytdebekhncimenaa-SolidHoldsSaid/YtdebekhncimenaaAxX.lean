/-
  Equations of first order: what a function hands back; loops.
-/
import Derived.Test.YtdebekhncimenaaAxW
set_option linter.unusedVariables false
set_option linter.unusedSimpArgs false
namespace Go.Ax

section
variable {P : Program} {G : Ctx} {H : Hots} {K0 : AEx → St → Prop} {st : List Fr} {s s' : St} {n sz i j k key d nx : Nat} {t : Slots} {m : Mem} {a b : AV} {l cs : List AV} {ty q : TypeId} {Q : AV → Prop} {rs : List ResultVar} {g : Option Bool}

/-! ### Results -/
def tmpE (a : AV) : Option Eff := match a with
  | .cond _ _ => none
  | a => some ⟨[], a, .none⟩
theorem tmpE_v {x : Value} : tmpE (.v x) = some ⟨[], .v x, .none⟩ := (rfl)
theorem tmpE_agg : tmpE (.agg l) = some ⟨[], .agg l, .none⟩ := (rfl)
theorem tmpE_ro {f : Nat → List AV} : tmpE (.ro n sz f) = some ⟨[], .ro n sz f, .none⟩ := (rfl)
theorem tmpE_own {r f : Nat} : tmpE (.own r f n sz) = some ⟨[], .own r f n sz, .none⟩ := (rfl)
theorem tmpE_vw {r f lo : Nat} : tmpE (.vw r f lo n sz) = some ⟨[], .vw r f lo n sz, .none⟩ := (rfl)
theorem tmpE_fn {f : FuncId} : tmpE (.fn f l) = some ⟨[], .fn f l, .none⟩ := (rfl)
theorem tmpE_iface : tmpE (.iface q a) = some ⟨[], .iface q a, .none⟩ := (rfl)
theorem tmpE_rop : tmpE (.rop l) = some ⟨[], .rop l, .none⟩ := (rfl)
theorem tmpE_bx : tmpE (.bx n k) = some ⟨[], .bx n k, .none⟩ := (rfl)
def resE (P : Program) (t : Slots) (m : Mem) (r : ResultVar) : Option Eff := match r with
  | .tmp k => tmpE (slot t k)
  | .cell a ty => loadA P ty (slot t a) m
theorem resE_tmp : resE P t m (.tmp k) = tmpE (slot t k) := (rfl)
theorem resE_cell : resE P t m (.cell k ty) = loadA P ty (slot t k) m := (rfl)
def retQ (m : Mem) (Q : AV → Prop) (l : List AV) : Prop := match l with
  | [a] => Q (pur 3 m a)
  | es => Q (pur 3 m (.tup es))
theorem retQ_one : retQ m Q [a] = Q (pur 3 m a) := (rfl)
theorem retQ_none : retQ m Q [] = Q (pur 3 m (.tup [])) := (rfl)
theorem retQ_more : retQ m Q (a :: b :: l) = Q (pur 3 m (.tup (a :: b :: l))) := (rfl)
def retL (P : Program) (t : Slots) (m : Mem) (Q : AV → Prop) : List ResultVar → List AV → Prop
  | [], l => retQ m Q l
  | r :: rs, l => match resE P t m r with
    | some e => conj e.ob (retL P t m Q rs (l ++ [e.val]))
    | none => False
def retS (P : Program) (t : Slots) (m : Mem) (Q : AV → Prop) (rs : List ResultVar) (l : List AV) (x : Option Eff) : Prop := match x with
  | some e => conj e.ob (retL P t m Q rs (l ++ [e.val]))
  | none => False
theorem retL_nil : retL P t m Q [] l = retQ m Q l := (rfl)
theorem retL_cons {r : ResultVar} : retL P t m Q (r :: rs) l = retS P t m Q rs l (resE P t m r) := (rfl)
theorem retS_some {ob : List Prop} {u : Upd} : retS P t m Q rs l (some ⟨ob, a, u⟩) = conj ob (retL P t m Q rs (l ++ [a])) := (rfl)
def endR (P : Program) (rs : List ResultVar) (Q : AV → Prop) (e : AEx) (s : St) : Prop := match e with
  | .exit _ => False
  | _ => retL P s.t s.m Q rs []
theorem endR_ret : endR P rs Q .ret ⟨t, m, nx⟩ = retL P t m Q rs [] := (rfl)
theorem endR_normal : endR P rs Q .normal ⟨t, m, nx⟩ = retL P t m Q rs [] := (rfl)

theorem conj_app : ∀ {p q : List Prop} {k : Prop}, conj (p ++ q) k ↔ conj p (conj q k)
  | [], _, _ => Iff.rfl
  | a :: p, q, k => and_congr Iff.rfl (conj_app (p := p))
theorem conj_mono : ∀ {p : List Prop} {k k' : Prop}, (k → k') → conj p k → conj p k'
  | [], _, _, h, x => h x
  | _ :: _, _, _, h, x => ⟨x.1, conj_mono h x.2⟩
theorem resOf_E {r : ResultVar} {e : Eff} (h : resE P s.t s.m r = some e) : resOf P r s = some (e.ob, e.val) := by
  cases r with
  | tmp k =>
    simp only [resE, tmpE] at h
    simp only [resOf]
    split at h
    · cases h
    · rename_i a hne
      cases h
      split
      · rename_i c x hc; exact (hne c x hc).elim
      · rfl
  | cell k ty =>
    simp only [resE, loadA, effOf2] at h
    simp only [resOf]
    split at h
    · rename_i ob x hx; cases h; exact hx
    · cases h
theorem retL_sound : ∀ {rs : List ResultVar} {l : List AV}, retL P s.t s.m Q rs l → ∃ ob es, resList P s rs = some (ob, es) ∧ (∀ p ∈ ob, p) ∧ retQ s.m Q (l ++ es)
  | [], l, h => ⟨[], [], rfl, by simp, by simpa [retL] using h⟩
  | r :: rs, l, h => by
    simp only [retL] at h
    split at h
    · rename_i e he
      obtain ⟨ob, es, h1, h2, h3⟩ := retL_sound (rs := rs) (conj_iff.1 h).2
      refine ⟨e.ob ++ ob, e.val :: es, ?_, fun p hp => ?_, by simpa using h3⟩
      · simp only [resList, resOf_E he, h1]
      · rcases List.mem_append.1 hp with hp | hp
        · exact (conj_iff.1 h).1 p hp
        · exact h2 p hp
    · exact h.elim
theorem endR_sound {fn : Func} (hr : fn.results.toList = rs) {e : AEx} (h : endR P rs Q e s) : endK P fn Q e s := by
  have key : retL P s.t s.m Q rs [] → match resAll P s fn.results.toList with
      | some (ob, a) => conj ob (Q (pur 3 s.m a))
      | none => False := fun h => by
    obtain ⟨ob, es, h1, h2, h3⟩ := retL_sound h
    rw [hr]
    simp only [resAll, h1]
    rw [List.nil_append] at h3
    cases es with
    | nil => exact conj_iff.2 ⟨h2, h3⟩
    | cons a es => cases es with
      | nil => exact conj_iff.2 ⟨h2, h3⟩
      | cons b es => exact conj_iff.2 ⟨h2, h3⟩
  cases e with
  | exit j => exact h.elim
  | normal => exact key h
  | ret => exact key h

theorem awp_mono {K K' : AEx → St → Prop} (hK : ∀ e s, K e s → K' e s) : ∀ {c : Code} {s : St}, awp P G H c s K → awp P G H c s K'
  | .skip, s, h => hK _ _ h
  | .region id ops draw, s, h => regP_mono (fun s h => hK _ _ h) h
  | .seq a b, s, h => awp_mono (c := a) (fun e s => by cases e <;> first | exact fun h => awp_mono hK h | exact hK _ _) h
  | .cond c x y, s, h => by
    simp only [awp, optK] at h ⊢
    split at h
    · exact ⟨fun e => awp_mono hK (h.1 e), fun e => awp_mono hK (h.2 e)⟩
    · exact h
  | .block id c, s, h => awp_mono (c := c) (fun e s => by
      cases e with
      | normal => exact hK _ _
      | ret => exact hK _ _
      | exit j => intro h; simp only [blockK] at h ⊢; split at h <;> simp_all) h
  | .ret, s, h => hK _ _ h
  | .exit id, s, h => hK _ _ h
  | .loop c, s, h => by
    obtain ⟨X, I, h0, h1⟩ := h
    exact ⟨X, I, h0, fun x hx => awp_mono (c := c) (fun e s => by cases e <;> first | exact fun h => h | exact hK _ _) (h1 x hx)⟩
  | .rangeFunc g ps x c, s, h => by
    simp only [awp, optK] at h ⊢
    split at h
    · obtain ⟨hob, h1, X, I, cnt, h2, h3, h4, h5⟩ := conj_iff.1 h
      refine conj_iff.2 ⟨hob, h1, X, I, cnt, h2, h3, fun y hy hc => awp_mono (c := x) (fun e s => ?_) (h4 y hy hc), fun y hy hc => hK _ _ (h5 y hy hc)⟩
      cases e with
      | normal => exact fun h => awp_mono (c := c) (fun e s => by cases e <;> first | exact fun h => h | exact hK _ _) h
      | exit j => exact fun h => h
      | ret => exact fun h => h
    · exact h
  | .scope .., s, h => h.elim
  | .label .., s, h => h.elim
  | .goto .., s, h => h.elim
  | .refuse .., s, h => h.elim

/-- A function's body. -/
theorem fnVC_go {fn : Func} {c : Code} {es : List AV} (hb : fn.body = some c) (hr : fn.results.toList = rs) (h : goC P G H (endR P rs Q) c [] ⟨argSlots 0 es, [], 0⟩) : fnVC P G H fn es Q := by
  unfold fnVC
  rw [hb]
  exact awp_mono (fun e s h => endR_sound hr h) h

theorem argSlots_nil : argSlots i [] = [] := (rfl)
theorem argSlots_cons : argSlots i (a :: l) = (i, a) :: argSlots (i + 1) l := (rfl)

/-! ### What an outsider sees -/
theorem pur_v {x : Value} : pur d m (.v x) = .v x := by cases d <;> rfl
theorem pur_any : pur d m .any = .any := by cases d <;> rfl
theorem pur_ro {f : Nat → List AV} : pur d m (.ro n sz f) = .ro n sz f := by cases d <;> rfl
theorem pur_rop : pur d m (.rop l) = .rop l := by cases d <;> rfl
/-- 'pur' in each of several. -/
def purL (d : Nat) (m : Mem) : List AV → List AV
  | [] => []
  | a :: l => pur d m a :: purL d m l
theorem purL_eq : ∀ {l : List AV}, l.map (pur d m) = purL d m l
  | [] => rfl
  | a :: l => by rw [List.map_cons, purL_eq]; rfl
theorem purL_nil : purL d m [] = [] := (rfl)
theorem purL_cons : purL d m (a :: l) = pur d m a :: purL d m l := (rfl)
theorem pur_agg : pur (d + 1) m (.agg l) = .agg (purL d m l) := by rw [← purL_eq]; rfl
theorem pur_tup : pur (d + 1) m (.tup l) = .tup (purL d m l) := by rw [← purL_eq]; rfl
theorem pur_iface : pur (d + 1) m (.iface q a) = .iface q (pur d m a) := (rfl)
theorem pur_fn {f : FuncId} : pur (d + 1) m (.fn f l) = .fn f (purL d m l) := by rw [← purL_eq]; rfl
def purB (d k : Nat) (m : Mem) (x : Option Fam) : AV := match x with
  | some fam => match (fam 0).n, (fam 0).g with
    | 1, none => .rop ((((fam 0).get 0).drop k).map (pur d m))
    | _, _ => .any
  | none => .any
theorem pur_bx {r : Nat} : pur (d + 1) m (.bx r k) = purB d k m (look m r) := (rfl)
theorem purB_1 : purB d k m (some (fam1 ty sz cs none)) = .rop (purL d m (cs.drop k)) := by rw [← purL_eq]; rfl
/-- Rows as an outsider sees them. -/
def rowG (d : Nat) (m : Mem) (get : Nat → List AV) : Nat → List AV := fun i => purL d m (get i)
theorem rowG_eq {get : Nat → List AV} : rowG d m get = fun i => purL d m (get i) := (rfl)
def purO (d f n sz : Nat) (m : Mem) (x : Option Fam) : AV := match x with
  | some fam => match (fam f).g with
    | none => if n ≤ (fam f).n ∧ sz = (fam f).sz then .ro n sz (fun i => ((fam f).get i).map (pur d m)) else .any
    | some _ => .any
  | none => .any
theorem pur_own {r f : Nat} : pur (d + 1) m (.own r f n sz) = purO d f n sz m (look m r) := (rfl)
theorem purO_N {n' sz' : Nat} {get : Nat → List AV} (h : n ≤ n' ∧ sz = sz') : purO d 0 n sz m (some (famN n' sz' ty get none)) = .ro n sz (rowG d m get) := by
  show (if n ≤ n' ∧ sz = sz' then AV.ro n sz (fun i => (get i).map (pur d m)) else .any) = _
  rw [if_pos h]
  congr 1
  funext i
  exact purL_eq
def purW (d f lo n sz : Nat) (m : Mem) (x : Option Fam) : AV := match x with
  | some fam => match (fam f).g with
    | none => if lo + n ≤ (fam f).n ∧ sz = (fam f).sz then .ro n sz (fun i => ((fam f).get (lo + i)).map (pur d m)) else .any
    | some _ => .any
  | none => .any
theorem pur_vw {r f lo : Nat} : pur (d + 1) m (.vw r f lo n sz) = purW d f lo n sz m (look m r) := (rfl)
theorem purW_N {n' sz' lo : Nat} {get : Nat → List AV} (h : lo + n ≤ n' ∧ sz = sz') : purW d 0 lo n sz m (some (famN n' sz' ty get none)) = .ro n sz (fun i => purL d m (get (lo + i))) := by
  show (if lo + n ≤ n' ∧ sz = sz' then AV.ro n sz (fun i => (get (lo + i)).map (pur d m)) else .any) = _
  rw [if_pos h]
  congr 1
  funext i
  exact purL_eq

/-! ### What a callee sees -/
def purUL (d : Nat) (m : Mem) : List AV → List AV
  | [] => []
  | a :: l => purU d m a :: purUL d m l
theorem purUL_eq : ∀ {l : List AV}, l.map (purU d m) = purUL d m l
  | [] => rfl
  | a :: l => by rw [List.map_cons, purUL_eq]; rfl
theorem purUL_nil : purUL d m [] = [] := (rfl)
theorem purUL_cons : purUL d m (a :: l) = purU d m a :: purUL d m l := (rfl)
theorem purU_v {x : Value} : purU d m (.v x) = .v x := by cases d <;> rfl
theorem purU_any : purU d m .any = .any := by cases d <;> rfl
theorem purU_ro {f : Nat → List AV} : purU d m (.ro n sz f) = .ro n sz f := by cases d <;> rfl
theorem purU_rop : purU d m (.rop l) = .rop l := by cases d <;> rfl
theorem purU_agg : purU (d + 1) m (.agg l) = .agg (purUL d m l) := by rw [← purUL_eq]; rfl
theorem purU_tup : purU (d + 1) m (.tup l) = .tup (purUL d m l) := by rw [← purUL_eq]; rfl
theorem purU_iface : purU (d + 1) m (.iface q a) = .iface q (purU d m a) := (rfl)
theorem purU_fn {f : FuncId} : purU (d + 1) m (.fn f l) = .fn f (purUL d m l) := by rw [← purUL_eq]; rfl
def purUB (d k : Nat) (m : Mem) (x : Option Fam) : AV := match x with
  | some fam => match (fam 0).n with
    | 1 => .rop ((((fam 0).get 0).drop k).map (purU d m))
    | _ => .any
  | none => .any
theorem purU_bx {r : Nat} : purU (d + 1) m (.bx r k) = purUB d k m (look m r) := (rfl)
theorem purUB_1 : purUB d k m (some (fam1 ty sz cs g)) = .rop (purUL d m (cs.drop k)) := by rw [← purUL_eq]; rfl
def purUO (d f n sz : Nat) (m : Mem) (x : Option Fam) : AV := match x with
  | some fam => if n ≤ (fam f).n ∧ sz = (fam f).sz then .ro n sz (fun i => ((fam f).get i).map (pur d m)) else .any
  | none => .any
theorem purU_own {r f : Nat} : purU (d + 1) m (.own r f n sz) = purUO d f n sz m (look m r) := (rfl)
theorem purUO_N {n' sz' : Nat} {get : Nat → List AV} (h : n ≤ n' ∧ sz = sz') : purUO d 0 n sz m (some (famN n' sz' ty get g)) = .ro n sz (rowG d m get) := by
  show (if n ≤ n' ∧ sz = sz' then AV.ro n sz (fun i => (get i).map (pur d m)) else .any) = _
  rw [if_pos h]
  congr 1
  funext i
  exact purL_eq
theorem purL_take : ∀ {l : List AV} {n : Nat}, purL d m (l.take n) = (purL d m l).take n := by
  intro l n; rw [← purL_eq, ← purL_eq, List.map_take]
theorem purL_drop : ∀ {l : List AV} {n : Nat}, purL d m (l.drop n) = (purL d m l).drop n := by
  intro l n; rw [← purL_eq, ← purL_eq, List.map_drop]
theorem rowG_rows {l : List AV} : rowG d m (rowsOf sz l) = rowsOf sz (purL d m l) := by
  funext i; unfold rowG rowsOf; rw [purL_take, purL_drop]
def purUW (d f lo n sz : Nat) (m : Mem) (x : Option Fam) : AV := match x with
  | some fam => if lo + n ≤ (fam f).n ∧ sz = (fam f).sz then .ro n sz (fun i => ((fam f).get (lo + i)).map (pur d m)) else .any
  | none => .any
theorem purU_vw {r f lo : Nat} : purU (d + 1) m (.vw r f lo n sz) = purUW d f lo n sz m (look m r) := (rfl)
theorem purUW_N {n' sz' lo : Nat} {get : Nat → List AV} (h : lo + n ≤ n' ∧ sz = sz') : purUW d 0 lo n sz m (some (famN n' sz' ty get g)) = .ro n sz (fun i => purL d m (get (lo + i))) := by
  show (if lo + n ≤ n' ∧ sz = sz' then AV.ro n sz (fun i => (get (lo + i)).map (pur d m)) else .any) = _
  rw [if_pos h]
  congr 1
  funext i
  exact purL_eq
/-- The guards of the rows in several. -/
def pgsL (d : Nat) (m : Mem) : List AV → List Prop
  | [] => []
  | a :: l => pgs d m a ++ pgsL d m l
theorem pgsL_eq : ∀ {l : List AV}, l.flatMap (pgs d m) = pgsL d m l
  | [] => rfl
  | a :: l => by rw [List.flatMap_cons, pgsL_eq]; rfl
theorem pgsL_nil : pgsL d m [] = [] := (rfl)
theorem pgsL_cons : pgsL d m (a :: l) = pgs d m a ++ pgsL d m l := (rfl)
theorem pgs_v {x : Value} : pgs d m (.v x) = [] := by cases d <;> rfl
theorem pgs_any : pgs d m .any = [] := by cases d <;> rfl
theorem pgs_ro {f : Nat → List AV} : pgs d m (.ro n sz f) = [] := by cases d <;> rfl
theorem pgs_rop : pgs d m (.rop l) = [] := by cases d <;> rfl
theorem pgs_agg : pgs (d + 1) m (.agg l) = pgsL d m l := by rw [← pgsL_eq]; rfl
theorem pgs_tup : pgs (d + 1) m (.tup l) = pgsL d m l := by rw [← pgsL_eq]; rfl
theorem pgs_iface : pgs (d + 1) m (.iface q a) = pgs d m a := (rfl)
theorem pgs_fn {f : FuncId} : pgs (d + 1) m (.fn f l) = pgsL d m l := by rw [← pgsL_eq]; rfl
def pgsB (d k : Nat) (m : Mem) (x : Option Fam) : List Prop := match x with
  | some fam => gOb (fam 0).g ((((fam 0).get 0).drop k).flatMap (pgs d m))
  | none => []
theorem pgs_bx {r : Nat} : pgs (d + 1) m (.bx r k) = pgsB d k m (look m r) := (rfl)
theorem pgsB_1 : pgsB d k m (some (fam1 ty sz cs g)) = gOb g (pgsL d m (cs.drop k)) := by rw [← pgsL_eq]; rfl
def pgsO (f : Nat) (x : Option Fam) : List Prop := match x with
  | some fam => gOb (fam f).g []
  | none => []
theorem pgs_own {r f : Nat} : pgs (d + 1) m (.own r f n sz) = pgsO f (look m r) := (rfl)
theorem pgs_vw {r f lo : Nat} : pgs (d + 1) m (.vw r f lo n sz) = pgsO f (look m r) := (rfl)
theorem pgsO_N {n' sz' : Nat} {get : Nat → List AV} : pgsO 0 (some (famN n' sz' ty get g)) = gOb g [] := (rfl)

def cleanL (d : Nat) : List AV → Bool
  | [] => true
  | a :: l => clean d a && cleanL d l
theorem cleanL_eq : ∀ {l : List AV}, l.all (clean d) = cleanL d l
  | [] => rfl
  | a :: l => by rw [List.all_cons, cleanL_eq]; rfl
theorem cleanL_nil : cleanL d [] = true := (rfl)
theorem cleanL_cons : cleanL d (a :: l) = (clean d a && cleanL d l) := (rfl)
theorem clean_v {x : Value} : clean d (.v x) = true := by cases d <;> rfl
theorem clean_any : clean d .any = true := by cases d <;> rfl
theorem clean_ro {f : Nat → List AV} : clean d (.ro n sz f) = true := by cases d <;> rfl
theorem clean_rop : clean d (.rop l) = true := by cases d <;> rfl
theorem clean_bx : clean d (.bx n k) = false := by cases d <;> rfl
theorem clean_ptr {r f : Nat} : clean d (.ptr r f i sz k) = false := by cases d <;> rfl
theorem clean_own {r f : Nat} : clean d (.own r f n sz) = false := by cases d <;> rfl
theorem clean_vw {r f lo : Nat} : clean d (.vw r f lo n sz) = false := by cases d <;> rfl
theorem clean_agg : clean (d + 1) (.agg l) = cleanL d l := by rw [← cleanL_eq]; rfl
theorem clean_tup : clean (d + 1) (.tup l) = cleanL d l := by rw [← cleanL_eq]; rfl
theorem clean_fn {f : FuncId} : clean (d + 1) (.fn f l) = cleanL d l := by rw [← cleanL_eq]; rfl
theorem clean_iface : clean (d + 1) (.iface q a) = clean d a := (rfl)
def plainL (d : Nat) : List AV → Bool
  | [] => true
  | a :: l => plain d a && plainL d l
theorem plainL_eq : ∀ {l : List AV}, l.all (plain d) = plainL d l
  | [] => rfl
  | a :: l => by rw [List.all_cons, plainL_eq]; rfl
theorem plainL_nil : plainL d [] = true := (rfl)
theorem plainL_cons : plainL d (a :: l) = (plain d a && plainL d l) := (rfl)
theorem plain_v {x : Value} : plain d (.v x) = true := by cases d <;> rfl
theorem plain_agg : plain (d + 1) (.agg l) = plainL d l := by rw [← plainL_eq]; rfl
theorem plain_tup : plain (d + 1) (.tup l) = plainL d l := by rw [← plainL_eq]; rfl
theorem plain_iface : plain (d + 1) (.iface q a) = plain d a := (rfl)

/-! ### Loops -/
def elemB (j : Nat) : List Nat → Bool
  | [] => false
  | k :: r => if j = k then true else elemB j r
theorem elemB_iff {j : Nat} : ∀ {l : List Nat}, elemB j l = true ↔ j ∈ l
  | [] => by simp [elemB]
  | k :: r => by
    simp only [elemB, List.mem_cons]
    by_cases h : j = k
    · simp [h]
    · simp [h, elemB_iff]
def dropB (W : List Nat) : Slots → Slots
  | [] => []
  | (j, a) :: r => bif elemB j W then dropB W r else (j, a) :: dropB W r
theorem dropB_eq {W : List Nat} : ∀ {t : Slots}, dropW W t = dropB W t
  | [] => rfl
  | (j, a) :: r => by
    simp only [dropW, dropB]
    by_cases h : j ∈ W
    · rw [if_pos h, elemB_iff.2 h, dropB_eq]; rfl
    · rw [if_neg h]
      have : elemB j W = false := by cases hb : elemB j W; rfl; exact (h (elemB_iff.1 hb)).elim
      rw [this, dropB_eq]; rfl
def anyS : List Nat → Slots
  | [] => []
  | j :: r => (j, .any) :: anyS r
theorem anyS_eq : ∀ {W : List Nat}, (W.map fun j => (j, AV.any)) = anyS W
  | [] => rfl
  | j :: r => by rw [List.map_cons, anyS_eq]; rfl
theorem anyS_nil : anyS [] = [] := (rfl)
theorem anyS_cons {r : List Nat} : anyS (j :: r) = (j, .any) :: anyS r := (rfl)
theorem dropB_nil {W : List Nat} : dropB W [] = [] := (rfl)
theorem dropB_cons {W : List Nat} : dropB W ((j, a) :: t) = bif elemB j W then dropB W t else (j, a) :: dropB W t := (rfl)
theorem elemB_nil : elemB j [] = false := (rfl)
theorem elemB_cons {r : List Nat} : elemB j (k :: r) = if j = k then true else elemB j r := (rfl)
theorem keptRows_nil {m : Mem} : keptRows [] m = [] := by simp [keptRows]
theorem keptRows_cons {W : List Nat} {x : Fam} : keptRows W ((k, x) :: m) = bif elemB k W then (k, x) :: keptRows W m else keptRows W m := by
  unfold keptRows
  rw [List.filter_cons]
  by_cases h : k ∈ W
  · rw [elemB_iff.2 h]; simp [h]
  · have : elemB k W = false := by cases hb : elemB k W; rfl; exact (h (elemB_iff.1 hb)).elim
    rw [this]; simp [h]
theorem keptRows_end {W : List Nat} : keptRows W [] = [] := (rfl)
/-- Where a round ends. -/
def roundK {X : Type} (P : Program) (G : Ctx) (H : Hots) (K0 : AEx → St → Prop) (st : List Fr) (ok : X → Prop) (μ : X → Nat) (live : X → Slots) (rows : X → Mem) (keep W : List Nat) (nx : Nat) (m : Mem) (x : X) (e : AEx) (s' : St) : Prop := match e with
  | .normal => ∃ y, ok y ∧ μ y < μ x ∧ fitSlots nx nx [] W s'.t (live y) ∧ fitRows nx nx [] s'.m (rows y) ∧ fitKeep m s'.m keep
  | e => retC P G H K0 e st s'
section
variable {X : Type} {ok : X → Prop} {μ : X → Nat} {live : X → Slots} {rows : X → Mem} {keep W : List Nat} {x : X} {m0 : Mem}
theorem roundK_normal : roundK P G H K0 st ok μ live rows keep W nx m0 x .normal ⟨t, m, k⟩ = ∃ y, ok y ∧ μ y < μ x ∧ fitSlots nx nx [] W t (live y) ∧ fitRows nx nx [] m (rows y) ∧ fitKeep m0 m keep := (rfl)
theorem roundK_ret : roundK P G H K0 st ok μ live rows keep W nx m0 x .ret s' = retC P G H K0 .ret st s' := (rfl)
theorem roundK_exit : roundK P G H K0 st ok μ live rows keep W nx m0 x (.exit j) s' = retC P G H K0 (.exit j) st s' := (rfl)
end
/-- A loop. -/
theorem loopC_go {X : Type} (ok : X → Prop) (μ : X → Nat) (live : X → Slots) (rows : X → Mem) (keep W : List Nat) (x0 : X) {c : Code} (hW : writes c = W) (hg : ∀ x, ok x → goodNames nx 0 [] (rows x) keep) (h0 : ok x0)
    (hf : fitSlots nx nx [] W t (live x0) ∧ fitRows nx nx [] m (rows x0) ∧ fitKeep m m keep)
    (hr : ∀ x, ok x → goC P G H (roundK P G H K0 st ok μ live rows keep W nx m x) c [] ⟨live x ++ (dropB W t ++ anyS W), rows x ++ keptRows keep m, nx⟩) : goC P G H K0 (.loop c) st ⟨t, m, nx⟩ := by
  subst hW
  refine ⟨X, ⟨live, rows, keep, 0, ok, μ⟩, ⟨x0, h0, [], hf.1, hf.2.1, hf.2.2, hg x0 h0⟩, fun x hx => ?_⟩
  have h1 := hr x hx
  unfold goC at h1
  rw [← dropB_eq, ← anyS_eq] at h1
  refine awp_mono (fun e s' h => ?_) h1
  cases e with
  | normal =>
    obtain ⟨y, h1, h2, h3, h4, h5⟩ := h
    exact ⟨y, h1, h2, [], h3, h4, h5, hg y h1⟩
  | ret => exact h
  | exit j => exact h
theorem fitSlots_nil {N M : Nat} {σ : Names} {W : List Nat} : fitSlots N M σ W t [] = True := (rfl)
theorem fitSlots_cons {N M : Nat} {σ : Names} {W : List Nat} {r : Slots} : fitSlots N M σ W t ((j, a) :: r) = (elemB j W = true ∧ fit1 N M σ a (slot t j) ∧ fitSlots N M σ W t r) := by
  rw [elemB_iff]; rfl
theorem fit1_v {N M : Nat} {σ : Names} {x : Value} : fit1 N M σ (.v x) a = (a = .v x) := by
  simp [fit1, kb]
theorem fit1_any {N M : Nat} {σ : Names} : fit1 N M σ .any a = True := (rfl)
theorem fit1_ro {N M : Nat} {σ : Names} {f : Nat → List AV} : fit1 N M σ (.ro n sz f) a = (a = .ro n sz f) := by
  simp [fit1, kb]
theorem fit1_agg {N M : Nat} {σ : Names} : fit1 N M σ (.agg l) a = (a = .agg l ∧ kb 3 N (.agg l)) := (rfl)
theorem fit1_rop {N M : Nat} {σ : Names} : fit1 N M σ (.rop l) a = (a = .rop l) := by
  simp [fit1, kb]
theorem fit1_bx {N M : Nat} {σ : Names} : fit1 N M σ (.bx i k) a = (a = .bx i k ∧ i < N) := (rfl)
theorem fit1_own {N M : Nat} {r f : Nat} : fit1 N M [] (.own r f n sz) a = (r < M ∧ a = .own r f n sz) := (rfl)
theorem fitRows_nil {N M : Nat} {σ : Names} : fitRows N M σ m [] = True := (rfl)
theorem fitKeep_nil {m' : Mem} : fitKeep m m' [] = True := (rfl)
theorem fitKeep_cons {m' : Mem} {r : List Nat} : fitKeep m m' (k :: r) = (look m' k = look m k ∧ fitKeep m m' r) := (rfl)
theorem av_int {c c' : IntKind} {x y : Int} : (AV.v (.int c x) = .v (.int c' y)) = (c = c' ∧ x = y) := by simp
theorem av_bool {x y : Bool} : (AV.v (.bool x) = .v (.bool y)) = (x = y) := by simp
end
end Go.Ax
