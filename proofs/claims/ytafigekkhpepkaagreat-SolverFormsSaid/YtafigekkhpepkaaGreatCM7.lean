/-
  Contracts of functions that write rows, made to measure: one element that is pointed at; two of them; a table; a table and an element; new rows.
-/
import Derived.Test.YtafigekkhpepkaaGreatCM6
section
set_option linter.unusedSimpArgs false
set_option linter.unusedVariables false
namespace Go.Ax

/-- A cell that holds nothing of our own. -/
def cleanC : AV → Bool
  | .v _ => true
  | .any => true
  | .ro _ _ _ => true
  | .rop _ => true
  | _ => false
theorem cleanC_ren {θ : Nat → Nat → Nat × Nat} {g : Nat → Nat → Prop} {B : Nat → Prop} {a : AV} (h : cleanC a = true) (d : Nat) : renA θ d a = a ∧ kg g B d a := by
  cases a <;> simp [cleanC] at h <;> (cases d <;> exact ⟨rfl, trivial⟩)
theorem cleanL_ren {θ : Nat → Nat → Nat × Nat} {g : Nat → Nat → Prop} {B : Nat → Prop} : ∀ {l : List AV}, (∀ c ∈ l, cleanC c = true) → l.map (renA θ 3) = l ∧ ∀ c ∈ l, kg g B 3 c
  | [], _ => ⟨rfl, by simp⟩
  | a :: l, h => by
    obtain ⟨h1, h2⟩ := cleanC_ren (θ := θ) (g := g) (B := B) (h a (by simp)) 3
    obtain ⟨h3, h4⟩ := cleanL_ren (θ := θ) (g := g) (B := B) (l := l) (fun c hc => h c (by simp [hc]))
    refine ⟨by rw [List.map_cons, h1, h3], fun c hc => ?_⟩
    rcases List.mem_cons.1 hc with e | hc
    · rw [e]; exact h2
    · exact h4 c hc
theorem map_id_of {f : AV → AV} : ∀ {l : List AV}, (∀ a ∈ l, f a = a) → l.map f = l
  | [], _ => rfl
  | a :: l, h => by rw [List.map_cons, h a (by simp), map_id_of fun b hb => h b (by simp [hb])]
theorem clean_ren {θ : Nat → Nat → Nat × Nat} {g : Nat → Nat → Prop} {B : Nat → Prop} : ∀ (d : Nat) (a : AV), clean d a = true → renA θ d a = a ∧ kg g B d a
  | d, .v _, _ => by cases d <;> exact ⟨rfl, trivial⟩
  | d, .any, _ => by cases d <;> exact ⟨rfl, trivial⟩
  | d, .ro _ _ _, _ => by cases d <;> exact ⟨rfl, trivial⟩
  | d, .rop _, _ => by cases d <;> exact ⟨rfl, trivial⟩
  | d + 1, .agg cs, h => by
    simp only [clean, List.all_eq_true] at h
    refine ⟨?_, fun c hc => (clean_ren (θ := θ) d c (h c hc)).2⟩
    simp only [renA]
    rw [map_id_of fun a ha => (clean_ren (g := g) (B := B) d a (h a ha)).1]
  | d + 1, .tup cs, h => by
    simp only [clean, List.all_eq_true] at h
    refine ⟨?_, fun c hc => (clean_ren (θ := θ) d c (h c hc)).2⟩
    simp only [renA]
    rw [map_id_of fun a ha => (clean_ren (g := g) (B := B) d a (h a ha)).1]
  | d + 1, .fn f cs, h => by
    simp only [clean, List.all_eq_true] at h
    refine ⟨?_, fun c hc => (clean_ren (θ := θ) d c (h c hc)).2⟩
    simp only [renA]
    rw [map_id_of fun a ha => (clean_ren (g := g) (B := B) d a (h a ha)).1]
  | d + 1, .iface t x, h => by
    simp only [clean] at h
    obtain ⟨h1, h2⟩ := clean_ren (θ := θ) (g := g) (B := B) d x h
    exact ⟨by simp only [renA]; rw [h1], h2⟩
  | d + 1, .cond b x, h => by
    simp only [clean] at h
    obtain ⟨h1, h2⟩ := clean_ren (θ := θ) (g := g) (B := B) d x h
    exact ⟨by simp only [renA]; rw [h1], h2⟩
  | 0, .agg _, h => by simp [clean] at h
  | 0, .tup _, h => by simp [clean] at h
  | 0, .fn _ _, h => by simp [clean] at h
  | 0, .iface _ _, h => by simp [clean] at h
  | 0, .cond _ _, h => by simp [clean] at h
  | 0, .bx _ _, h => by simp [clean] at h
  | 0, .ptr _ _ _ _ _, h => by simp [clean] at h
  | 0, .own _ _ _ _, h => by simp [clean] at h
  | 0, .vw _ _ _ _ _, h => by simp [clean] at h
  | d + 1, .bx _ _, h => by simp [clean] at h
  | d + 1, .ptr _ _ _ _ _, h => by simp [clean] at h
  | d + 1, .own _ _ _ _, h => by simp [clean] at h
  | d + 1, .vw _ _ _ _ _, h => by simp [clean] at h
theorem cleans_ren {θ : Nat → Nat → Nat × Nat} {g : Nat → Nat → Prop} {B : Nat → Prop} {l : List AV} (h : ∀ a ∈ l, clean 3 a = true) : l.map (renA θ 3) = l ∧ ∀ a ∈ l, kg g B 3 a :=
  ⟨map_id_of fun a ha => (clean_ren (g := g) (B := B) 3 a (h a ha)).1, fun a ha => (clean_ren (θ := θ) 3 a (h a ha)).2⟩

/-! ### A body's end -/
section
variable {P : Program} {G : Ctx} {H : Hots} {t : Slots} {m : Mem} {nx : Nat} {Q : AV → Mem → Prop} {rs : List ResultVar} {l : List AV} {a : AV}
def tupOf : List AV → AV
  | [a] => a
  | l => .tup l
theorem tupOf_nil : tupOf [] = .tup [] := (rfl)
theorem tupOf_one : tupOf [a] = a := (rfl)
theorem tupOf_two {b : AV} : tupOf (a :: b :: l) = .tup (a :: b :: l) := (rfl)
def retML (P : Program) (t : Slots) (m : Mem) (Q : AV → Mem → Prop) : List ResultVar → List AV → Prop
  | [], l => Q (tupOf l) m
  | r :: rs, l => match resE P t m r with
    | some e => conj e.ob (retML P t m Q rs (l ++ [e.val]))
    | none => False
def retMS (P : Program) (t : Slots) (m : Mem) (Q : AV → Mem → Prop) (rs : List ResultVar) (l : List AV) (x : Option Eff) : Prop := match x with
  | some e => conj e.ob (retML P t m Q rs (l ++ [e.val]))
  | none => False
theorem retML_nil : retML P t m Q [] l = Q (tupOf l) m := (rfl)
theorem retML_cons {r : ResultVar} : retML P t m Q (r :: rs) l = retMS P t m Q rs l (resE P t m r) := (rfl)
theorem retMS_some {ob : List Prop} {u : Upd} : retMS P t m Q rs l (some ⟨ob, a, u⟩) = conj ob (retML P t m Q rs (l ++ [a])) := (rfl)
def endMR (P : Program) (rs : List ResultVar) (Q : AV → Mem → Prop) (e : AEx) (s : St) : Prop := match e with
  | .exit _ => False
  | _ => retML P s.t s.m Q rs []
theorem endMR_ret : endMR P rs Q .ret ⟨t, m, nx⟩ = retML P t m Q rs [] := (rfl)
theorem endMR_normal : endMR P rs Q .normal ⟨t, m, nx⟩ = retML P t m Q rs [] := (rfl)
theorem retML_sound {s : St} : ∀ {rs : List ResultVar} {l : List AV}, retML P s.t s.m Q rs l → ∃ ob es, resList P s rs = some (ob, es) ∧ (∀ p ∈ ob, p) ∧ Q (tupOf (l ++ es)) s.m
  | [], l, h => ⟨[], [], rfl, by simp, by simpa [retML] using h⟩
  | r :: rs, l, h => by
    simp only [retML] at h
    split at h
    · rename_i e he
      obtain ⟨ob, es, h1, h2, h3⟩ := retML_sound (rs := rs) (conj_iff.1 h).2
      refine ⟨e.ob ++ ob, e.val :: es, ?_, fun p hp => ?_, by simpa using h3⟩
      · simp only [resList, resOf_E he, h1]
      · rcases List.mem_append.1 hp with hp | hp
        · exact (conj_iff.1 h).1 p hp
        · exact h2 p hp
    · exact h.elim
theorem endMR_sound {s : St} {fn : Func} (hr : fn.results.toList = rs) {e : AEx} (h : endMR P rs Q e s) : endM P fn Q e s := by
  have key : retML P s.t s.m Q rs [] → match resAll P s fn.results.toList with
      | some (ob, a) => conj ob (Q a s.m)
      | none => False := fun h => by
    obtain ⟨ob, es, h1, h2, h3⟩ := retML_sound h
    rw [hr]
    simp only [resAll, h1]
    rw [List.nil_append] at h3
    cases es with
    | nil => exact conj_iff.2 ⟨h2, h3⟩
    | cons a es => cases es with
      | nil => exact conj_iff.2 ⟨h2, h3⟩
      | cons b es => exact conj_iff.2 ⟨h2, h3⟩
  cases e with
  | exit j => exact h.elim
  | normal => exact key h
  | ret => exact key h
/-- A body, run on some rows. -/
def bodyM (P : Program) (G : Ctx) (H : Hots) (fn : Func) (es : List AV) (m : Mem) (nx : Nat) (Q : AV → Mem → Prop) : Prop := ∃ cd, fn.body = some cd ∧ awp P G H cd ⟨argSlots 0 es, m, nx⟩ (endM P fn Q)
theorem bodyM_go {fn : Func} {c : Code} {es : List AV} (hb : fn.body = some c) (hr : fn.results.toList = rs) (h : goC P G H (endMR P rs Q) c [] ⟨argSlots 0 es, m, nx⟩) : bodyM P G H fn es m nx Q :=
  ⟨c, hb, awp_mono (fun e s h => endMR_sound hr h) h⟩
theorem bodyM.mono {fn : Func} {es : List AV} {Q' : AV → Mem → Prop} (h : bodyM P G H fn es m nx Q) (hq : ∀ a m, Q a m → Q' a m) : bodyM P G H fn es m nx Q' := by
  obtain ⟨cd, h1, h2⟩ := h
  refine ⟨cd, h1, awp_mono (fun e s h => ?_) h2⟩
  cases e with
  | exit j => exact h
  | normal =>
    simp only [endM] at h ⊢
    split at h
    · rename_i ob x hx; exact conj_mono (hq _ _) h
    · exact h
  | ret =>
    simp only [endM] at h ⊢
    split at h
    · rename_i ob x hx; exact conj_mono (hq _ _) h
    · exact h
end

/-! ### Rows that say the same -/
def alike (x y : Row) : Prop := y.n = x.n ∧ y.sz = x.sz ∧ y.ty = x.ty ∧ y.g = x.g ∧ ∀ i, i < x.n → y.get i = x.get i
theorem alike.refl (x : Row) : alike x x := ⟨rfl, rfl, rfl, rfl, fun _ _ => rfl⟩
def cleanCs : List AV → Bool
  | [] => true
  | a :: l => cleanC a && cleanCs l
theorem cleanCs_mem : ∀ {l : List AV}, cleanCs l = true → ∀ c ∈ l, cleanC c = true
  | [], _, c, h => by cases h
  | a :: l, h, c, hc => by
    simp only [cleanCs, Bool.and_eq_true] at h
    rcases List.mem_cons.1 hc with e | hc
    · rw [e]; exact h.1
    · exact cleanCs_mem h.2 c hc

/-- A cell that holds nothing of our own but pointers into the family itself. -/
def selfC (r : Nat) : AV → Bool
  | .ptr q _ _ _ _ => decide (q = r)
  | a => cleanC a
def bk : AV → AV
  | .ptr _ f i sz k => .ptr 0 f i sz k
  | a => a
def famBk (fam : Fam) : Fam := fun f => { fam f with get := fun j => ((fam f).get j).map bk }
/-- All rows of the family are there, and hold nothing else of our own. -/
def famOK (r : Nat) (fam : Fam) : Prop := ∀ f, (fam f).g = none ∧ ∀ j, j < (fam f).n → ∀ c ∈ (fam f).get j, selfC r c = true

theorem bk_clean {c : AV} (h : cleanC c = true) : bk c = c := by cases c <;> first | rfl | simp [cleanC] at h
theorem bks_clean : ∀ {l : List AV}, (∀ c ∈ l, cleanC c = true) → l.map bk = l
  | [], _ => rfl
  | a :: l, h => by rw [List.map_cons, bk_clean (h a (by simp)), bks_clean fun c hc => h c (by simp [hc])]
theorem selfC_ren {r : Nat} {θ : Nat → Nat → Nat × Nat} {g : Nat → Nat → Prop} {B : Nat → Prop} (hθ : ∀ f, θ 0 f = (r, f)) (hg : ∀ f, g 0 f) {c : AV} (h : selfC r c = true) : renA θ 3 (bk c) = c ∧ kg g B 3 (bk c) := by
  cases c with
  | ptr q f i sz k =>
    simp only [selfC, decide_eq_true_eq] at h
    subst h
    refine ⟨?_, hg f⟩
    show AV.ptr (θ 0 f).1 (θ 0 f).2 i sz k = _
    rw [hθ]
  | v x => exact ⟨rfl, trivial⟩
  | any => exact ⟨rfl, trivial⟩
  | ro n sz get => exact ⟨rfl, trivial⟩
  | rop cs => exact ⟨rfl, trivial⟩
  | _ => simp [selfC, cleanC] at h
theorem rowRen_self {r : Nat} {θ : Nat → Nat → Nat × Nat} {g : Nat → Nat → Prop} {B : Nat → Prop} (hθ : ∀ f, θ 0 f = (r, f)) (hg : ∀ f, g 0 f) {x : Row} (h : ∀ j, j < x.n → ∀ c ∈ x.get j, selfC r c = true) : rowRen θ g B { x with get := fun j => (x.get j).map bk } x := by
  refine ⟨rfl, rfl, rfl, rfl, fun j hj => ?_⟩
  have h1 := h j hj
  refine ⟨?_, fun c hc => ?_⟩
  · dsimp only
    rw [List.map_map]
    exact (map_id_of fun a ha => (selfC_ren (g := g) (B := B) hθ hg (h1 a ha)).1).symm
  · dsimp only at hc
    obtain ⟨c0, hc0, rfl⟩ := List.mem_map.1 hc
    exact (selfC_ren (θ := θ) hθ hg (h1 c0 hc0)).2
theorem famBk_E {fam : Fam} {f i : Nat} {cs : List AV} (h : ∀ c ∈ cs, cleanC c = true) : famBk (famE fam f i cs) = famE (famBk fam) f i cs := by
  funext f'
  unfold famBk famE
  by_cases e : f' = f
  · subst e
    simp only [if_true]
    congr 1
    funext j
    by_cases e : j = i
    · simp only [e, if_true]; exact bks_clean h
    · simp [e]
  · simp [e]
theorem famOK_E {r : Nat} {fam : Fam} {f i : Nat} {cs : List AV} (h : famOK r fam) (hc : ∀ c ∈ cs, cleanC c = true) : famOK r (famE fam f i cs) := fun f' => by
  refine ⟨by rw [famE_g]; exact (h f').1, fun j hj c hcm => ?_⟩
  rw [famE_n] at hj
  by_cases e : f' = f
  · subst e
    simp only [famE, if_true] at hcm
    split at hcm
    · have := hc c hcm
      cases c <;> first | exact this | simp [cleanC] at this
    · exact (h f').2 j hj c hcm
  · rw [famE_off e] at hcm
    exact (h f').2 j hj c hcm

theorem famOK_bk {r : Nat} {fam : Fam} (h : famOK r fam) : famOK 0 (famBk fam) := fun f => by
  refine ⟨(h f).1, fun j hj c hc => ?_⟩
  obtain ⟨c0, h0, rfl⟩ := List.mem_map.1 hc
  have := (h f).2 j hj c0 h0
  cases c0 <;> first | rfl | exact this | simp [selfC, cleanC] at this
theorem rowRen_clean' {θ : Nat → Nat → Nat × Nat} {g : Nat → Nat → Prop} {B : Nat → Prop} {x0 x : Row} (h : alike x0 x) (hc : ∀ j, j < x0.n → ∀ c ∈ x0.get j, cleanC c = true) : rowRen θ g B x0 x := by
  obtain ⟨h1, h2, h3, h4, h5⟩ := h
  refine ⟨h1, h2, h3, h4, fun j hj => ?_⟩
  obtain ⟨k1, k2⟩ := cleanL_ren (θ := θ) (g := g) (B := B) (hc j hj)
  exact ⟨by rw [k1]; exact h5 j hj, k2⟩
theorem look_one {k : Nat} {x : Fam} : look [(k, x)] k = some x := by simp [look]
theorem thE_0 {r : Nat} : ∀ f, thE [r] 0 f = (r, f) := fun f => rfl
theorem thL_0 {r key : Nat} {l : List Nat} {th : Nat → Nat → Nat} : ∀ f, thL (r :: l) key th 0 f = (r, f) := fun f => by simp [thL]
theorem lowG_0 : ∀ f, lowG 1 0 f := fun _ => Nat.zero_lt_one
theorem newG_0 {N : Nat} {σ : Nat → Option (Nat × Nat)} {th : Nat → Nat → Nat} (h : 0 < N) : ∀ f, newG N σ th 0 f := fun _ => .inl h

/-! ### One row's family -/
section
variable {P : Program} {G : Ctx} {H : Hots} {f : FuncId} {fn : Func}

/-- A callee that is run on one family; it makes no rows that are handed back. -/
theorem one_okG {r key : Nat} {fam fam' x0 y0 : Fam} {m : Mem} {es es0 : List AV} {val val0 : AV} {ob : List Prop} (hl : look m r = some fam) (h1 : ∀ f, (fam f).g = none ∧ rowRen (thE [r]) (lowG 1) (lowB 1) (x0 f) (fam f))
    (h2 : ∀ th σ f, rowRen (thL [r] key th) (newG 1 σ th) (newB 1 σ) (y0 f) (fam' f) ∧ (y0 f).g ≠ some false) (ha : es = es0.map (renA (thE [r]) 3)) (hak : ∀ a ∈ es0, kg (lowG 1) (lowB 1) 3 a)
    (hfn : funcOK P H fn es0.length = true) (hv : ∀ th : Nat → Nat → Nat, ∀ σ : Nat → Option (Nat × Nat), val = renA (thL [r] key th) 3 val0 ∧ kg (newG 1 σ th) (newB 1 σ) 3 val0)
    (hb : bodyM P G H fn es0 [(0, x0)] 1 fun a m1 => a = val0 ∧ look m1 0 = some y0) :
    ∃ ks m0 as0, Entry ks m m0 es as0 ∧ funcOK P H fn as0.length = true ∧ bodyM P G H fn as0 m0 ks.length fun a m1 => ∃ σ th ys nw, (⟨ob, val, .many [(r, fam')] none⟩ : Eff).u = .many (ks.zip ys) nw ∧ Leave key ks σ th m1 a ys nw val := by
  refine ⟨[r], [(0, x0)], es0, ⟨by simp, ha, hak, fun j hj => ?_, fun q x hq => ?_⟩, hfn, hb.mono fun a m1 ⟨q1, q2⟩ => ?_⟩
  · have : j = 0 := by simp at hj; omega
    subst this
    exact ⟨_, fam, look_one, hl, h1⟩
  · by_cases e : q = 0
    · subst e; simp
    · simp [look, Ne.symm e] at hq
  · obtain ⟨v1, v2⟩ := hv (fun _ _ => 0) (fun _ => none)
    refine ⟨fun _ => none, fun _ _ => 0, [fam'], none, rfl, ⟨fun f r g h => by simp at h, by rw [q1]; exact v1, by rw [q1]; exact v2, rfl, fun j hj => ?_, fun _ => rfl⟩⟩
    have : j = 0 := by simp at hj; omega
    subst this
    exact ⟨_, _, q2, rfl, h2 _ _⟩
theorem one_ok {r key : Nat} {fam fam' : Fam} {m : Mem} {es es0 : List AV} {val val0 : AV} {ob : List Prop} (hl : look m r = some fam) (h1 : famOK r fam) (h2 : famOK r fam') (ha : es = es0.map (renA (thE [r]) 3)) (hak : ∀ a ∈ es0, kg (lowG 1) (lowB 1) 3 a)
    (hfn : funcOK P H fn es0.length = true) (hv : ∀ th : Nat → Nat → Nat, ∀ σ : Nat → Option (Nat × Nat), val = renA (thL [r] key th) 3 val0 ∧ kg (newG 1 σ th) (newB 1 σ) 3 val0)
    (hb : bodyM P G H fn es0 [(0, famBk fam)] 1 fun a m1 => a = val0 ∧ look m1 0 = some (famBk fam')) :
    ∃ ks m0 as0, Entry ks m m0 es as0 ∧ funcOK P H fn as0.length = true ∧ bodyM P G H fn as0 m0 ks.length fun a m1 => ∃ σ th ys nw, (⟨ob, val, .many [(r, fam')] none⟩ : Eff).u = .many (ks.zip ys) nw ∧ Leave key ks σ th m1 a ys nw val :=
  one_okG hl (fun f => ⟨(h1 f).1, rowRen_self thE_0 lowG_0 (h1 f).2⟩) (fun th σ f => ⟨rowRen_self thL_0 (newG_0 (by simp)) (h2 f).2, by show (fam' f).g ≠ _; rw [(h2 f).1]; simp⟩) ha hak hfn hv hb

/-! ### One element that is pointed at -/
def mcP (sz : Nat) (F : List AV → List AV → Option (List Prop × AV × List AV)) : MCon := fun key m es => match es with
  | .ptr r f i sz' 0 :: rest => match look m r with
    | some fam => match F ((fam f).get i) rest with
      | some (ob, val, cs) => some ⟨(i < (fam f).n) :: (sz' = sz) :: (sz = (fam f).sz) :: (cleanCs ((fam f).get i) = true) :: famOK r fam :: ob, val, .many [(r, famE fam f i cs)] none⟩
      | none => none
    | none => none
  | _ => none
/-- Another content of a row of one element. -/
def wb1 (fam : Fam) (cs : List AV) : Fam := fun f => if f = 0 then { fam 0 with get := fun _ => cs } else fam f
def mc1 (sz : Nat) (F : List AV → List AV → Option (List Prop × AV × List AV)) : MCon := fun key m es => match es with
  | .bx r 0 :: rest => match look m r with
    | some fam => match F ((fam 0).get 0) rest with
      | some (ob, val, cs) => some ⟨((fam 0).n = 1) :: (sz = (fam 0).sz) :: (cleanCs ((fam 0).get 0) = true) :: famOK r fam :: ob, val, .many [(r, wb1 fam cs)] none⟩
      | none => none
    | none => none
  | es => mcP sz F key m es
/-- What a body must do to an element. -/
def OneOK (P : Program) (G : Ctx) (H : Hots) (fn : Func) (sz : Nat) (F : List AV → List AV → Option (List Prop × AV × List AV)) : Prop :=
  ∀ cells rest ob val cs, F cells rest = some (ob, val, cs) → (∀ p ∈ ob, p) → (∀ a ∈ rest, clean 3 a = true) ∧ clean 3 val = true ∧ (∀ c ∈ cs, cleanC c = true) ∧ funcOK P H fn (rest.length + 1) = true ∧
    ∀ (fam : Fam) (f i : Nat), i < (fam f).n → sz = (fam f).sz → (∀ f, (fam f).g = none) → famOK 0 fam → bodyM P G H fn (.ptr 0 f i sz 0 :: rest) [(0, famE fam f i cells)] 1 fun a m1 => a = val ∧ look m1 0 = some (famE fam f i cs)

theorem MConOK.mcP (hG : CtxOK P G) (hf : P.funcs[f]? = some fn) {sz : Nat} {F : List AV → List AV → Option (List Prop × AV × List AV)} (h : OneOK P G H fn sz F) : MConOK P f (mcP sz F) := by
  refine MConOK.of (H := H) hG hf fun key m es e hc hob => ?_
  unfold Ax.mcP at hc
  split at hc
  · rename_i r f' i sz' rest
    split at hc
    · rename_i fam hl
      split at hc
      · rename_i ob val cs hF
        cases hc
        have hi : i < (fam f').n := hob _ (by simp)
        have hsz' : sz' = sz := hob _ (by simp)
        have hsz : sz = (fam f').sz := hob _ (by simp)
        have hcl : cleanCs ((fam f').get i) = true := hob _ (by simp)
        have hok : famOK r fam := hob _ (by simp)
        subst hsz'
        obtain ⟨h1, h2, h3, h4, h5⟩ := h _ _ _ _ _ hF fun p hp => hob p (by simp [hp])
        obtain ⟨a1, a2⟩ := cleans_ren (θ := thE [r]) (g := lowG 1) (B := lowB 1) h1
        refine one_ok hl hok (famOK_E hok h3) (es0 := .ptr 0 f' i sz' 0 :: rest) (val0 := val) ?_ ?_ h4 (fun th σ => ?_) ?_
        · rw [List.map_cons, a1]; rfl
        · intro a ha
          rcases List.mem_cons.1 ha with e | ha
          · rw [e]; exact Nat.zero_lt_one
          · exact a2 a ha
        · obtain ⟨b1, b2⟩ := clean_ren (θ := thL [r] key th) (g := newG 1 σ th) (B := newB 1 σ) 3 val h2
          exact ⟨b1.symm, b2⟩
        · have e1 : famBk fam = famE (famBk fam) f' i ((fam f').get i) := by
            have := famBk_E (fam := fam) (f := f') (i := i) (cleanCs_mem hcl)
            rw [famE_self] at this
            exact this
          rw [e1, famBk_E h3]
          exact h5 (famBk fam) f' i hi hsz (fun f => (hok f).1) (famOK_bk hok)
      · cases hc
    · cases hc
  · cases hc

theorem MConOK.mc1 (hG : CtxOK P G) (hf : P.funcs[f]? = some fn) {sz : Nat} {F : List AV → List AV → Option (List Prop × AV × List AV)} (h : OneOK P G H fn sz F) : MConOK P f (mc1 sz F) := by
  intro w0 ρ m m' D w key es vs e hR hk hm hRs hc hob hmany
  unfold Ax.mc1 at hc
  split at hc
  · rename_i r rest
    split at hc
    · rename_i fam hl
      split at hc
      · rename_i ob val cs hF
        cases hc
        have hn : (fam 0).n = 1 := hob _ (by simp)
        have hsz : sz = (fam 0).sz := hob _ (by simp)
        have hcl : cleanCs ((fam 0).get 0) = true := hob _ (by simp)
        have hok : famOK r fam := hob _ (by simp)
        have hRs' : Rs w ρ (.ptr r 0 0 sz 0 :: rest) vs := by
          obtain ⟨x, xs, rfl, h1, h2⟩ := hRs.inv
          refine .cons ?_ h2
          cases h1 with
          | bx hd =>
            have : R w ρ (.ptr r 0 0 sz 0) (.pointer (some ⟨ρ.blk r 0, 0 * sz + 0, none⟩)) := .ptr hd
            rw [Nat.zero_mul] at this
            exact this
        have := MConOK.mcP hG hf h w0 ρ m m' D w key _ vs ⟨(0 < (fam 0).n) :: (sz = sz) :: (sz = (fam 0).sz) :: (cleanCs ((fam 0).get 0) = true) :: famOK r fam :: ob, val, .many [(r, famE fam 0 0 cs)] none⟩ hR hk hm hRs'
          (by simp only [Ax.mcP, hl, hF]) (fun p hp => by
            simp only [List.mem_cons] at hp
            rcases hp with rfl | rfl | rfl | rfl | rfl | hp
            · omega
            · trivial
            · exact hsz
            · exact hcl
            · exact hok
            · exact hob p (by simp [hp])) ⟨_, _, rfl⟩
        refine this.mono fun v w' ⟨ρ', p1, p2, p3, p4⟩ => ⟨ρ', p1, ?_, p3, p4⟩
        have p2 : Rel w0 ρ' (setRow r (famE fam 0 0 cs) m) (fun r => D r ∨ r = key) w' := p2
        refine Rel.alike p2 fun f => ?_
        by_cases e : f = 0
        · subst e
          refine ⟨rfl, rfl, rfl, rfl, fun i hi => ?_⟩
          rw [famE_n, hn] at hi
          have : i = 0 := by omega
          subst this
          rw [famE_get]; rfl
        · unfold wb1
          rw [if_neg e, famE_off e]
          exact ⟨rfl, rfl, rfl, rfl, fun _ _ => rfl⟩
      · cases hc
    · cases hc
  · exact MConOK.mcP hG hf h w0 ρ m m' D w key es vs e hR hk hm hRs hc hob hmany

/-! ### Two elements of one family -/
def mcPP (sz : Nat) (F : List AV → List AV → List AV → Option (List Prop × AV × List AV × List AV)) : MCon := fun key m es => match es with
  | .ptr r f i sz1 0 :: .ptr r' f' i' sz2 0 :: rest => match look m r with
    | some fam => match F ((fam f).get i) ((fam f').get i') rest with
      | some (ob, val, cs, cs') => some ⟨(r' = r) :: (f ≠ f') :: (i < (fam f).n) :: (i' < (fam f').n) :: (sz1 = sz) :: (sz2 = sz) :: (sz = (fam f).sz) :: (sz = (fam f').sz) :: (cleanCs ((fam f).get i) = true) :: (cleanCs ((fam f').get i') = true) :: famOK r fam :: ob, val, .many [(r, famE (famE fam f i cs) f' i' cs')] none⟩
      | none => none
    | none => none
  | _ => none
def TwoOK (P : Program) (G : Ctx) (H : Hots) (fn : Func) (sz : Nat) (F : List AV → List AV → List AV → Option (List Prop × AV × List AV × List AV)) : Prop :=
  ∀ c1 c2 rest ob val cs cs', F c1 c2 rest = some (ob, val, cs, cs') → (∀ p ∈ ob, p) → (∀ a ∈ rest, clean 3 a = true) ∧ clean 3 val = true ∧ (∀ c ∈ cs, cleanC c = true) ∧ (∀ c ∈ cs', cleanC c = true) ∧ funcOK P H fn (rest.length + 2) = true ∧
    ∀ (fam : Fam) (f i f' i' : Nat), f ≠ f' → i < (fam f).n → i' < (fam f').n → sz = (fam f).sz → sz = (fam f').sz → (∀ f, (fam f).g = none) → famOK 0 fam →
      bodyM P G H fn (.ptr 0 f i sz 0 :: .ptr 0 f' i' sz 0 :: rest) [(0, famE (famE fam f i c1) f' i' c2)] 1 fun a m1 => a = val ∧ look m1 0 = some (famE (famE fam f i cs) f' i' cs')

theorem MConOK.mcPP (hG : CtxOK P G) (hf : P.funcs[f]? = some fn) {sz : Nat} {F : List AV → List AV → List AV → Option (List Prop × AV × List AV × List AV)} (h : TwoOK P G H fn sz F) : MConOK P f (mcPP sz F) := by
  refine MConOK.of (H := H) hG hf fun key m es e hc hob => ?_
  unfold Ax.mcPP at hc
  split at hc
  · rename_i r f1 i1 s1 r' f2 i2 s2 rest
    split at hc
    · rename_i fam hl
      split at hc
      · rename_i ob val cs cs' hF
        cases hc
        have hr : r' = r := hob _ (by simp)
        have hne : f1 ≠ f2 := hob _ (by simp)
        have hi : i1 < (fam f1).n := hob _ (by simp)
        have hi' : i2 < (fam f2).n := hob _ (by simp)
        have hs1 : s1 = sz := hob _ (by simp)
        have hs2 : s2 = sz := hob _ (by simp)
        have hz1 : sz = (fam f1).sz := hob _ (by simp)
        have hz2 : sz = (fam f2).sz := hob _ (by simp)
        have hc1 : cleanCs ((fam f1).get i1) = true := hob _ (by simp)
        have hc2 : cleanCs ((fam f2).get i2) = true := hob _ (by simp)
        have hok : famOK r fam := hob _ (by simp)
        subst hr hs1 hs2
        obtain ⟨h1, h2, h3, h3', h4, h5⟩ := h _ _ _ _ _ _ _ hF fun p hp => hob p (by simp [hp])
        obtain ⟨a1, a2⟩ := cleans_ren (θ := thE [r']) (g := lowG 1) (B := lowB 1) h1
        refine one_ok hl hok (famOK_E (famOK_E hok h3) h3') (es0 := .ptr 0 f1 i1 s2 0 :: .ptr 0 f2 i2 s2 0 :: rest) (val0 := val) ?_ ?_ h4 (fun th σ => ?_) ?_
        · rw [List.map_cons, List.map_cons, a1]; rfl
        · intro a ha
          rcases List.mem_cons.1 ha with e | ha
          · rw [e]; exact Nat.zero_lt_one
          · rcases List.mem_cons.1 ha with e | ha
            · rw [e]; exact Nat.zero_lt_one
            · exact a2 a ha
        · obtain ⟨b1, b2⟩ := clean_ren (θ := thL [r'] key th) (g := newG 1 σ th) (B := newB 1 σ) 3 val h2
          exact ⟨b1.symm, b2⟩
        · have e1 : famBk fam = famE (famE (famBk fam) f1 i1 ((fam f1).get i1)) f2 i2 ((fam f2).get i2) := by
            have k1 := famBk_E (fam := fam) (f := f1) (i := i1) (cleanCs_mem hc1)
            rw [famE_self] at k1
            have k2 := famBk_E (fam := fam) (f := f2) (i := i2) (cleanCs_mem hc2)
            rw [famE_self] at k2
            rw [← k1, ← k2]
          rw [e1, famBk_E h3', famBk_E h3]
          exact h5 (famBk fam) f1 i1 f2 i2 hne hi hi' hz1 hz2 (fun f => (hok f).1) (famOK_bk hok)
      · cases hc
    · cases hc
  · cases hc
/-! ### Tables -/
/-- The family is a table of N pointers to rows of one element. -/
def tabOK (K N sz : Nat) (tp ty : TypeId) (fam : Fam) : Prop := (∀ f, alike (famT K N sz tp ty (fun i => (fam (i + 1)).get 0) f) (fam f)) ∧ ∀ i, i < N → cleanCs ((fam (i + 1)).get 0) = true
theorem rowRen_T {θ : Nat → Nat → Nat × Nat} {g : Nat → Nat → Prop} {B : Nat → Prop} {K N sz : Nat} {tp ty : TypeId} {get : Nat → List AV} (hθ : ∀ f, θ 0 f = (K, f)) (hg : ∀ f, g 0 f) (hc : ∀ i, i < N → cleanCs (get i) = true) (f : Nat) :
    rowRen θ g B (famT 0 N sz tp ty get f) (famT K N sz tp ty get f) := by
  cases f with
  | zero =>
    refine ⟨rfl, rfl, rfl, rfl, fun j hj => ⟨?_, fun c hc => ?_⟩⟩
    · show [AV.ptr K (j + 1) 0 sz 0] = [AV.ptr (θ 0 (j + 1)).1 (θ 0 (j + 1)).2 0 sz 0]
      rw [hθ]
    · simp only [famT, List.mem_singleton] at hc
      rw [hc]; exact hg _
  | succ f =>
    refine rowRen_clean' ⟨rfl, rfl, rfl, rfl, fun _ _ => rfl⟩ fun j hj c hcm => ?_
    simp only [famT] at hj hcm
    split at hj
    · rename_i hf
      have : j = 0 := by omega
      subst this
      exact cleanCs_mem (hc f hf) c (by simpa using hcm)
    · omega
theorem rowRen_alike {θ : Nat → Nat → Nat × Nat} {g : Nat → Nat → Prop} {B : Nat → Prop} {x0 x y : Row} (h : rowRen θ g B x0 x) (k : alike x y) : rowRen θ g B x0 y := by
  obtain ⟨h1, h2, h3, h4, h5⟩ := h
  obtain ⟨k1, k2, k3, k4, k5⟩ := k
  refine ⟨k1.trans h1, k2.trans h2, k3.trans h3, k4.trans h4, fun j hj => ?_⟩
  obtain ⟨a, b⟩ := h5 j hj
  exact ⟨(k5 j (by omega)).trans a, b⟩
theorem famT_g {K N sz : Nat} {tp ty : TypeId} {get : Nat → List AV} {f : Nat} : (famT K N sz tp ty get f).g = none := by cases f <;> rfl
theorem tabOK_in {K N sz : Nat} {tp ty : TypeId} {fam : Fam} (h : tabOK K N sz tp ty fam) (f : Nat) : (fam f).g = none ∧ rowRen (thE [K]) (lowG 1) (lowB 1) (famT 0 N sz tp ty (fun i => (fam (i + 1)).get 0) f) (fam f) :=
  ⟨(h.1 f).2.2.2.1.trans famT_g, rowRen_alike (rowRen_T thE_0 lowG_0 h.2 f) (h.1 f)⟩

def mcT (sz : Nat) (tp ty : TypeId) (F : Nat → (Nat → List AV) → List AV → Option (List Prop × AV × (Nat → List AV))) : MCon := fun key m es => match es with
  | .own K 0 N 1 :: rest => match look m K with
    | some fam => match F N (fun i => (fam (i + 1)).get 0) rest with
      | some (ob, val, get') => some ⟨tabOK K N sz tp ty fam :: ob, val, .many [(K, famT K N sz tp ty get')] none⟩
      | none => none
    | none => none
  | _ => none
def TabOK (P : Program) (G : Ctx) (H : Hots) (fn : Func) (sz : Nat) (tp ty : TypeId) (F : Nat → (Nat → List AV) → List AV → Option (List Prop × AV × (Nat → List AV))) : Prop :=
  ∀ N get rest ob val get', F N get rest = some (ob, val, get') → (∀ p ∈ ob, p) → (∀ i, i < N → cleanCs (get i) = true) → (∀ a ∈ rest, clean 3 a = true) ∧ clean 3 val = true ∧ (∀ i, i < N → cleanCs (get' i) = true) ∧ funcOK P H fn (rest.length + 1) = true ∧
    bodyM P G H fn (.own 0 0 N 1 :: rest) [(0, famT 0 N sz tp ty get)] 1 fun a m1 => a = val ∧ look m1 0 = some (famT 0 N sz tp ty get')
theorem MConOK.mcT (hG : CtxOK P G) (hf : P.funcs[f]? = some fn) {sz : Nat} {tp ty : TypeId} {F : Nat → (Nat → List AV) → List AV → Option (List Prop × AV × (Nat → List AV))} (h : TabOK P G H fn sz tp ty F) : MConOK P f (mcT sz tp ty F) := by
  refine MConOK.of (H := H) hG hf fun key m es e hc hob => ?_
  unfold Ax.mcT at hc
  split at hc
  · rename_i K N rest
    split at hc
    · rename_i fam hl
      split at hc
      · rename_i ob val get' hF
        cases hc
        have hok : tabOK K N sz tp ty fam := hob _ (by simp)
        obtain ⟨h1, h2, h3, h4, h5⟩ := h _ _ _ _ _ _ hF (fun p hp => hob p (by simp [hp])) hok.2
        obtain ⟨a1, a2⟩ := cleans_ren (θ := thE [K]) (g := lowG 1) (B := lowB 1) h1
        refine one_okG hl (tabOK_in hok) (fun th σ f => ⟨rowRen_T thL_0 (newG_0 (by simp)) h3 f, by rw [famT_g]; simp⟩) (es0 := .own 0 0 N 1 :: rest) (val0 := val) ?_ ?_ h4 (fun th σ => ?_) h5
        · rw [List.map_cons, a1]; rfl
        · intro a ha
          rcases List.mem_cons.1 ha with e | ha
          · rw [e]; exact Nat.zero_lt_one
          · exact a2 a ha
        · obtain ⟨b1, b2⟩ := clean_ren (θ := thL [K] key th) (g := newG 1 σ th) (B := newB 1 σ) 3 val h2
          exact ⟨b1.symm, b2⟩
      · cases hc
    · cases hc
  · cases hc

/-! ### A table that is told: a new slice of what it points at -/
def mcTL (sz : Nat) (tp ty tl : TypeId) : MCon := fun key m es => match es with
  | [.own K 0 N 1] => match look m K with
    | some fam => some ⟨[tabOK K N sz tp ty fam, N ≤ 1000, ∀ i, i < N → ((fam (i + 1)).get 0).length = sz ∧ allCells ((fam (i + 1)).get 0) = true], .own key 0 N sz, .many [(K, famT K N sz tp ty fun i => (fam (i + 1)).get 0)] (some (famN N sz tl (fun i => (fam (i + 1)).get 0) none))⟩
    | none => none
  | _ => none
def TelOK (P : Program) (G : Ctx) (H : Hots) (fn : Func) (sz : Nat) (tp ty tl : TypeId) : Prop :=
  ∀ N get, N ≤ 1000 → (∀ i, i < N → cleanCs (get i) = true) → (∀ i, i < N → (get i).length = sz ∧ allCells (get i) = true) → funcOK P H fn 1 = true ∧
    bodyM P G H fn [.own 0 0 N 1] [(0, famT 0 N sz tp ty get)] 1 fun a m1 => look m1 0 = some (famT 0 N sz tp ty get) ∧ ∃ L get', 1 ≤ L ∧ a = .own L 0 N sz ∧ look m1 L = some (famN N sz tl get' none) ∧ ∀ i, i < N → get' i = get i
/-- New rows, all of one key. -/
def whole (K : Nat) (f : Nat) : Option (Nat × Nat) := some (K, f)
def idTh (_ f : Nat) : Nat := f
theorem MConOK.mcTL (hG : CtxOK P G) (hf : P.funcs[f]? = some fn) {sz : Nat} {tp ty tl : TypeId} (h : TelOK P G H fn sz tp ty tl) : MConOK P f (mcTL sz tp ty tl) := by
  refine MConOK.of (H := H) hG hf fun key m es e hc hob => ?_
  unfold Ax.mcTL at hc
  split at hc
  · rename_i K N
    split at hc
    · rename_i fam hl
      cases hc
      have hok : tabOK K N sz tp ty fam := hob _ (by simp)
      have hN : N ≤ 1000 := hob _ (by simp)
      have hlen : ∀ i, i < N → ((fam (i + 1)).get 0).length = sz ∧ allCells ((fam (i + 1)).get 0) = true := hob _ (by simp)
      obtain ⟨h1, h2⟩ := h N (fun i => (fam (i + 1)).get 0) hN hok.2 hlen
      refine ⟨[K], [(0, famT 0 N sz tp ty fun i => (fam (i + 1)).get 0)], [.own 0 0 N 1], ⟨by simp, rfl, ?_, ?_, ?_⟩, h1, h2.mono fun a m1 ⟨q1, L, get', q2, q3, q4, q5⟩ => ?_⟩
      · intro a ha
        rw [List.mem_singleton] at ha
        rw [ha]; exact Nat.zero_lt_one
      · intro j hj
        have : j = 0 := by simp at hj; omega
        subst this
        exact ⟨_, fam, look_one, hl, tabOK_in hok⟩
      · intro q x hq
        by_cases e : q = 0
        · subst e; simp
        · simp [look, Ne.symm e] at hq
      · refine ⟨whole L, idTh, [famT K N sz tp ty fun i => (fam (i + 1)).get 0], some _, rfl, ⟨fun f r g h => ?_, ?_, ?_, rfl, fun j hj => ?_, fun f => ?_⟩⟩
        · cases h; exact ⟨q2, rfl⟩
        · rw [q3]
          show AV.own key 0 N sz = .own (thL [K] key idTh L 0).1 (thL [K] key idTh L 0).2 N sz
          unfold thL
          rw [if_neg (by simp; omega)]
          rfl
        · rw [q3]; exact .inr rfl
        · have : j = 0 := by simp at hj; omega
          subst this
          exact ⟨_, _, q1, rfl, fun f => ⟨rowRen_T thL_0 (newG_0 (by simp)) hok.2 f, by rw [famT_g]; simp⟩⟩
        · refine ⟨_, q4, rowRen_clean' ?_ fun j hj c hc => ?_, ?_⟩
          · unfold famN
            by_cases e : f = 0
            · subst e
              exact ⟨rfl, rfl, rfl, rfl, fun i hi => (q5 i hi).symm⟩
            · simp only [e, if_false]
              exact .refl _
          · unfold famN at hj hc
            by_cases e : f = 0
            · subst e
              simp only [if_true] at hj hc
              rw [q5 j hj] at hc
              exact cleanCs_mem (hok.2 j hj) c hc
            · simp [e] at hj
          · unfold famN
            split <;> simp
    · cases hc
  · cases hc

theorem setRow_self {r : Nat} {x : Fam} : ∀ {m : Mem}, look m r = some x → setRow r x m = m
  | [], h => by simp [look] at h
  | (k, y) :: m, h => by
    unfold look at h
    unfold setRow
    split at h
    · rename_i e; cases h; subst e; simp
    · rename_i e; rw [if_neg e, setRow_self h]
/-- As 'mcTL': the table itself is left ars it is. -/
def mcTR (sz : Nat) (tp ty tl : TypeId) : MCon := fun key m es => match es with
  | [.own K 0 N 1] => match look m K with
    | some fam => some ⟨[tabOK K N sz tp ty fam, N ≤ 1000, ∀ i, i < N → ((fam (i + 1)).get 0).length = sz ∧ allCells ((fam (i + 1)).get 0) = true], .own key 0 N sz, .many [] (some (famN N sz tl (fun i => (fam (i + 1)).get 0) none))⟩
    | none => none
  | _ => none
theorem MConOK.mcTR {sz : Nat} {tp ty tl : TypeId} (h : MConOK P f (Ax.mcTL sz tp ty tl)) : MConOK P f (Ax.mcTR sz tp ty tl) := by
  intro w0 ρ m m' D w key es vs e hR hk hm hRs hc hob hmany
  unfold Ax.mcTR at hc
  split at hc
  · rename_i K N
    split at hc
    · rename_i fam hl
      cases hc
      have := h w0 ρ m m' D w key [.own K 0 N 1] vs ⟨[tabOK K N sz tp ty fam, N ≤ 1000, ∀ i, i < N → ((fam (i + 1)).get 0).length = sz ∧ allCells ((fam (i + 1)).get 0) = true], .own key 0 N sz, .many [(K, famT K N sz tp ty fun i => (fam (i + 1)).get 0)] (some (famN N sz tl (fun i => (fam (i + 1)).get 0) none))⟩ hR hk hm hRs (by simp only [Ax.mcTL, hl]) hob ⟨_, _, rfl⟩
      refine this.mono fun v w' ⟨ρ', p1, p2, p3, p4⟩ => ⟨ρ', p1, ?_, p3, p4⟩
      have hok : tabOK K N sz tp ty fam := hob _ (by simp)
      have hKm := hm _ _ hl
      have hne : K ≠ key := fun e => hk (e ▸ hR.key _ _ hKm)
      have p2 : Rel w0 ρ' (insRow key (famN N sz tl (fun i => (fam (i + 1)).get 0) none) (setRow K (famT K N sz tp ty fun i => (fam (i + 1)).get 0) m)) (fun r => D r ∨ r = key) w' := p2
      rw [← set_ins hne] at p2
      have p5 := Rel.alike p2 (y := fam) (fun f => hok.1 f)
      rw [set_ins hne, setRow_self hKm] at p5
      exact p5
    · cases hc
  · cases hc

/-! ### A new row of one element -/
def mcN (ty : TypeId) (F : List AV → Option (List Prop × List AV)) : MCon := fun key m es => match F es with
  | some (ob, cs) => some ⟨ob, .bx key 0, .many [] (some (fam1 ty cs.length cs none))⟩
  | none => none
def NewOK (P : Program) (G : Ctx) (H : Hots) (fn : Func) (ty : TypeId) (F : List AV → Option (List Prop × List AV)) : Prop :=
  ∀ es ob cs, F es = some (ob, cs) → (∀ p ∈ ob, p) → (∀ a ∈ es, clean 3 a = true) ∧ cleanCs cs = true ∧ funcOK P H fn es.length = true ∧
    bodyM P G H fn es [] 0 fun a m1 => ∃ L, a = .bx L 0 ∧ look m1 L = some (fam1 ty cs.length cs none)
theorem MConOK.mcN (hG : CtxOK P G) (hf : P.funcs[f]? = some fn) {ty : TypeId} {F : List AV → Option (List Prop × List AV)} (h : NewOK P G H fn ty F) : MConOK P f (mcN ty F) := by
  refine MConOK.of (H := H) hG hf fun key m es e hc hob => ?_
  unfold Ax.mcN at hc
  split at hc
  · rename_i ob cs hF
    cases hc
    obtain ⟨h1, h2, h3, h4⟩ := h _ _ _ hF fun p hp => hob p hp
    obtain ⟨a1, a2⟩ := cleans_ren (θ := thE []) (g := lowG 0) (B := lowB 0) h1
    refine ⟨[], [], es, ⟨by simp, a1.symm, a2, fun j hj => by simp at hj, fun q x hq => by simp [look] at hq⟩, h3, h4.mono fun a m1 ⟨L, q1, q2⟩ => ?_⟩
    refine ⟨whole L, idTh, [], some _, rfl, ⟨fun f r g h => ?_, ?_, ?_, rfl, fun j hj => by simp at hj, fun f => ?_⟩⟩
    · cases h; exact ⟨Nat.zero_le _, rfl⟩
    · rw [q1]; rfl
    · rw [q1]; exact .inr rfl
    · refine ⟨_, q2, rowRen_clean' (.refl _) fun j hj c hc => ?_, ?_⟩
      · unfold fam1 at hj hc
        by_cases e : f = 0
        · subst e
          exact cleanCs_mem h2 c (by simpa using hc)
        · simp [e] at hj
      · unfold fam1
        split <;> simp
  · cases hc

/-! ### A new table -/
def mcL (sz : Nat) (tp ty : TypeId) (F : List AV → Option (List Prop × Nat × (Nat → List AV))) : MCon := fun key m es => match F es with
  | some (ob, N, get) => some ⟨ob, .own key 0 N 1, .many [] (some (famT key N sz tp ty get))⟩
  | none => none
def LayOK (P : Program) (G : Ctx) (H : Hots) (fn : Func) (sz : Nat) (tp ty : TypeId) (F : List AV → Option (List Prop × Nat × (Nat → List AV))) : Prop :=
  ∀ es ob N get, F es = some (ob, N, get) → (∀ p ∈ ob, p) → (∀ a ∈ es, clean 3 a = true) ∧ (∀ i, i < N → cleanCs (get i) = true) ∧ funcOK P H fn es.length = true ∧
    bodyM P G H fn es [] 0 fun a m1 => ∃ L get', a = .own L 0 N 1 ∧ look m1 L = some (famT L N sz tp ty get') ∧ ∀ i, i < N → get' i = get i
theorem MConOK.mcL (hG : CtxOK P G) (hf : P.funcs[f]? = some fn) {sz : Nat} {tp ty : TypeId} {F : List AV → Option (List Prop × Nat × (Nat → List AV))} (h : LayOK P G H fn sz tp ty F) : MConOK P f (mcL sz tp ty F) := by
  refine MConOK.of (H := H) hG hf fun key m es e hc hob => ?_
  unfold Ax.mcL at hc
  split at hc
  · rename_i ob N get hF
    cases hc
    obtain ⟨h1, h2, h3, h4⟩ := h _ _ _ _ hF fun p hp => hob p hp
    obtain ⟨a1, a2⟩ := cleans_ren (θ := thE []) (g := lowG 0) (B := lowB 0) h1
    refine ⟨[], [], es, ⟨by simp, a1.symm, a2, fun j hj => by simp at hj, fun q x hq => by simp [look] at hq⟩, h3, h4.mono fun a m1 ⟨L, get', q1, q2, q3⟩ => ?_⟩
    refine ⟨whole L, idTh, [], some _, rfl, ⟨fun f r g h => ?_, ?_, ?_, rfl, fun j hj => by simp at hj, fun f => ?_⟩⟩
    · cases h; exact ⟨Nat.zero_le _, rfl⟩
    · rw [q1]; rfl
    · rw [q1]; exact .inr rfl
    · refine ⟨_, q2, ?_, by rw [famT_g]; simp⟩
      cases f with
      | zero =>
        refine ⟨rfl, rfl, rfl, rfl, fun j hj => ⟨rfl, fun c hc => ?_⟩⟩
        simp only [famT, List.mem_singleton] at hc
        rw [hc]; exact .inr rfl
      | succ f =>
        refine rowRen_clean' ⟨rfl, rfl, rfl, rfl, fun j hj => ?_⟩ fun j hj c hcm => ?_
        · simp only [famT] at hj ⊢
          split at hj
          · rename_i hf
            rw [q3 f hf]
          · omega
        · simp only [famT] at hj hcm
          split at hj
          · rename_i hf
            have : j = 0 := by omega
            subst this
            simp only [if_true] at hcm
            rw [q3 f hf] at hcm
            exact cleanCs_mem (h2 f hf) c hcm
          · omega
  · cases hc

/-! ### A table and an element of another row -/
def mcTP (sz sz2 : Nat) (tp ty : TypeId) (F : Nat → (Nat → List AV) → List AV → List AV → Option (List Prop × AV × (Nat → List AV) × List AV)) : MCon := fun key m es => match es with
  | .own K 0 N 1 :: .ptr C f i s2 0 :: rest => match look m K with
    | some fam => match look m C with
      | some famC => match F N (fun i => (fam (i + 1)).get 0) ((famC f).get i) rest with
        | some (ob, val, get', cs') => some ⟨(K ≠ C) :: (s2 = sz2) :: (i < (famC f).n) :: (sz2 = (famC f).sz) :: (cleanCs ((famC f).get i) = true) :: famOK C famC :: tabOK K N sz tp ty fam :: ob, val, .many [(K, famT K N sz tp ty get'), (C, famE famC f i cs')] none⟩
        | none => none
      | none => none
    | none => none
  | .own K 0 N 1 :: .bx C 0 :: rest => match look m K with
    | some fam => match look m C with
      | some famC => match F N (fun i => (fam (i + 1)).get 0) ((famC 0).get 0) rest with
        | some (ob, val, get', cs') => some ⟨(K ≠ C) :: ((famC 0).n = 1) :: (sz2 = (famC 0).sz) :: (cleanCs ((famC 0).get 0) = true) :: famOK C famC :: tabOK K N sz tp ty fam :: ob, val, .many [(K, famT K N sz tp ty get'), (C, wb1 famC cs')] none⟩
        | none => none
      | none => none
    | none => none
  | _ => none
end

/-! ### For the evaluator -/
section
variable {K N sz n r f i : Nat} {tp ty : TypeId} {get : Nat → List AV} {cs l : List AV} {g : Option Bool} {a : AV}
theorem cleanCs_nil : cleanCs [] = true := (rfl)
theorem cleanCs_v {x : Value} : cleanCs (.v x :: l) = cleanCs l := by simp [cleanCs, cleanC]
theorem cleanCs_any : cleanCs (.any :: l) = cleanCs l := by simp [cleanCs, cleanC]
theorem cleanCs_ro {q : Nat → List AV} : cleanCs (.ro n sz q :: l) = cleanCs l := by simp [cleanCs, cleanC]
theorem cleanCs_rop : cleanCs (.rop cs :: l) = cleanCs l := by simp [cleanCs, cleanC]
theorem self_of_clean {c : AV} (h : cleanC c = true) : selfC r c = true := by cases c <;> first | exact h | simp [cleanC] at h
theorem famOK_1 (h : cleanCs cs = true) : famOK r (fam1 ty sz cs none) = True := eq_true fun f => by
  unfold fam1
  by_cases e : f = 0
  · subst e
    exact ⟨rfl, fun j _ c hc => self_of_clean (cleanCs_mem h c (by simpa using hc))⟩
  · simp only [e, if_false]
    exact ⟨trivial, fun j hj => by omega⟩
theorem famOK_N (h : ∀ i, i < n → cleanCs (get i) = true) : famOK r (famN n sz ty get none) = True := eq_true fun f => by
  unfold famN
  by_cases e : f = 0
  · subst e
    exact ⟨rfl, fun j hj c hc => self_of_clean (cleanCs_mem (h j (by simpa using hj)) c (by simpa using hc))⟩
  · simp only [e, if_false]
    exact ⟨trivial, fun j hj => by omega⟩
theorem famOK_T (h : ∀ i, i < N → cleanCs (get i) = true) : famOK K (famT K N sz tp ty get) = True := eq_true fun f => by
  cases f with
  | zero =>
    refine ⟨rfl, fun j _ c hc => ?_⟩
    simp only [famT, List.mem_singleton] at hc
    rw [hc]; simp [selfC]
  | succ f =>
    refine ⟨rfl, fun j hj c hc => ?_⟩
    simp only [famT] at hj hc
    split at hj
    · rename_i hf
      have : j = 0 := by omega
      subst this
      exact self_of_clean (cleanCs_mem (h f hf) c (by simpa using hc))
    · omega
theorem tabOK_T (h : ∀ i, i < N → cleanCs (get i) = true) : tabOK K N sz tp ty (famT K N sz tp ty get) = True := eq_true ⟨fun f => by
  cases f <;> exact ⟨rfl, rfl, rfl, rfl, fun _ _ => rfl⟩, h⟩
theorem famT_get : (famT K N sz tp ty get (i + 1)).get 0 = get i := (rfl)
theorem famT_n : (famT K N sz tp ty get (i + 1)).n = if i < N then 1 else 0 := (rfl)
theorem famT_sz : (famT K N sz tp ty get (i + 1)).sz = sz := (rfl)
theorem fam1_get : (fam1 ty sz cs g 0).get i = cs := (rfl)
theorem fam1_n : (fam1 ty sz cs g 0).n = 1 := (rfl)
theorem fam1_sz : (fam1 ty sz cs g 0).sz = sz := (rfl)
theorem famN_get : (famN n sz ty get g 0).get i = get i := (rfl)
theorem famN_n : (famN n sz ty get g 0).n = n := (rfl)
theorem famN_sz : (famN n sz ty get g 0).sz = sz := (rfl)
theorem famOK_Es {fam : Fam} (h : famOK r fam) (hc : cleanCs cs = true) : famOK r (famE fam f i cs) = True := eq_true (famOK_E h (cleanCs_mem hc))
theorem wb1_1 : wb1 (fam1 ty sz cs g) l = fam1 ty sz l g := by
  funext f
  unfold wb1 fam1
  by_cases e : f = 0 <;> simp [e]
theorem wb1_N {get : Nat → List AV} : wb1 (famN 1 sz ty get g) l = famN 1 sz ty (fun _ => l) g := by
  funext f
  unfold wb1 famN
  by_cases e : f = 0 <;> simp [e]
end
attribute [go_sem] cleanCs_nil cleanCs_v cleanCs_any cleanCs_ro cleanCs_rop famOK_1 famOK_N famOK_T famOK_Es famE_n famE_sz famE_g famE_get famE_twice tabOK_T famT_get famT_n famT_sz fam1_get fam1_n fam1_sz famN_get famN_n famN_sz wb1_1 wb1_N famE_T lt_ite tupOf_nil tupOf_one tupOf_two retML_nil retML_cons retMS_some endMR_ret endMR_normal
end Go.Ax
end

section
/-
  Numbers and vectors that the solver computes with besides.
-/
set_option linter.unusedVariables false
set_option linter.unusedSimpArgs false
set_option maxHeartbeats 4000000
set_option maxRecDepth 100000
namespace Go.Ax
open Go.Proofs
def nWh (a : Nb) : Nb := (whV a.1, whF a.1 a.2)
theorem gx_row1 {a : Int} {e : Bool} : gx (rowsOf 2 [i64 a, bo e]) 0 0 = a := (rfl)
theorem gb_row1 {a : Int} {e : Bool} : gb (rowsOf 2 [i64 a, bo e]) 1 0 = e := (rfl)
theorem iWh {a : Nb} (h : inR a.1) : inR (nWh a).1 = True := inR_of (whV_rg h)
theorem sum1 {g : Nat → List AV} (h : nums 1 g) : (nu (suS (wvS g) 1) (wfS 1 g) : AV) = nbA (nWh (gx g 0 0, gb g 1 0)) := by
  have h0 := (h 0 (by omega)).2
  have e1 : suS (wvS g) 1 = whV (gx g 0 0) := by simp [suS, wvS]
  have e2 : wfS 1 g = whF (gx g 0 0) (gb g 1 0) := by simp [wfS, anyB]
  unfold nu nbA nWh
  rw [e1, e2, ftV_of (whV_rg h0), ftF_of (whV_rg h0)]
  rfl
theorem sum2' {g : Nat → List AV} : (nu (suS (wvS g) 2) (wfS 2 g) : AV) = nbA (nAdd (gx g 0 0, gb g 1 0) (gx g 0 1, gb g 1 1)) := by
  have e1 : suS (wvS g) 2 = whV (gx g 0 0) + whV (gx g 0 1) := by simp [suS, wvS]
  have e2 : wfS 2 g = (whF (gx g 0 0) (gb g 1 0) || whF (gx g 0 1) (gb g 1 1)) := by simp [wfS, anyB]
  unfold nu nbA nAdd
  rw [e1, e2]
def kSum : Con
  | [.ro 1 2 g] => some ([nums 1 g], nbA (nWh (gx g 0 0, gb g 1 0)))
  | [.ro 2 2 g] => some ([nums 2 g], nbA (nAdd (gx g 0 0, gb g 1 0) (gx g 0 1, gb g 1 1)))
  | _ => none
theorem kSum_go {P : Program} {f : FuncId} {c : Con} (hc : ConOK P f c) (h : ∀ n g, c [.ro n 2 g] = some ([nums n g, n ≤ 1000], nu (suS (wvS g) n) (wfS n g))) : ConOK P f kSum := fun l ob r he hob => by
  unfold kSum at he
  split at he
  · rename_i g
    cases he
    have hn : nums 1 g := hob _ (by simp)
    have := hc [.ro 1 2 g] _ _ (h 1 g) (owe2 hn (by omega))
    rw [sum1 hn] at this
    exact this
  · rename_i g
    cases he
    have hn : nums 2 g := hob _ (by simp)
    have := hc [.ro 2 2 g] _ _ (h 2 g) (owe2 hn (by omega))
    rw [sum2'] at this
    exact this
  · cases he
theorem konS179 : ConOK Tryz.prog 179 kSum := kSum_go con179 fun _ _ => rfl
theorem konS159 : ConOK Tryz.prog 159 kSum := kSum_go con159 fun _ _ => rfl
def kw153 : Con
  | [.agg [.v (.int .i64 a), .v (.bool e)], .agg [.v (.int .i64 b), .v (.bool f)]] => some ([inR a, inR b], nbA (nAdd (a, e) (b, f)))
  | _ => none
theorem konw153 : ConOK Tryz.prog 153 kw153 := ConOK.of (G := [(179, kSum)]) (H := []) (.cons konS179 .nil) Tryz.func153 fun l ob rr hc hob => by
  unfold kw153 at hc
  split at hc
  · rename_i a e b f
    cases hc
    have h_0 : inR a := hob _ (by simp)
    have h_1 : inR b := hob _ (by simp)
    refine ⟨by kernel_rfl, fnVC_go (rs := [.cell 4 24]) rfl rfl ?_⟩
    simp only [go_sem, kSum, iMul, iDiv, iInt, iAdd, iSub, iRat, iDot, iHyp, iSq, iNeg, iPos, iAbs, iMx, iMn, iCl, iWh, iLoc1, iLoc2, iVAdd1, iVAdd2, iVSub1, iVSub2, iScale1, iScale2, iVDot, iVCross, iLen, iOf1, iOf2, iUnit1, iUnit2, h_0, h_1]
    rfl
  · cases hc
def kw160p : Con
  | [.agg [.v (.int .i64 x), .v (.bool e), .v (.int .i64 y), .v (.bool f)]] => some ([inR x, inR y], veA (nNeg (y, f), nWh (x, e)))
  | _ => none
theorem konw160p : ConOK Tryz.prog 160 kw160p := ConOK.of (G := [(164, k179), (179, kSum)]) (H := [(1, ⟨[(8, .slot 2)], []⟩)]) (.cons kon179 (.cons konS179 .nil)) Tryz.func160 fun l ob rr hc hob => by
  unfold kw160p at hc
  split at hc
  · rename_i x e y f
    cases hc
    have h_0 : inR x := hob _ (by simp)
    have h_1 : inR y := hob _ (by simp)
    refine ⟨by kernel_rfl, fnVC_go (rs := [.cell 2 26]) rfl rfl ?_⟩
    simp only [go_sem, k179, kSum, iMul, iDiv, iInt, iAdd, iSub, iRat, iDot, iHyp, iSq, iNeg, iPos, iAbs, iMx, iMn, iCl, iWh, iLoc1, iLoc2, iVAdd1, iVAdd2, iVSub1, iVSub2, iScale1, iScale2, iVDot, iVCross, iLen, iOf1, iOf2, iUnit1, iUnit2, h_0, h_1]
    rfl
  · cases hc
def kw91 : Con
  | [.agg [.v (.int .i64 x), .v (.bool e), .v (.int .i64 y), .v (.bool f)]] => some ([inR x, inR y], veA (nNeg (y, f), nWh (x, e)))
  | _ => none
theorem konw91 : ConOK Tryz.prog 91 kw91 := ConOK.of (G := [(92, k111), (159, kSum)]) (H := [(1, ⟨[(8, .slot 2)], []⟩)]) (.cons kon111 (.cons konS159 .nil)) Tryz.func91 fun l ob rr hc hob => by
  unfold kw91 at hc
  split at hc
  · rename_i x e y f
    cases hc
    have h_0 : inR x := hob _ (by simp)
    have h_1 : inR y := hob _ (by simp)
    refine ⟨by kernel_rfl, fnVC_go (rs := [.cell 2 26]) rfl rfl ?_⟩
    simp only [go_sem, k111, kSum, iMul, iDiv, iInt, iAdd, iSub, iRat, iDot, iHyp, iSq, iNeg, iPos, iAbs, iMx, iMn, iCl, iWh, iLoc1, iLoc2, iVAdd1, iVAdd2, iVSub1, iVSub2, iScale1, iScale2, iVDot, iVCross, iLen, iOf1, iOf2, iUnit1, iUnit2, h_0, h_1]
    rfl
  · cases hc
def vPerp (v : V2) : V2 := (nNeg v.2, nWh v.1)
def vTurn (k : Nb) (v : V2) : V2 := vScale (vPerp v) k
def vOpp (v : V2) : V2 := (nNeg v.1, nNeg v.2)
def kw218 : Con
  | [.agg [.v (.int .i64 k), .v (.bool g)], .agg [.v (.int .i64 x), .v (.bool e), .v (.int .i64 y), .v (.bool f)]] => some ([inR k, inR x, inR y], veA (vTurn (k, g) ((x, e), (y, f))))
  | _ => none
theorem konw218 : ConOK Tryz.prog 218 kw218 := ConOK.of (G := [(160, kw160p), (122, k169)]) (H := [(1, ⟨[(4, .slot 4)], []⟩)]) (.cons konw160p (.cons kon169 .nil)) Tryz.func218 fun l ob rr hc hob => by
  unfold kw218 at hc
  split at hc
  · rename_i k g x e y f
    cases hc
    have h_0 : inR k := hob _ (by simp)
    have h_1 : inR x := hob _ (by simp)
    have h_2 : inR y := hob _ (by simp)
    refine ⟨by kernel_rfl, fnVC_go (rs := [.cell 4 26]) rfl rfl ?_⟩
    simp only [go_sem, kw160p, k169, iMul, iDiv, iInt, iAdd, iSub, iRat, iDot, iHyp, iSq, iNeg, iPos, iAbs, iMx, iMn, iCl, iWh, iLoc1, iLoc2, iVAdd1, iVAdd2, iVSub1, iVSub2, iScale1, iScale2, iVDot, iVCross, iLen, iOf1, iOf2, iUnit1, iUnit2, h_0, h_1, h_2]
    rfl
  · cases hc
def kw109t : Con
  | [.agg [.v (.int .i64 k), .v (.bool g)], .agg [.v (.int .i64 x), .v (.bool e), .v (.int .i64 y), .v (.bool f)]] => some ([inR k, inR x, inR y], veA (vTurn (k, g) ((x, e), (y, f))))
  | _ => none
theorem konw109t : ConOK Tryz.prog 109 kw109t := ConOK.of (G := [(91, kw91), (85, k147)]) (H := [(1, ⟨[(4, .slot 4)], []⟩)]) (.cons konw91 (.cons kon147 .nil)) Tryz.func109 fun l ob rr hc hob => by
  unfold kw109t at hc
  split at hc
  · rename_i k g x e y f
    cases hc
    have h_0 : inR k := hob _ (by simp)
    have h_1 : inR x := hob _ (by simp)
    have h_2 : inR y := hob _ (by simp)
    refine ⟨by kernel_rfl, fnVC_go (rs := [.cell 4 26]) rfl rfl ?_⟩
    simp only [go_sem, kw91, k147, iMul, iDiv, iInt, iAdd, iSub, iRat, iDot, iHyp, iSq, iNeg, iPos, iAbs, iMx, iMn, iCl, iWh, iLoc1, iLoc2, iVAdd1, iVAdd2, iVSub1, iVSub2, iScale1, iScale2, iVDot, iVCross, iLen, iOf1, iOf2, iUnit1, iUnit2, h_0, h_1, h_2]
    rfl
  · cases hc
def kw252o : Con
  | [.agg [.v (.int .i64 x), .v (.bool e), .v (.int .i64 y), .v (.bool f)]] => some ([inR x, inR y], veA (vOpp ((x, e), (y, f))))
  | _ => none
theorem konw252o : ConOK Tryz.prog 252 kw252o := ConOK.of (G := [(164, k179)]) (H := [(1, ⟨[(7, .slot 2)], []⟩)]) (.cons kon179 .nil) Tryz.func252 fun l ob rr hc hob => by
  unfold kw252o at hc
  split at hc
  · rename_i x e y f
    cases hc
    have h_0 : inR x := hob _ (by simp)
    have h_1 : inR y := hob _ (by simp)
    refine ⟨by kernel_rfl, fnVC_go (rs := [.cell 2 26]) rfl rfl ?_⟩
    simp only [go_sem, k179, iMul, iDiv, iInt, iAdd, iSub, iRat, iDot, iHyp, iSq, iNeg, iPos, iAbs, iMx, iMn, iCl, iWh, iLoc1, iLoc2, iVAdd1, iVAdd2, iVSub1, iVSub2, iScale1, iScale2, iVDot, iVCross, iLen, iOf1, iOf2, iUnit1, iUnit2, h_0, h_1]
    rfl
  · cases hc
def limS (x : Nb) (n : Int) : Nb := ((nCl x (nInt (-n)) (nInt n)).1, false)
def limV (v : V2) : V2 := (limS v.1 256, limS v.2 256)
def kw118 : Con
  | [.agg [.v (.int .i64 x), .v (.bool e)], .v (.int .i64 n)] => some ([inR x, 0 ≤ n ∧ n ≤ 65536], nbA (limS (x, e) n))
  | _ => none
theorem konw118 : ConOK Tryz.prog 118 kw118 := ConOK.of (G := [(143, k50), (95, k146)]) (H := [(1, ⟨[(8, .made 7)], []⟩)]) (.cons kon50 (.cons kon146 .nil)) Tryz.func118 fun l ob rr hc hob => by
  unfold kw118 at hc
  split at hc
  · rename_i x e n
    cases hc
    have h_0 : inR x := hob _ (by simp)
    have h_1 : 0 ≤ n ∧ n ≤ 65536 := hob _ (by simp)
    refine ⟨by kernel_rfl, fnVC_go (rs := [.cell 4 24]) rfl rfl ?_⟩
    simp only [go_sem, k50, k146, iMul, iDiv, iInt, iAdd, iSub, iRat, iDot, iHyp, iSq, iNeg, iPos, iAbs, iMx, iMn, iCl, iWh, iLoc1, iLoc2, iVAdd1, iVAdd2, iVSub1, iVSub2, iScale1, iScale2, iVDot, iVCross, iLen, iOf1, iOf2, iUnit1, iUnit2, h_0, h_1]
    intro z hz
    rw [wrap_in (by unfold inR; omega)] at hz
    subst hz
    have e : (0 - n) = -n := by omega
    rw [e]
    exact ⟨by unfold inR; omega, by unfold inR; omega, rfl⟩
  · cases hc
def kw117l : Con
  | [.agg [.v (.int .i64 x), .v (.bool e), .v (.int .i64 y), .v (.bool f)]] => some ([inR x, inR y], veA (limV ((x, e), (y, f))))
  | _ => none
theorem konw117l : ConOK Tryz.prog 117 kw117l := ConOK.of (G := [(118, kw118)]) (H := [(1, ⟨[(7, .slot 2)], []⟩)]) (.cons konw118 .nil) Tryz.func117 fun l ob rr hc hob => by
  unfold kw117l at hc
  split at hc
  · rename_i x e y f
    cases hc
    have h_0 : inR x := hob _ (by simp)
    have h_1 : inR y := hob _ (by simp)
    refine ⟨by kernel_rfl, fnVC_go (rs := [.cell 2 26]) rfl rfl ?_⟩
    simp only [go_sem, kw118, iMul, iDiv, iInt, iAdd, iSub, iRat, iDot, iHyp, iSq, iNeg, iPos, iAbs, iMx, iMn, iCl, iWh, iLoc1, iLoc2, iVAdd1, iVAdd2, iVSub1, iVSub2, iScale1, iScale2, iVDot, iVCross, iLen, iOf1, iOf2, iUnit1, iUnit2, h_0, h_1]
    rfl
  · cases hc
def kw177 : Con
  | [.agg [.v (.int .i64 x), .v (.bool e)], .rop [.v (.int .i64 n)]] => some ([inR x, 0 ≤ n ∧ n ≤ 65536], nbA (limS (x, e) n))
  | _ => none
theorem konw177 : ConOK Tryz.prog 177 kw177 := ConOK.of (G := [(178, k127), (163, k171)]) (H := [(1, ⟨[(7, .slot 2)], []⟩)]) (.cons kon127 (.cons kon171 .nil)) Tryz.func177 fun l ob rr hc hob => by
  unfold kw177 at hc
  split at hc
  · rename_i x e n
    cases hc
    have h_0 : inR x := hob _ (by simp)
    have h_1 : 0 ≤ n ∧ n ≤ 65536 := hob _ (by simp)
    refine ⟨by kernel_rfl, fnVC_go (rs := [.cell 3 24]) rfl rfl ?_⟩
    simp only [go_sem, k127, k171, iMul, iDiv, iInt, iAdd, iSub, iRat, iDot, iHyp, iSq, iNeg, iPos, iAbs, iMx, iMn, iCl, iWh, iLoc1, iLoc2, iVAdd1, iVAdd2, iVSub1, iVSub2, iScale1, iScale2, iVDot, iVCross, iLen, iOf1, iOf2, iUnit1, iUnit2, h_0, h_1]
    intro z hz
    rw [wrap_in (by unfold inR; omega)] at hz
    subst hz
    have e : (0 - n) = -n := by omega
    rw [e]
    exact ⟨by unfold inR; omega, by unfold inR; omega, rfl⟩
  · cases hc
def kw239 : Con
  | [.agg [.v (.int .i64 x), .v (.bool e)], .rop [.v (.int .i64 n)]] => some ([inR x, 0 ≤ n ∧ n ≤ 65536], nbA (limS (x, e) n))
  | _ => none
theorem konw239 : ConOK Tryz.prog 239 kw239 := ConOK.of (G := [(178, k127), (163, k171)]) (H := [(1, ⟨[(7, .slot 2)], []⟩)]) (.cons kon127 (.cons kon171 .nil)) Tryz.func239 fun l ob rr hc hob => by
  unfold kw239 at hc
  split at hc
  · rename_i x e n
    cases hc
    have h_0 : inR x := hob _ (by simp)
    have h_1 : 0 ≤ n ∧ n ≤ 65536 := hob _ (by simp)
    refine ⟨by kernel_rfl, fnVC_go (rs := [.cell 3 24]) rfl rfl ?_⟩
    simp only [go_sem, k127, k171, iMul, iDiv, iInt, iAdd, iSub, iRat, iDot, iHyp, iSq, iNeg, iPos, iAbs, iMx, iMn, iCl, iWh, iLoc1, iLoc2, iVAdd1, iVAdd2, iVSub1, iVSub2, iScale1, iScale2, iVDot, iVCross, iLen, iOf1, iOf2, iUnit1, iUnit2, h_0, h_1]
    intro z hz
    rw [wrap_in (by unfold inR; omega)] at hz
    subst hz
    have e : (0 - n) = -n := by omega
    rw [e]
    exact ⟨by unfold inR; omega, by unfold inR; omega, rfl⟩
  · cases hc
def kw120 : Con
  | [.agg [.v (.int .i64 x), .v (.bool e), .v (.int .i64 y), .v (.bool f)], .v (.int .i64 n)] => some ([inR x, inR y, 0 ≤ n ∧ n ≤ 65536], veA (limS (x, e) n, limS (y, f) n))
  | _ => none
theorem konw120 : ConOK Tryz.prog 120 kw120 := ConOK.of (G := [(177, kw177)]) (H := [(8, ⟨[(16, .slot 7), (19, .slot 7)], []⟩)]) (.cons konw177 .nil) Tryz.func120 fun l ob rr hc hob => by
  unfold kw120 at hc
  split at hc
  · rename_i x e y f n
    cases hc
    have h_0 : inR x := hob _ (by simp)
    have h_1 : inR y := hob _ (by simp)
    have h_2 : 0 ≤ n ∧ n ≤ 65536 := hob _ (by simp)
    refine ⟨by kernel_rfl, fnVC_go (rs := [.cell 4 26]) rfl rfl ?_⟩
    simp only [go_sem, kw177, iMul, iDiv, iInt, iAdd, iSub, iRat, iDot, iHyp, iSq, iNeg, iPos, iAbs, iMx, iMn, iCl, iWh, iLoc1, iLoc2, iVAdd1, iVAdd2, iVSub1, iVSub2, iScale1, iScale2, iVDot, iVCross, iLen, iOf1, iOf2, iUnit1, iUnit2, h_0, h_1, h_2]
    exact ⟨False.elim, fun _ => ⟨fun _ => rfl, fun h => by cases h⟩⟩
  · cases hc
def kw176l : Con
  | [.agg [.v (.int .i64 x), .v (.bool e)], .v (.int .i64 n)] => some ([inR x, 0 ≤ n ∧ n ≤ 65536], nbA (limS (x, e) n))
  | _ => none
theorem konw176l : ConOK Tryz.prog 176 kw176l := ConOK.of (G := [(239, kw239)]) (H := [(8, ⟨[(16, .slot 7), (19, .slot 7)], []⟩)]) (.cons konw239 .nil) Tryz.func176 fun l ob rr hc hob => by
  unfold kw176l at hc
  split at hc
  · rename_i x e n
    cases hc
    have h_0 : inR x := hob _ (by simp)
    have h_1 : 0 ≤ n ∧ n ≤ 65536 := hob _ (by simp)
    refine ⟨by kernel_rfl, fnVC_go (rs := [.cell 4 24]) rfl rfl ?_⟩
    simp only [go_sem, kw239, iMul, iDiv, iInt, iAdd, iSub, iRat, iDot, iHyp, iSq, iNeg, iPos, iAbs, iMx, iMn, iCl, iWh, iLoc1, iLoc2, iVAdd1, iVAdd2, iVSub1, iVSub2, iScale1, iScale2, iVDot, iVCross, iLen, iOf1, iOf2, iUnit1, iUnit2, h_0, h_1]
    exact ⟨fun _ => rfl, fun h => by cases h⟩
  · cases hc
/-! ### Flags and ranges -/
def kw137 : Con
  | [.agg [.v (.int .i64 x), .v (.bool e)]] => some ([inR x], i64 (whV x))
  | _ => none
theorem konw137 : ConOK Tryz.prog 137 kw137 := ConOK.of (G := [(197, c197)]) (H := []) (.cons con197 .nil) Tryz.func137 fun l ob rr hc hob => by
  unfold kw137 at hc
  split at hc
  · rename_i x e
    cases hc
    have h_0 : inR x := hob _ (by simp)
    refine ⟨by kernel_rfl, fnVC_go (rs := [.tmp 2]) rfl rfl ?_⟩
    simp only [go_sem, c197, iMul, iDiv, iInt, iAdd, iSub, iRat, iDot, iHyp, iSq, iNeg, iPos, iAbs, iMx, iMn, iCl, iWh, iLoc1, iLoc2, iVAdd1, iVAdd2, iVSub1, iVSub2, iScale1, iScale2, iVDot, iVCross, iLen, iOf1, iOf2, iUnit1, iUnit2, h_0]
    simp only [forall_eq]
  · cases hc
def kw201 : Con
  | [.agg [.v (.int .i64 x), .v (.bool e)]] => some ([inR x], bo (whF x e))
  | _ => none
theorem konw201 : ConOK Tryz.prog 201 kw201 := ConOK.of (G := [(197, c197)]) (H := []) (.cons con197 .nil) Tryz.func201 fun l ob rr hc hob => by
  unfold kw201 at hc
  split at hc
  · rename_i x e
    cases hc
    have h_0 : inR x := hob _ (by simp)
    refine ⟨by kernel_rfl, fnVC_go (rs := [.tmp 2]) rfl rfl ?_⟩
    simp only [go_sem, c197, iMul, iDiv, iInt, iAdd, iSub, iRat, iDot, iHyp, iSq, iNeg, iPos, iAbs, iMx, iMn, iCl, iWh, iLoc1, iLoc2, iVAdd1, iVAdd2, iVSub1, iVSub2, iScale1, iScale2, iVDot, iVCross, iLen, iOf1, iOf2, iUnit1, iUnit2, h_0]
    simp only [forall_eq]
    show ((decide (x = -9223372036854775808) || false) || e) = _
    rw [Bool.or_false]; rfl
  · cases hc
def withS (a : Nb) (n : Int) : Bool := !whF a.1 a.2 && decide (-(n * 4294967296) ≤ a.1 ∧ a.1 ≤ n * 4294967296)
def kw144w : Con
  | [.agg [.v (.int .i64 x), .v (.bool e)], .v (.int .i64 n)] => some ([inR x, 0 ≤ n ∧ n ≤ 65536], bo (withS (x, e) n))
  | _ => none
theorem konw144w : ConOK Tryz.prog 144 kw144w := ConOK.of (G := [(201, kw201)]) (H := []) (.cons konw201 .nil) Tryz.func144 fun l ob rr hc hob => by
  unfold kw144w at hc
  split at hc
  · rename_i x e n
    cases hc
    have h_0 : inR x := hob _ (by simp)
    have h_1 : 0 ≤ n ∧ n ≤ 65536 := hob _ (by simp)
    refine ⟨by kernel_rfl, fnVC_go (rs := [.tmp 4]) rfl rfl ?_⟩
    simp only [go_sem, kw201, iMul, iDiv, iInt, iAdd, iSub, iRat, iDot, iHyp, iSq, iNeg, iPos, iAbs, iMx, iMn, iCl, iWh, iLoc1, iLoc2, iVAdd1, iVAdd2, iVSub1, iVSub2, iScale1, iScale2, iVDot, iVCross, iLen, iOf1, iOf2, iUnit1, iUnit2, h_0, h_1]
    simp only [forall_eq]
    rw [wrap_in (x := 0 - n) (by unfold inR; omega), wrap_in (x := n * 4294967296) (by unfold inR; omega), wrap_in (by unfold inR; omega)]
    have e1 : (0 - n) * 4294967296 = -(n * 4294967296) := by omega
    rw [e1]
    unfold withS
    cases whF x e <;> simp [Bool.and_comm]
  · cases hc
def kw127b : Con
  | [.agg [.v (.int .i64 x), .v (.bool e), .v (.int .i64 y), .v (.bool f)], .v (.int .i64 n)] => some ([inR x, inR y, 0 ≤ n ∧ n ≤ 65536], bo (withS (x, e) n && withS (y, f) n))
  | _ => none
theorem konw127b : ConOK Tryz.prog 127 kw127b := ConOK.of (G := [(144, kw144w)]) (H := []) (.cons konw144w .nil) Tryz.func127 fun l ob rr hc hob => by
  unfold kw127b at hc
  split at hc
  · rename_i x e y f n
    cases hc
    have h_0 : inR x := hob _ (by simp)
    have h_1 : inR y := hob _ (by simp)
    have h_2 : 0 ≤ n ∧ n ≤ 65536 := hob _ (by simp)
    refine ⟨by kernel_rfl, fnVC_go (rs := [.tmp 4]) rfl rfl ?_⟩
    simp only [go_sem, kw144w, iMul, iDiv, iInt, iAdd, iSub, iRat, iDot, iHyp, iSq, iNeg, iPos, iAbs, iMx, iMn, iCl, iWh, iLoc1, iLoc2, iVAdd1, iVAdd2, iVSub1, iVSub2, iScale1, iScale2, iVDot, iVCross, iLen, iOf1, iOf2, iUnit1, iUnit2, h_0, h_1, h_2]
    simp only [forall_eq, and_self, implies_true]
  · cases hc
def kw82s : Con
  | [] => some ([], nbA (nRat 1 64))
  | _ => none
theorem konw82s : ConOK Tryz.prog 82 kw82s := ConOK.of (G := [(28, k54)]) (H := []) (.cons kon54 .nil) Tryz.func82 fun l ob rr hc hob => by
  unfold kw82s at hc
  split at hc
  · skip
    cases hc
    refine ⟨by kernel_rfl, fnVC_go (rs := [.cell 0 24]) rfl rfl ?_⟩
    simp only [go_sem, k54, iMul, iDiv, iInt, iAdd, iSub, iRat, iDot, iHyp, iSq, iNeg, iPos, iAbs, iMx, iMn, iCl, iWh, iLoc1, iLoc2, iVAdd1, iVAdd2, iVSub1, iVSub2, iScale1, iScale2, iVDot, iVCross, iLen, iOf1, iOf2, iUnit1, iUnit2]
    exact ⟨by unfold inR; omega, rfl⟩
  · cases hc
def kw83b : Con
  | [] => some ([], nbA (nRat 1 5))
  | _ => none
theorem konw83b : ConOK Tryz.prog 83 kw83b := ConOK.of (G := [(28, k54)]) (H := []) (.cons kon54 .nil) Tryz.func83 fun l ob rr hc hob => by
  unfold kw83b at hc
  split at hc
  · skip
    cases hc
    refine ⟨by kernel_rfl, fnVC_go (rs := [.cell 0 24]) rfl rfl ?_⟩
    simp only [go_sem, k54, iMul, iDiv, iInt, iAdd, iSub, iRat, iDot, iHyp, iSq, iNeg, iPos, iAbs, iMx, iMn, iCl, iWh, iLoc1, iLoc2, iVAdd1, iVAdd2, iVSub1, iVSub2, iScale1, iScale2, iVDot, iVCross, iLen, iOf1, iOf2, iUnit1, iUnit2]
    exact ⟨by unfold inR; omega, rfl⟩
  · cases hc
def kw94r : Con
  | [] => some ([], nbA (nRat 1 2))
  | _ => none
theorem konw94r : ConOK Tryz.prog 94 kw94r := ConOK.of (G := [(28, k54)]) (H := []) (.cons kon54 .nil) Tryz.func94 fun l ob rr hc hob => by
  unfold kw94r at hc
  split at hc
  · skip
    cases hc
    refine ⟨by kernel_rfl, fnVC_go (rs := [.cell 0 24]) rfl rfl ?_⟩
    simp only [go_sem, k54, iMul, iDiv, iInt, iAdd, iSub, iRat, iDot, iHyp, iSq, iNeg, iPos, iAbs, iMx, iMn, iCl, iWh, iLoc1, iLoc2, iVAdd1, iVAdd2, iVSub1, iVSub2, iScale1, iScale2, iVDot, iVCross, iLen, iOf1, iOf2, iUnit1, iUnit2]
    rfl
  · cases hc
def kw133 : Con
  | [] => some ([], nbA (nRat 1 16))
  | _ => none
theorem konw133 : ConOK Tryz.prog 133 kw133 := ConOK.of (G := [(28, k54)]) (H := []) (.cons kon54 .nil) Tryz.func133 fun l ob rr hc hob => by
  unfold kw133 at hc
  split at hc
  · skip
    cases hc
    refine ⟨by kernel_rfl, fnVC_go (rs := [.cell 0 24]) rfl rfl ?_⟩
    simp only [go_sem, k54, iMul, iDiv, iInt, iAdd, iSub, iRat, iDot, iHyp, iSq, iNeg, iPos, iAbs, iMx, iMn, iCl, iWh, iLoc1, iLoc2, iVAdd1, iVAdd2, iVSub1, iVSub2, iScale1, iScale2, iVDot, iVCross, iLen, iOf1, iOf2, iUnit1, iUnit2]
    exact ⟨by unfold inR; omega, rfl⟩
  · cases hc
def kw55 : Con
  | [] => some ([], .agg [i64 4294967296, bo false])
  | _ => none
theorem konw55 : ConOK Tryz.prog 55 kw55 := ConOK.of (G := []) (H := []) .nil Tryz.func55 fun l ob rr hc hob => by
  unfold kw55 at hc
  split at hc
  · skip
    cases hc
    refine ⟨by kernel_rfl, fnVC_go (rs := [.cell 0 24]) rfl rfl ?_⟩
    simp only [go_sem, iMul, iDiv, iInt, iAdd, iSub, iRat, iDot, iHyp, iSq, iNeg, iPos, iAbs, iMx, iMn, iCl, iWh, iLoc1, iLoc2, iVAdd1, iVAdd2, iVSub1, iVSub2, iScale1, iScale2, iVDot, iVCross, iLen, iOf1, iOf2, iUnit1, iUnit2]
    skip
  · cases hc
end Go.Ax
end

section
/-
  Bodies.
-/
set_option linter.unusedVariables false
set_option linter.unusedSimpArgs false
set_option maxHeartbeats 4000000
set_option maxRecDepth 100000
namespace Go.Ax
open Go.Proofs
/-- A body. -/
structure Bd where
  k : Int
  r : Int
  wd : Int
  ht : Int
  n : Nat
  X : Nat → Int
  Y : Nat → Int
  pl : V2
  rot : V2
  v : V2
  w : Nb
  m : Nb
  i : Nb
  st : Int
  sl : Bool
  fa : Bool
  ve : Int
abbrev ptsA (n : Nat) (X Y : Nat → Int) : AV := .ro n 2 fun j => [i64 (X j), i64 (Y j)]
def bodyC (b : Bd) : List AV := [i64 b.k, i64 b.r, i64 b.wd, i64 b.ht, ptsA b.n b.X b.Y, i64 b.pl.1.1, bo b.pl.1.2, i64 b.pl.2.1, bo b.pl.2.2, i64 b.rot.1.1, bo b.rot.1.2, i64 b.rot.2.1, bo b.rot.2.2,
  i64 b.v.1.1, bo b.v.1.2, i64 b.v.2.1, bo b.v.2.2, i64 b.w.1, bo b.w.2, i64 b.m.1, bo b.m.2, i64 b.i.1, bo b.i.2, i64 b.st, bo b.sl, bo b.fa, i64 b.ve]
def roN (cs : List AV) (k : Nat) : Nat := match cs[k]? with
  | some (.ro n _ _) => n
  | _ => 0
def roG (cs : List AV) (k : Nat) : Nat → List AV := match cs[k]? with
  | some (.ro _ _ g) => g
  | _ => fun _ => []
def bodyD (l : List AV) : Bd :=
  ⟨gi l 0, gi l 1, gi l 2, gi l 3, roN l 4, gx (roG l 4) 0, gx (roG l 4) 1, ((gi l 5, gib l 6), (gi l 7, gib l 8)), ((gi l 9, gib l 10), (gi l 11, gib l 12)), ((gi l 13, gib l 14), (gi l 15, gib l 16)), (gi l 17, gib l 18), (gi l 19, gib l 20), (gi l 21, gib l 22), gi l 23, gib l 24, gib l 25, gi l 26⟩
theorem bodyD_C (b : Bd) : bodyD (bodyC b) = b := rfl
section
variable {k r wd ht a1 a2 r1 r2 v1 v2 w m i st ve : Int} {n : Nat} {g : Nat → List AV} {f1 f2 s1 s2 u1 u2 fw fm fi sl fa : Bool}
theorem bodyD_lit : bodyD [i64 k, i64 r, i64 wd, i64 ht, .ro n 2 g, i64 a1, bo f1, i64 a2, bo f2, i64 r1, bo s1, i64 r2, bo s2, i64 v1, bo u1, i64 v2, bo u2, i64 w, bo fw, i64 m, bo fm, i64 i, bo fi, i64 st, bo sl, bo fa, i64 ve] =
  ⟨k, r, wd, ht, n, gx g 0, gx g 1, ((a1, f1), (a2, f2)), ((r1, s1), (r2, s2)), ((v1, u1), (v2, u2)), (w, fw), (m, fm), (i, fi), st, sl, fa, ve⟩ := (rfl)
end
theorem gx_pts0 {X Y : Nat → Int} : gx (fun j => [i64 (X j), i64 (Y j)]) 0 = X := (rfl)
theorem gx_pts1 {X Y : Nat → Int} : gx (fun j => [i64 (X j), i64 (Y j)]) 1 = Y := (rfl)
theorem bd_eta {b : Bd} : (⟨b.k, b.r, b.wd, b.ht, b.n, b.X, b.Y, b.pl, b.rot, b.v, b.w, b.m, b.i, b.st, b.sl, b.fa, b.ve⟩ : Bd) = b := (rfl)
theorem plain_body {b : Bd} : plain 3 (.agg (bodyC b)) = false := (rfl)
theorem cleanC_body {b : Bd} : ∀ c ∈ bodyC b, cleanC c = true := fun c hc => by
  simp only [bodyC, List.mem_cons, List.not_mem_nil, or_false] at hc
  rcases hc with h | h | h | h | h | h | h | h | h | h | h | h | h | h | h | h | h | h | h | h | h | h | h | h | h | h | h <;> (rw [h]; rfl)
theorem clean_body {b : Bd} : clean 3 (.agg (bodyC b)) = true := (rfl)
theorem len_body {b : Bd} : (bodyC b).length = 27 := (rfl)
/-- All its numbers are int64s. -/
def inB (b : Bd) : Prop := inR b.k ∧ inR b.r ∧ inR b.wd ∧ inR b.ht ∧ (∀ j, j < b.n → inR (b.X j) ∧ inR (b.Y j)) ∧ inR b.pl.1.1 ∧ inR b.pl.2.1 ∧ inR b.rot.1.1 ∧ inR b.rot.2.1 ∧ inR b.v.1.1 ∧ inR b.v.2.1 ∧ inR b.w.1 ∧ inR b.m.1 ∧ inR b.i.1 ∧ inR b.st ∧ inR b.ve

/-- A contract of a function whose first argument is a body. -/
def cB (F : Bd → List AV → Option (List Prop × AV)) : Con
  | .agg l :: rest => match F (bodyD l) rest with
    | some (ob, r) => some ((l = bodyC (bodyD l)) :: ob, r)
    | none => none
  | _ => none
theorem cB_eq {F : Bd → List AV → Option (List Prop × AV)} {l rest : List AV} : cB F (.agg l :: rest) = (match F (bodyD l) rest with
    | some (ob, r) => some ((l = bodyC (bodyD l)) :: ob, r)
    | none => none) := (rfl)
theorem ConOK.cB {P : Program} {G : Ctx} {H : Hots} (hG : CtxOK P G) {f : FuncId} {fn : Func} (hf : P.funcs[f]? = some fn) {F : Bd → List AV → Option (List Prop × AV)}
    (h : ∀ b rest ob r, F b rest = some (ob, r) → (∀ p ∈ ob, p) → funcOK P H fn (rest.length + 1) = true ∧ fnVC P G H fn (.agg (bodyC b) :: rest) (· = r)) : ConOK P f (Ax.cB F) := ConOK.of hG hf fun l ob r hc hob => by
  unfold Ax.cB at hc
  split at hc
  · rename_i l rest
    split at hc
    · rename_i ob' r' hF
      cases hc
      have e : l = bodyC (bodyD l) := hob _ (by simp)
      obtain ⟨h1, h2⟩ := h _ _ _ _ hF fun p hp => hob p (by simp [hp])
      rw [← e] at h2
      exact ⟨h1, h2⟩
    · cases hc
  · cases hc
/-- A contract of a function whose first argument points at a body that it reads. -/
def cBR (F : Bd → List AV → Option (List Prop × AV)) : Con
  | .rop l :: rest => match F (bodyD l) rest with
    | some (ob, r) => some ((l = bodyC (bodyD l)) :: ob, r)
    | none => none
  | _ => none
theorem cBR_eq {F : Bd → List AV → Option (List Prop × AV)} {l rest : List AV} : cBR F (.rop l :: rest) = (match F (bodyD l) rest with
    | some (ob, r) => some ((l = bodyC (bodyD l)) :: ob, r)
    | none => none) := (rfl)
theorem ConOK.cBR {P : Program} {G : Ctx} {H : Hots} (hG : CtxOK P G) {f : FuncId} {fn : Func} (hf : P.funcs[f]? = some fn) {F : Bd → List AV → Option (List Prop × AV)}
    (h : ∀ b rest ob r, F b rest = some (ob, r) → (∀ p ∈ ob, p) → funcOK P H fn (rest.length + 1) = true ∧ fnVC P G H fn (.rop (bodyC b) :: rest) (· = r)) : ConOK P f (Ax.cBR F) := ConOK.of hG hf fun l ob r hc hob => by
  unfold Ax.cBR at hc
  split at hc
  · rename_i l rest
    split at hc
    · rename_i ob' r' hF
      cases hc
      have e : l = bodyC (bodyD l) := hob _ (by simp)
      obtain ⟨h1, h2⟩ := h _ _ _ _ hF fun p hp => hob p (by simp [hp])
      rw [← e] at h2
      exact ⟨h1, h2⟩
    · cases hc
  · cases hc
/-- As 'bodyC', but sealed. -/
def bodyR (b : Bd) : List AV := bodyC b
/-- A contract of a function whose first argument points at a body that it changes. -/
def mB (F : Bd → List AV → Option (List Prop × Bd)) : MCon := mc1 27 fun l rest => match F (bodyD l) rest with
  | some (ob, b) => some ((l = bodyC (bodyD l)) :: ob, .tup [], bodyC b)
  | none => none
theorem MConOK.mB {P : Program} {G : Ctx} {H : Hots} (hG : CtxOK P G) {f : FuncId} {fn : Func} (hf : P.funcs[f]? = some fn) {F : Bd → List AV → Option (List Prop × Bd)}
    (h : ∀ b rest ob b', F b rest = some (ob, b') → (∀ p ∈ ob, p) → (∀ a ∈ rest, clean 3 a = true) ∧ funcOK P H fn (rest.length + 1) = true ∧
      ∀ (fam : Fam) (f i : Nat), i < (fam f).n → 27 = (fam f).sz → (∀ f, (fam f).g = none) → famOK 0 fam → bodyM P G H fn (.ptr 0 f i 27 0 :: rest) [(0, famE fam f i (bodyC b))] 1 fun a m1 => a = .tup [] ∧ look m1 0 = some (famE fam f i (bodyR b'))) : MConOK P f (Ax.mB F) := by
  refine MConOK.mc1 (H := H) hG hf fun cells rest ob val cs hF hob => ?_
  split at hF
  · rename_i ob' b' hF'
    cases hF
    have e : cells = bodyC (bodyD cells) := hob _ (by simp)
    obtain ⟨h1, h2, h3⟩ := h _ _ _ _ hF' fun p hp => hob p (by simp [hp])
    refine ⟨h1, rfl, cleanC_body, h2, fun fam f i k1 k2 k3 k4 => ?_⟩
    have := h3 fam f i k1 k2 k3 k4
    rw [← e] at this
    exact this
  · cases hF
def mbQ (r : Nat) (fam fam' : Bd → Fam) (pre : List Prop) : Option (List Prop × Bd) → Option Eff
  | some (ob, b) => some ⟨pre ++ ob, .tup [], .many [(r, fam' b)] none⟩
  | none => none
theorem mbQ_some {r : Nat} {fam fam' : Bd → Fam} {pre ob : List Prop} {b : Bd} : mbQ r fam fam' pre (some (ob, b)) = some ⟨pre ++ ob, .tup [], .many [(r, fam' b)] none⟩ := (rfl)
def mbP (F : Bd → List AV → Option (List Prop × Bd)) (r f i sz : Nat) (rest : List AV) : Option Fam → Option Eff
  | some fam => mbQ r (fun _ => fam) (fun b => famE fam f i (bodyC b)) [i < (fam f).n, sz = 27, 27 = (fam f).sz, cleanCs ((fam f).get i) = true, famOK r fam, (fam f).get i = bodyC (bodyD ((fam f).get i))] (F (bodyD ((fam f).get i)) rest)
  | none => none
def mbB (F : Bd → List AV → Option (List Prop × Bd)) (r : Nat) (rest : List AV) : Option Fam → Option Eff
  | some fam => mbQ r (fun _ => fam) (fun b => wb1 fam (bodyC b)) [(fam 0).n = 1, 27 = (fam 0).sz, cleanCs ((fam 0).get 0) = true, famOK r fam, (fam 0).get 0 = bodyC (bodyD ((fam 0).get 0))] (F (bodyD ((fam 0).get 0)) rest)
  | none => none
theorem mbP_some {F : Bd → List AV → Option (List Prop × Bd)} {r f i sz : Nat} {rest : List AV} {fam : Fam} : mbP F r f i sz rest (some fam) = mbQ r (fun _ => fam) (fun b => famE fam f i (bodyC b)) [i < (fam f).n, sz = 27, 27 = (fam f).sz, cleanCs ((fam f).get i) = true, famOK r fam, (fam f).get i = bodyC (bodyD ((fam f).get i))] (F (bodyD ((fam f).get i)) rest) := (rfl)
theorem mbB_some {F : Bd → List AV → Option (List Prop × Bd)} {r : Nat} {rest : List AV} {fam : Fam} : mbB F r rest (some fam) = mbQ r (fun _ => fam) (fun b => wb1 fam (bodyC b)) [(fam 0).n = 1, 27 = (fam 0).sz, cleanCs ((fam 0).get 0) = true, famOK r fam, (fam 0).get 0 = bodyC (bodyD ((fam 0).get 0))] (F (bodyD ((fam 0).get 0)) rest) := (rfl)
theorem mB_ptr {F : Bd → List AV → Option (List Prop × Bd)} {key : Nat} {m : Mem} {r f i sz : Nat} {rest : List AV} : mB F key m (.ptr r f i sz 0 :: rest) = mbP F r f i sz rest (look m r) := by
  show (match look m r with
    | some fam => (match (match F (bodyD ((fam f).get i)) rest with
        | some (ob, b) => some (((fam f).get i = bodyC (bodyD ((fam f).get i))) :: ob, AV.tup [], bodyC b)
        | none => none) with
      | some (ob, val, cs) => some (⟨(i < (fam f).n) :: (sz = 27) :: (27 = (fam f).sz) :: (cleanCs ((fam f).get i) = true) :: famOK r fam :: ob, val, .many [(r, famE fam f i cs)] none⟩ : Eff)
      | none => none)
    | none => none) = _
  generalize look m r = x
  cases x with
  | none => rfl
  | some fam =>
    unfold mbP
    dsimp only
    generalize F (bodyD ((fam f).get i)) rest = y
    cases y <;> rfl
theorem mB_bx {F : Bd → List AV → Option (List Prop × Bd)} {key : Nat} {m : Mem} {r : Nat} {rest : List AV} : mB F key m (.bx r 0 :: rest) = mbB F r rest (look m r) := by
  show (match look m r with
    | some fam => (match (match F (bodyD ((fam 0).get 0)) rest with
        | some (ob, b) => some (((fam 0).get 0 = bodyC (bodyD ((fam 0).get 0))) :: ob, AV.tup [], bodyC b)
        | none => none) with
      | some (ob, val, cs) => some (⟨((fam 0).n = 1) :: (27 = (fam 0).sz) :: (cleanCs ((fam 0).get 0) = true) :: famOK r fam :: ob, val, .many [(r, wb1 fam cs)] none⟩ : Eff)
      | none => none)
    | none => none) = _
  generalize look m r = x
  cases x with
  | none => rfl
  | some fam =>
    unfold mbB
    dsimp only
    generalize F (bodyD ((fam 0).get 0)) rest = y
    cases y <;> rfl
section
variable {P : Program} {G : Ctx} {H : Hots} {K0 : AEx → St → Prop} {hot : Option Hot} {ops : Array Oper} {d : Option Tmp} {rest : List Oper} {i : Nat} {st : List Fr} {t : Slots} {m : Mem} {nx r : Nat} {fam fam' : Bd → Fam} {o pre ob : List Prop} {b : Bd}
/-- A body that is changed gets a name. -/
theorem stepC_mbQ : stepC P G H K0 hot ops d rest i st t m nx (withOb o (bndE (aMut none (mbQ r fam fam' pre (some (ob, b)))))) = (∀ b', b' = b → stepC P G H K0 hot ops d rest i st t m nx (withOb o (some ⟨pre ++ ob, .tup [], .many [(r, fam' b')] none⟩))) := by
  rw [bndE_eq]
  apply propext
  constructor
  · rintro h b' rfl; exact h
  · intro h; exact h b rfl
end
theorem iLim {x : Nb} {n : Int} (h : inR x.1) : inR (limS x n).1 = True := by
  refine inR_of ?_
  have h1 := whV_rg h
  have h2 := whV_rg (rg_inR (ftV_rg (-n * 4294967296)))
  have h3 := whV_rg (rg_inR (ftV_rg (n * 4294967296)))
  unfold limS nCl nInt rg at *
  dsimp only
  omega
theorem inB_push {b : Bd} (h : inB b) {v : V2} {w : Nb} (h1 : inR v.1.1) (h2 : inR v.2.1) (h3 : inR w.1) : inB { b with v := v, w := w } := by
  obtain ⟨b1, b2, b3, b4, b5, b6, b7, b8, b9, b10, b11, b12, b13, b14, b15, b16⟩ := h
  exact ⟨b1, b2, b3, b4, b5, b6, b7, b8, b9, h1, h2, h3, b13, b14, b15, b16⟩
/-- A body ars a result: it gets a name. -/
def boA (b : Bd) : AV := .agg (bodyC b)
theorem plain_boA {b : Bd} : plain 3 (boA b) = false := (rfl)
section
variable {P : Program} {G : Ctx} {H : Hots} {K0 : AEx → St → Prop} {hot : Option Hot} {ops : Array Oper} {d : Option Tmp} {rest : List Oper} {i : Nat} {st : List Fr} {t : Slots} {m : Mem} {nx : Nat} {o : List Prop} {u : Upd} {b : Bd}
theorem bindC_bbx {r k : Nat} : bindC P G H K0 hot ops d rest i st t m nx o u (bnd (.bx r k)) = bindC P G H K0 hot ops d rest i st t m nx o u (.bx r k) := (rfl)
theorem bindC_bptr {r f j sz k : Nat} : bindC P G H K0 hot ops d rest i st t m nx o u (bnd (.ptr r f j sz k)) = bindC P G H K0 hot ops d rest i st t m nx o u (.ptr r f j sz k) := (rfl)
theorem bindC_bown {r f n sz : Nat} : bindC P G H K0 hot ops d rest i st t m nx o u (bnd (.own r f n sz)) = bindC P G H K0 hot ops d rest i st t m nx o u (.own r f n sz) := (rfl)
theorem bindC_bnilP {x : Option Addr} : bindC P G H K0 hot ops d rest i st t m nx o u (bnd (.v (.pointer x))) = bindC P G H K0 hot ops d rest i st t m nx o u (.v (.pointer x)) := (rfl)
theorem bindC_bnilF {q : Unit} : bindC P G H K0 hot ops d rest i st t m nx o u (bnd (.v .nilFunc)) = bindC P G H K0 hot ops d rest i st t m nx o u (.v .nilFunc) := (rfl)
theorem bindL_bx {tag : Bool} {l cs : List AV} {r k : Nat} : bindL P G H K0 hot ops d rest i st t m nx o u tag l (.bx r k :: cs) = bindL P G H K0 hot ops d rest i st t m nx o u tag (l ++ [.bx r k]) cs := bindL_skip
theorem bindL_ptr {tag : Bool} {l cs : List AV} {r f j sz k : Nat} : bindL P G H K0 hot ops d rest i st t m nx o u tag l (.ptr r f j sz k :: cs) = bindL P G H K0 hot ops d rest i st t m nx o u tag (l ++ [.ptr r f j sz k]) cs := bindL_skip
theorem bindL_own {tag : Bool} {l cs : List AV} {r f n sz : Nat} : bindL P G H K0 hot ops d rest i st t m nx o u tag l (.own r f n sz :: cs) = bindL P G H K0 hot ops d rest i st t m nx o u tag (l ++ [.own r f n sz]) cs := bindL_skip
theorem bindL_nilP {tag : Bool} {l cs : List AV} {x : Option Addr} : bindL P G H K0 hot ops d rest i st t m nx o u tag l (.v (.pointer x) :: cs) = bindL P G H K0 hot ops d rest i st t m nx o u tag (l ++ [.v (.pointer x)]) cs := bindL_skip
theorem bindC_boA : bindC P G H K0 hot ops d rest i st t m nx o u (bnd (boA b)) = (∀ b', b' = b → bindC P G H K0 hot ops d rest i st t m nx o u (.agg (bodyC b'))) := by
  apply propext
  constructor
  · rintro h b' rfl; exact h
  · intro h; exact h b rfl
end
attribute [go_sem] plain_boA bindC_boA bindC_bbx bindC_bptr bindC_bown bindC_bnilP bindL_bx bindL_ptr bindL_own bindL_nilP
end Go.Ax
end

section
/-
  Bodies: small functions; what writes a body.
-/
set_option linter.unusedVariables false
set_option linter.unusedSimpArgs false
set_option maxHeartbeats 4000000
set_option maxRecDepth 100000
namespace Go.Ax
open Go.Proofs
def mvS (b : Bd) : Bool := !(b.m.1 == 0 && b.i.1 == 0)
def idS (b : Bd) : Bool := !mvS b || b.sl || b.fa
theorem whV_bne {x : Int} (h : inR x) : (whV x != 0) = !(x == 0) := by
  have e : whV x = 0 ↔ x = 0 := by unfold whV; unfold inR at h; split <;> omega
  by_cases hx : x = 0
  · subst hx; rfl
  · have : ¬ whV x = 0 := fun k => hx (e.1 k)
    have e1 : (whV x == 0) = false := by simpa using this
    have e2 : (x == 0) = false := by simpa using hx
    rw [bne, e1, e2]
def kw26 : Con := cB fun b rest => match rest with
  | [] => some ([inR b.m.1, inR b.i.1], bo (mvS b))
  | _ => none
theorem konw26 : ConOK Tryz.prog 26 kw26 := ConOK.cB (G := []) (H := []) .nil Tryz.func26 fun b rest ob r hc hob => by
  split at hc
  · cases hc
    refine ⟨by kernel_rfl, fnVC_go (rs := [.tmp 2]) rfl rfl ?_⟩
    simp only [bodyC, go_sem]
    unfold mvS
    cases h1 : b.m.1 == 0 <;> cases h2 : b.i.1 == 0 <;> simp_all [bne]
  · cases hc
theorem konw66 : ConOK Tryz.prog 66 kw26 := ConOK.cB (G := [(137, kw137)]) (H := []) (.cons konw137 .nil) Tryz.func66 fun b rest ob r hc hob => by
  split at hc
  · cases hc
    refine ⟨by kernel_rfl, fnVC_go (rs := [.tmp 2]) rfl rfl ?_⟩
    have h0 : inR b.m.1 := hob _ (by simp)
    have h1 : inR b.i.1 := hob _ (by simp)
    simp only [bodyC, go_sem, kw137, h0, h1]
    simp only [forall_eq, implies_true, true_and]
    unfold mvS
    rw [whV_bne h0, whV_bne h1]
    cases b.m.1 == 0 <;> cases b.i.1 == 0 <;> rfl
  · cases hc
def kw67 : Con := cB fun b rest => match rest with
  | [] => some ([inR b.m.1, inR b.i.1], bo (idS b))
  | _ => none
theorem konw67 : ConOK Tryz.prog 67 kw67 := ConOK.cB (G := [(26, kw26)]) (H := []) (.cons konw26 .nil) Tryz.func67 fun b rest ob r hc hob => by
  split at hc
  · cases hc
    refine ⟨by kernel_rfl, fnVC_go (rs := [.tmp 2]) rfl rfl ?_⟩
    have h0 : inR b.m.1 := hob _ (by simp)
    have h1 : inR b.i.1 := hob _ (by simp)
    simp only [bodyC, go_sem, kw26, cB_eq, bodyD_lit, gx_pts0, gx_pts1, etaN, etaV, bd_eta, h0, h1]
    simp only [forall_eq, true_and]
    rfl
  · cases hc
theorem konw68 : ConOK Tryz.prog 68 kw67 := ConOK.cB (G := [(66, kw26)]) (H := []) (.cons konw66 .nil) Tryz.func68 fun b rest ob r hc hob => by
  split at hc
  · cases hc
    refine ⟨by kernel_rfl, fnVC_go (rs := [.tmp 2]) rfl rfl ?_⟩
    have h0 : inR b.m.1 := hob _ (by simp)
    have h1 : inR b.i.1 := hob _ (by simp)
    simp only [bodyC, go_sem, kw26, cB_eq, bodyD_lit, gx_pts0, gx_pts1, etaN, etaV, bd_eta, h0, h1]
    simp only [forall_eq, true_and]
    rfl
  · cases hc
def kw175 : Con := cBR fun b rest => match rest with
  | [.agg [.v (.int .i64 x), .v (.bool e), .v (.int .i64 y), .v (.bool f)]] => some ([inR b.pl.1.1, inR b.pl.2.1, inR x, inR y], veA (vSub ((x, e), (y, f)) b.pl))
  | _ => none
theorem konw175 : ConOK Tryz.prog 175 kw175 := ConOK.cBR (G := [(157, k172)]) (H := [(1, ⟨[(8, .slot 4)], []⟩)]) (.cons kon172 .nil) Tryz.func175 fun b rest ob r hc hob => by
  split at hc
  · rename_i x e y f
    cases hc
    have h0 : inR b.pl.1.1 := hob _ (by simp)
    have h1 : inR b.pl.2.1 := hob _ (by simp)
    have h2 : inR x := hob _ (by simp)
    have h3 : inR y := hob _ (by simp)
    refine ⟨by kernel_rfl, fnVC_go (rs := [.cell 4 26]) rfl rfl ?_⟩
    simp only [bodyC, go_sem, k172, h0, h1, h2, h3]
    rfl
  · cases hc
def wakS (b : Bd) : Bd := if mvS b && !b.fa then { b with sl := false, st := 0 } else b
def kw134 : MCon := mB fun b rest => match rest with
  | [] => some ([inB b], wakS b)
  | _ => none
theorem konw134 : MConOK Tryz.prog 134 kw134 := MConOK.mB (G := [(26, kw26)]) (H := []) (.cons konw26 .nil) Tryz.func134 fun b rest ob r hc hob => by
  split at hc
  · cases hc
    refine ⟨by simp, by kernel_rfl, fun fam f i hi hsz hg hk => bodyM_go (rs := []) rfl rfl ?_⟩
    have hb : inB b := hob _ (by simp)
    obtain ⟨b1, b2, b3, b4, b5, b6, b7, b8, b9, b10, b11, b12, b13, b14, b15, b16⟩ := hb
    simp only [bodyC, go_sem, kw26, cB_eq, bodyD_lit, gx_pts0, gx_pts1, etaN, etaV, bd_eta, hi, hg, hk, ← hsz, b13, b14]
    simp only [forall_eq, true_and, implies_true]
    refine ⟨fun h => ?_, fun h => ?_⟩
    · have e : wakS b = { b with sl := false, st := 0 } := if_pos (by simp [h])
      rw [e, bodyR]; rfl
    · have e : wakS b = b := if_neg (by simp only [h]; simp)
      rw [e, bodyR]; rfl
  · cases hc
def rstS (b : Bd) : Bd := { b with v := ((0, false), (0, false)), w := (0, false), sl := true }
def kw124 : MCon := mB fun b rest => match rest with
  | [] => some ([], rstS b)
  | _ => none
theorem konw124 : MConOK Tryz.prog 124 kw124 := MConOK.mB (G := []) (H := []) .nil Tryz.func124 fun b rest ob r hc hob => by
  split at hc
  · cases hc
    refine ⟨by simp, by kernel_rfl, fun fam f i hi hsz hg hk => bodyM_go (rs := []) rfl rfl ?_⟩
    simp only [bodyC, go_sem, cB_eq, bodyD_lit, gx_pts0, gx_pts1, etaN, etaV, bd_eta, hi, hg, hk, ← hsz]
    rfl
  · cases hc
def shfS (b : Bd) (p : V2) : Bd := if !idS b && (withS p.1 4096 && withS p.2 4096) then { b with pl := p } else b
def kw123 : Con
  | [.v (.int .i64 n), .ro 1 2 g] => some ([nums 1 g, 0 ≤ n ∧ n ≤ 65536], bo (withS (gx g 0 0, gb g 1 0) n))
  | [.v (.int .i64 n), .ro 2 2 g] => some ([nums 2 g, 0 ≤ n ∧ n ≤ 65536], bo (withS (gx g 0 0, gb g 1 0) n && withS (gx g 0 1, gb g 1 1) n))
  | _ => none
theorem vc123 (m : Nat) (hm : m ≤ 1000) (n : Int) (hn : 0 ≤ n ∧ n ≤ 65536) (X : Nat → Int) (E : Nat → Bool) (hX : ∀ i, i < m → inR (X i)) : fnVC Tryz.prog [(179, kSum)] [] Tryz.f123 [.v (.int .i64 n), .ro m 2 fun i => [i64 (X i), bo (E i)]] (· = bo (decide (∀ i, i < m → withS (X i, E i) n = true))) := by
  refine fnVC_go (rs := [.tmp 4]) rfl rfl ?_
  simp only [go_sem, kSum]
  refine loopC_go (fun (i : Nat) => i ≤ m ∧ ∀ j, j < i → withS (X j, E j) n = true) (fun i => m - i) (fun i => [(9, i64 (i : Int))]) (fun _ => []) [] [10, 11, 12, 6, 13, 14, 15, 16, 17, 18, 19, 20, 21, 22, 23, 24, 25, 26, 27, 28, 4, 29, 9] 0 (by kernel_rfl) ?_ ⟨Nat.zero_le _, fun j hj => by omega⟩ ?_ ?_
  · intro x _; simp [goodNames, asg]
  · simp only [go_sem]
  intro i hi
  simp only [go_sem, kSum]
  have hw : IntKind.i64.wrap (n * 4294967296) = n * 4294967296 := wrap_in (by unfold inR; omega)
  refine ⟨fun h => ⟨by omega, h, hX i (by omega), fun z hz z1 hz1 z2 hz2 => ?_⟩, fun h => ?_⟩
  · have hi' : i < m := by omega
    have hx := hX i hi'
    have key : withS (X i, E i) n = true ↔ (nWh (X i, E i)).2 = false ∧ ¬ z2 < z1 := by
      rw [hw] at hz2
      have hwr := whV_rg hx
      unfold rg at hwr
      have e0 : (nWh (X i, E i)).1 = whV (X i) := rfl
      have e1 : (nWh (X i, E i)).2 = whF (X i) (E i) := rfl
      rw [e0] at hz hz1
      rw [wrap_in (by unfold inR; omega)] at hz
      unfold withS
      rw [e1]
      cases hf : whF (X i) (E i) with
      | true => simp
      | false =>
        have hne : ¬ X i = -9223372036854775808 := by
          intro e; unfold whF at hf; simp [e] at hf
        have ev : whV (X i) = X i := by unfold whV; rw [if_neg hne]
        rw [ev] at hz hz1
        simp only [Bool.not_false, Bool.true_and, decide_eq_true_eq, true_and]
        omega
    refine ⟨fun hb => ?_, fun hb z3 hz3 => ⟨i + 1, ⟨by omega, fun j hj => ?_⟩, by omega, by rw [hz3, wrap_in (by unfold inR; omega)]; rfl⟩⟩
    · refine (decide_eq_false fun hc => ?_).symm
      have := key.1 (hc i hi')
      rcases hb with hb | hb
      · rw [this.1] at hb; cases hb
      · exact this.2 hb
    · by_cases e : j = i
      · subst e; exact key.2 hb
      · exact hi.2 j (by omega)
  · exact (decide_eq_true fun j hj => hi.2 j (by omega)).symm
theorem dec_lt1 {p : Nat → Bool} : decide (∀ i : Nat, i < 1 → p i = true) = p 0 := by
  cases h : p 0
  · refine decide_eq_false fun hc => ?_
    rw [hc 0 (by omega)] at h; cases h
  · refine decide_eq_true fun i hi => ?_
    have : i = 0 := by omega
    subst this; exact h
theorem dec_lt2 {p : Nat → Bool} : decide (∀ i : Nat, i < 2 → p i = true) = (p 0 && p 1) := by
  cases h : p 0
  · refine decide_eq_false fun hc => ?_
    rw [hc 0 (by omega)] at h; cases h
  · cases h1 : p 1
    · refine decide_eq_false fun hc => ?_
      rw [hc 1 (by omega)] at h1; cases h1
    · refine decide_eq_true fun i hi => ?_
      match i with
      | 0 => exact h
      | 1 => exact h1
      | i + 2 => omega
theorem konw123 : ConOK Tryz.prog 123 kw123 := ConOK.go (G := [(179, kSum)]) (H := []) (.cons konS179 .nil) Tryz.func123 fun l ob rr hc hob => by
  unfold kw123 at hc
  split at hc
  · rename_i n g
    cases hc
    have hg : nums 1 g := hob _ (by simp)
    refine ⟨[.v (.int .i64 n), .ro 1 2 fun i => [i64 (gx g 0 i), bo (gb g 1 i)]], fun w I vs h => ?_, by kernel_rfl, ?_⟩
    · exact Rs_two (fun v hv => hv) (fun v hv => ro_alike (fun i hi => (hg i hi).1) hv) h
    · have := vc123 1 (by omega) n (hob _ (by simp)) (gx g 0) (gb g 1) fun i hi => (hg i hi).2
      rw [dec_lt1] at this
      exact this
  · rename_i n g
    cases hc
    have hg : nums 2 g := hob _ (by simp)
    refine ⟨[.v (.int .i64 n), .ro 2 2 fun i => [i64 (gx g 0 i), bo (gb g 1 i)]], fun w I vs h => ?_, by kernel_rfl, ?_⟩
    · exact Rs_two (fun v hv => hv) (fun v hv => ro_alike (fun i hi => (hg i hi).1) hv) h
    · have := vc123 2 (by omega) n (hob _ (by simp)) (gx g 0) (gb g 1) fun i hi => (hg i hi).2
      rw [dec_lt2] at this
      exact this
  · cases hc
def kw156 : MCon := mB fun b rest => match rest with
  | [.agg [.v (.int .i64 x), .v (.bool e), .v (.int .i64 y), .v (.bool f)]] => some ([inB b, inR x, inR y], shfS b ((x, e), (y, f)))
  | _ => none
theorem konw156 : MConOK Tryz.prog 156 kw156 := MConOK.mB (G := [(67, kw67), (123, kw123)]) (H := []) (.cons konw67 (.cons konw123 .nil)) Tryz.func156 fun b rest ob r hc hob => by
  split at hc
  · rename_i x e y f
    cases hc
    refine ⟨by simp [clean], by kernel_rfl, fun fam f' i hi hsz hg hk => bodyM_go (rs := []) rfl rfl ?_⟩
    have hb : inB b := hob _ (by simp)
    have h1 : inR x := hob _ (by simp)
    have h2 : inR y := hob _ (by simp)
    obtain ⟨b1, b2, b3, b4, b5, b6, b7, b8, b9, b10, b11, b12, b13, b14, b15, b16⟩ := hb
    simp only [bodyC, go_sem, kw67, kw123, cB_eq, bodyD_lit, gx_pts0, gx_pts1, etaN, etaV, bd_eta, hi, hg, hk, ← hsz, b13, b14, nums_rows, gx_rows1, gx_rows2, gb_rows1, gb_rows2, h1, h2]
    simp only [forall_eq, true_and, implies_true]
    refine ⟨fun h => ?_, fun h => ?_⟩
    · have e : shfS b ((x, e), (y, f)) = { b with pl := ((x, e), (y, f)) } := if_pos (by simp [h])
      rw [e, bodyR]; rfl
    · have e : shfS b ((x, e), (y, f)) = b := if_neg (by rw [h]; simp)
      rw [e, bodyR]; rfl
  · cases hc
def pshS (b : Bd) (p j : V2) : Bd := if !mvS b || b.fa then b else
  let c : Bd := { b with v := limV (vAdd b.v (vScale j b.m)), w := limS (nAdd b.w (nMul b.i (vCross (vSub p b.pl) j))) 64 }
  if b.sl then wakS c else c
def kw115 : MCon := mB fun b rest => match rest with
  | [.agg [.v (.int .i64 x), .v (.bool e), .v (.int .i64 y), .v (.bool f)], .agg [.v (.int .i64 z), .v (.bool g), .v (.int .i64 u), .v (.bool h)]] => some ([inB b, inR x, inR y, inR z, inR u], pshS b ((x, e), (y, f)) ((z, g), (u, h)))
  | _ => none
theorem konw115 : MConOK Tryz.prog 115 kw115 := MConOK.mB (G := [(26, kw26), (175, kw175), (174, k250), (125, k129), (122, k169), (121, k130), (120, kw120), (153, kw153), (176, kw176l), (134, .wr kw134)]) (H := [(2, ⟨[(13, .made 12)], []⟩), (3, ⟨[(20, .slot 0)], []⟩), (4, ⟨[(12, .slot 0)], []⟩)]) (.cons konw26 (.cons konw175 (.cons kon250 (.cons kon129 (.cons kon169 (.cons kon130 (.cons konw120 (.cons konw153 (.cons konw176l (.mcons konw134 .nil)))))))))) Tryz.func115 fun b rest ob r hc hob => by
  split at hc
  · rename_i x e y f z g u h
    cases hc
    refine ⟨by simp [clean], by kernel_rfl, fun fam f' i hi hsz hg hk => bodyM_go (rs := []) rfl rfl ?_⟩
    have hb : inB b := hob _ (by simp)
    have h1 : inR x := hob _ (by simp)
    have h2 : inR y := hob _ (by simp)
    have h3 : inR z := hob _ (by simp)
    have h4 : inR u := hob _ (by simp)
    obtain ⟨b1, b2, b3, b4, b5, b6, b7, b8, b9, b10, b11, b12, b13, b14, b15, b16⟩ := hb
    simp only [bodyC, go_sem, kw26, kw175, k250, k129, k169, k130, kw120, kw153, kw176l, kw134, cB_eq, cBR_eq, bodyD_lit, gx_pts0, gx_pts1, etaN, etaV, bd_eta, mB_ptr, mbP_some, stepC_mbQ, hi, hg, hk, ← hsz, b1, b2, b3, b4, b6, b7, b8, b9, b10, b11, b12, b13, b14, b15, b16, vecs_rows, gx4_1, gx4_2, gx4_3, gx4_4, gb4_1, gb4_2, gb4_3, gb4_4, nums_rows, gx_rows1, gx_rows2, gb_rows1, gb_rows2, iMul, iAdd, iDot, iVCross, iVSub1, iVSub2, iVAdd1, iVAdd2, iScale1, iScale2, h1, h2, h3, h4]
    intro z1 hz1
    subst hz1
    simp only [true_and, implies_true]
    have hc0 : ∀ v : V2, ∀ w : Nb, inR v.1.1 → inR v.2.1 → inR w.1 → inB { b with v := v, w := w } := fun v w q1 q2 q3 => inB_push (hob _ (by simp)) q1 q2 q3
    refine ⟨fun hh => ?_, fun hh => ⟨fun hs b' hb' => ⟨hc0 _ _ (of_eq_true (iLim (of_eq_true iVAdd1))) (of_eq_true (iLim (of_eq_true iVAdd2))) (of_eq_true (iLim (of_eq_true iAdd))), ?_⟩, fun hs => ?_⟩⟩
    · have e : pshS b ((x, e), (y, f)) ((z, g), (u, h)) = b := if_pos (by simpa using hh)
      rw [e, bodyR]; rfl
    · have e : pshS b ((x, e), (y, f)) ((z, g), (u, h)) = b' := by
        rw [hb']
        unfold pshS
        rw [if_neg (by simp [hh]), if_pos hs]
        rfl
      rw [e, bodyR]; rfl
    · have e : pshS b ((x, e), (y, f)) ((z, g), (u, h)) = { b with v := limV (vAdd b.v (vScale ((z, g), (u, h)) b.m)), w := limS (nAdd b.w (nMul b.i (vCross (vSub ((x, e), (y, f)) b.pl) ((z, g), (u, h))))) 64 } := by
        unfold pshS
        rw [if_neg (by simp [hh]), if_neg (by simp [hs])]
      rw [e, bodyR]; rfl
  · cases hc
end Go.Ax
end

section
/-
  Iterators whose yield stands in a region that draws its order, behind all that draws.
-/
set_option linter.unusedSimpArgs false
set_option linter.unusedVariables false
namespace Go.Ax
open Go.RowKit
section
variable {P : Program} {G : Ctx} {ops : Array Oper} {base : Nat} {hot : Hot} {w0 : Base} {w : World} {ρ : Env} {m : Mem} {D : Nat → Prop} {t : Slots} {nt : Nat} {ds : Frm} {a : Act} {ro : Option Nat} {n : Nat} {Q : Exit → Act → World → Prop}

/-- What is to be done of the first k operations. -/
structure TodoK (ops : Array Oper) (k : Nat) (listed : Array Bool) (T : List (Nat × Oper)) : Prop where
  size : listed.size = ops.size
  mem : ∀ q, q ∈ T ↔ ops[q.1]? = some q.2 ∧ listed.getD q.1 true = false ∧ q.1 < k
  late : ∀ i, k ≤ i → listed.getD i false = false
  sorted : T.Pairwise fun p q => p.1 < q.1
  closed : ∀ i, listed.getD i false = true → ∀ b, ((masks ops.toList []).getD i 0).testBit b = true → listed.getD b false = true

/-- The first k operations come ahead of all others. -/
def firstK (ops : Array Oper) (k : Nat) : Bool := (List.range ops.size).all fun i => decide (i < k) || (List.range k).all fun b => ((masks ops.toList []).getD i 0).testBit b
theorem firstK_bit {k : Nat} (h : firstK ops k = true) {i b : Nat} (hi : i < ops.size) (hk : k ≤ i) (hb : b < k) : ((masks ops.toList []).getD i 0).testBit b = true := by
  unfold firstK at h
  rw [List.all_eq_true] at h
  have h1 := h i (List.mem_range.2 hi)
  rw [Bool.or_eq_true, decide_eq_true_eq] at h1
  have h2 := h1.resolve_left (by omega)
  rw [List.all_eq_true] at h2
  exact h2 b (List.mem_range.2 hb)

theorem any_pre (hG : CtxOK P G) (hd : drawOK hot ops = true) {k : Nat} (hk : k ≤ ops.size) (hfk : firstK ops k = true) (hfit : ∀ o ∈ ops.toList, ∀ j, o.dst = some j → j < nt ∧ ds.W j) {f' : Nat} :
    ∀ (c : Nat) (T : List (Nat × Oper)) (listed : Array Bool) (s s' : St) (ρ : Env) (a : Act) (w : World),
      TodoK ops k listed T → T.length = c → runL P G hot ops base T s s' → SR w0 ρ s.t s.m (listedD base listed) nt ds a w → (0 < c ∨ ∀ i, i < k → listed.getD i false = true) →
      (∀ listed' ρ' a' w', listed'.size = ops.size → (∀ i, listed'.getD i false = decide (i < k)) → SR w0 ρ' s'.t s'.m (· < base + k) nt ds a' w' → wpAnyIn (Fw ro) n P .any ops Q f' listed' a' w') →
      wpAnyIn (Fw ro) n P .any ops Q (c + f') listed a w := by
  intro c
  induction c with
  | zero =>
    intro T listed s s' ρ a w hT hl hr hs hall hK
    have : T = [] := List.eq_nil_of_length_eq_zero hl
    subst this
    simp only [runL] at hr
    subst hr
    have hall := hall.resolve_left (by omega)
    rw [Nat.zero_add]
    refine hK listed ρ a w hT.size (fun i => ?_) (hs.weaken fun r hr => ?_)
    · by_cases h : i < k
      · rw [hall i h, decide_eq_true h]
      · rw [hT.late i (by omega), decide_eq_false h]
    · rcases hr with hr | ⟨i, rfl, hr⟩
      · omega
      · by_cases h : i < k
        · omega
        · rw [hT.late i (by omega)] at hr; cases hr
  | succ c ih =>
    intro T listed s s' ρ a w hT hl hr hs _ hK
    rw [show c + 1 + f' = (c + f') + 1 by omega]
    have hne : ∃ q, q ∈ T := by
      cases T with
      | nil => simp at hl
      | cons q T => exact ⟨q, by simp⟩
    refine ⟨fun h0 => ?_, fun i hi => ?_⟩
    · exfalso
      cases T with
      | nil => simp at hl
      | cons q T =>
        obtain ⟨i, o⟩ := q
        obtain ⟨h1, h2, h3⟩ := (hT.mem (i, o)).1 (by simp)
        dsimp only at h1 h2 h3
        have : i ∈ Region.ready .any ops listed := by
          refine mem_ready.2 ⟨h2, o, h1, fun e he hb => ?_⟩
          have hlt := drawOK_edge hd h1 e he hb
          have hi : i < ops.size := by
            rw [Array.getElem?_eq_some_iff] at h1
            exact h1.1
          have hlt2 : e.on < listed.size := by rw [hT.size]; omega
          cases hl2 : listed.getD e.on false with
          | true => rfl
          | false =>
            exfalso
            have hm : (e.on, ops[e.on]'(by omega)) ∈ (i, o) :: T := (hT.mem _).2 ⟨by simp, by rw [getD_true_of hlt2]; exact hl2, by show e.on < k; omega⟩
            rcases List.mem_cons.1 hm with hm | hm
            · have := congrArg Prod.fst hm; dsimp only at this; omega
            · have := (List.pairwise_cons.1 hT.sorted).1 _ hm
              dsimp only at this
              omega
        rw [h0] at this
        simp at this
    · obtain ⟨hu, o, ho, hall⟩ := mem_ready.1 hi
      have hsz : i < ops.size := by
        have h1 := ho
        rw [Array.getElem?_eq_some_iff] at h1
        exact h1.1
      have hli : i < listed.size := by rw [hT.size]; exact hsz
      have hik : i < k := by
        refine Nat.lt_of_not_le fun hki => ?_
        obtain ⟨q, hq⟩ := hne
        obtain ⟨q1, q2, q3⟩ := (hT.mem q).1 hq
        have hb := firstK_bit hfk hsz hki q3
        obtain ⟨e, he, hbi, h3⟩ := mask_bit ho hb
        have hel := hall e he hbi
        have hql : q.1 < listed.size := by rw [hT.size]; omega
        rw [getD_true_of hql] at q2
        rcases h3 with h3 | h3
        · rw [← h3, hel] at q2; cases q2
        · rw [hT.closed _ hel _ h3] at q2; cases q2
      have hm : (i, o) ∈ T := (hT.mem _).2 ⟨ho, hu, hik⟩
      obtain ⟨L1, L2, rfl⟩ := List.append_of_mem hm
      have hs1 := List.pairwise_append.1 hT.sorted
      have hcm : ∀ q ∈ L1, q.1 ≠ i ∧ comm hot ops q.1 i q.2 o = true := fun q hq => by
        have hlt := hs1.2.2 q hq (i, o) (by simp)
        dsimp only at hlt
        obtain ⟨q1, q2, q3⟩ := (hT.mem q).1 (List.mem_append_left _ hq)
        refine ⟨by omega, ?_⟩
        rcases drawOK_comm hd q1 ho hlt with hb | hc
        · exfalso
          have hql : q.1 < listed.size := by omega
          rw [getD_true_of hql] at q2
          obtain ⟨e, he, hbi, h3⟩ := mask_bit ho hb
          have hel := hall e he hbi
          rcases h3 with h3 | h3
          · rw [← h3, hel] at q2; cases q2
          · rw [hT.closed _ hel _ h3] at q2; cases q2
        · exact hc
      obtain ⟨s1, ⟨e, he, hro, hob, hrest⟩, heq⟩ := bubble hcm hr
      have key : wpOpIn (Fw ro) n P ops Q i (wpAnyIn (Fw ro) n P .any ops Q (c + f') (listed.setIfInBounds i true)) a w := by
        unfold wpOpIn
        rw [ho]
        refine stepE_sound hG hs (key := base + i) ?_ (fun r x hx => look_restr hx) he hob (hfit _ (by
          rw [Array.getElem?_eq_some_iff] at ho
          obtain ⟨h1, rfl⟩ := ho
          simp)) fun ρ' v w' _ hs' => ?_
        · rintro (h | ⟨j, hj, h⟩)
          · omega
          · have : j = i := by omega
            subst this
            rw [getD_true_of hli, h] at hu
            cases hu
        · refine ih (L1 ++ L2) _ (stApp base i o e s) s1 ρ' _ w' ⟨by simpa using hT.size, fun q => ?_, fun j hj => ?_, ?_, ?_⟩ (by simp at hl ⊢; omega) hrest (hs'.weaken fun r hr => ?_) ?_ fun l' ρ'' a' w'' z1 z2 hq => hK l' ρ'' a' w'' z1 z2 (heq.m ▸ hq.congr heq.t.symm)
          · rw [getD_set hli]
            have h0 := hT.mem q
            simp only [List.mem_append, List.mem_cons] at h0 ⊢
            constructor
            · intro hq
              have hne : q.1 ≠ i := by
                rcases hq with hq | hq
                · have := hs1.2.2 q hq (i, o) (by simp); dsimp only at this; omega
                · have := (List.pairwise_cons.1 hs1.2.1).1 q hq; dsimp only at this; omega
              rw [if_neg hne]
              exact h0.1 (hq.imp id .inr)
            · rintro ⟨q1, q2, q3⟩
              split at q2
              · cases q2
              · rename_i hne
                rcases h0.2 ⟨q1, q2, q3⟩ with h | h | h
                · exact .inl h
                · subst h; exact absurd rfl hne
                · exact .inr h
          · rw [getD_set hli, if_neg (by omega)]; exact hT.late j hj
          · refine List.pairwise_append.2 ⟨hs1.1, (List.pairwise_cons.1 hs1.2.1).2, fun x hx y hy => hs1.2.2 x hx y (by simp [hy])⟩
          · intro j hj b hb
            rw [getD_set hli] at hj ⊢
            split
            · rfl
            · split at hj
              · rename_i e; subst e
                obtain ⟨e, he, hbi, h3⟩ := mask_bit ho hb
                have hel := hall e he hbi
                rcases h3 with h3 | h3
                · rw [← h3]; exact hel
                · exact hT.closed _ hel _ h3
              · exact hT.closed _ hj _ hb
          · rcases hr with (hr | ⟨j, hj, hr⟩) | hr
            · exact .inl hr
            · exact .inr ⟨j, hj, by rw [getD_set hli]; split <;> first | rfl | exact hr⟩
            · exact .inr ⟨i, hr, by rw [getD_set hli]; simp⟩
          · rcases Nat.eq_zero_or_pos c with h | h
            · right
              subst h
              intro j hj
              have hjl : j < listed.size := by rw [hT.size]; omega
              rw [getD_set hli]
              by_cases hne : j = i
              · rw [if_pos hne]
              · rw [if_neg hne]
                by_cases hc : listed.getD j false = true
                · exact hc
                · exfalso
                  have hc : listed.getD j false = false := Bool.eq_false_iff.2 hc
                  have hjm : (j, ops[j]'(by omega)) ∈ L1 ++ (i, o) :: L2 := (hT.mem _).2 ⟨by simp, by rw [getD_true_of hjl]; exact hc, hj⟩
                  have e0 : L1.length + L2.length = 0 := by
                    rw [List.length_append, List.length_cons] at hl
                    omega
                  have e1 : L1 = [] := List.eq_nil_of_length_eq_zero (by omega)
                  have e2 : L2 = [] := List.eq_nil_of_length_eq_zero (by omega)
                  rw [e1, e2] at hjm
                  simp at hjm
                  exact hne hjm.1
            · exact .inl h
      exact key

/-- The first k operations of a region that draws its order. -/
theorem region_splitA (hG : CtxOK P G) (hm : P.follows .mixedOrders = true) {id : Nat} (k : Nat) (hk : k ≤ ops.size) (hk0 : 0 < k) (hd : drawOK hot ops = true) (hfk : firstK ops k = true) {K : St → Prop} {s : St} (hfit : fitsOps nt ops.toList = true) (hW : ∀ j ∈ writesOps ops.toList, ds.W j)
    (h : regP P G (some hot) ops s.nx (ops.toList.take k) 0 s K) (hs : SR w0 ρ s.t s.m (· < s.nx) nt ds a w)
    (hK : ∀ s' listed' ρ' a' w', K s' → listed'.size = ops.size → (∀ i, listed'.getD i false = decide (i < k)) → SR w0 ρ' s'.t s'.m (· < s.nx + k) nt ds a' w' → wpAnyIn (Fw ro) n P .any ops Q (ops.size - k) listed' a' w') : (Code.region id ops true).wpIn (Fw ro) n P Q a w := by
  obtain ⟨s', h1, h2⟩ := regP_runL _ _ _ h
  have hl : (ops.toList.take k).length = k := by simp; omega
  refine wpIn_region_any hm ?_
  rw [hl] at h1
  have hz : ∀ q, q ∈ (List.range' 0 k).zip (ops.toList.take k) ↔ ops[q.1]? = some q.2 ∧ q.1 < k := fun q => by
    rw [List.mem_iff_getElem?]
    constructor
    · rintro ⟨i, hi⟩
      rw [List.getElem?_zip_eq_some] at hi
      obtain ⟨g1, g2⟩ := hi
      have hlt : i < k := by
        have := (List.getElem?_eq_some_iff.1 g2).1
        rw [hl] at this; exact this
      rw [List.getElem?_range' hlt] at g1
      simp at g1
      subst g1
      rw [List.getElem?_take_of_lt hlt] at g2
      exact ⟨by simpa using g2, hlt⟩
    · rintro ⟨h, hlt⟩
      refine ⟨q.1, ?_⟩
      rw [List.getElem?_zip_eq_some]
      refine ⟨?_, by rw [List.getElem?_take_of_lt hlt]; simpa using h⟩
      rw [List.getElem?_range' hlt]
      simp
  have hmain := any_pre (ro := ro) (n := n) (Q := Q) (f' := ops.size - k) hG hd hk hfk (fun o ho j hj => ⟨fitsOps_mem hfit ho j hj, hW j (writesOps_mem ho hj)⟩) k _ (Array.replicate ops.size false) s s' ρ a { w with drawn := w.drawn + 1 }
    ⟨by simp, fun q => ?_, fun i hi => ?_, ?_, fun i hi => ?_⟩ (by rw [List.length_zip, hl]; simp) h1 (hs.draw.weaken fun r hr => .inl hr) (.inl hk0) (fun l' ρ' a' w' z1 z2 z3 => hK s' l' ρ' a' w' h2 z1 z2 z3)
  · rw [show k + (ops.size - k) = ops.size by omega] at hmain
    exact hmain
  · rw [hz]
    constructor
    · rintro ⟨h, h3⟩
      refine ⟨h, ?_, h3⟩
      have hlt := (Array.getElem?_eq_some_iff.1 h).1
      simp [Array.getD_eq_getD_getElem?, Array.getElem?_replicate, hlt]
    · exact fun h => ⟨h.1, h.2.2⟩
  · simp [Array.getD_eq_getD_getElem?, Array.getElem?_replicate]
    split <;> rfl
  · refine List.Pairwise.of_map (S := (· < ·)) Prod.fst (fun _ _ h => h) ?_
    rw [List.map_fst_zip (by rw [hl]; simp)]
    exact List.pairwise_lt_range'
  · simp [Array.getD_eq_getD_getElem?, Array.getElem?_replicate] at hi
    split at hi <;> simp at hi
end
end Go.Ax
end

section
/-
  Corners of shapes: the iterator over them.
-/
set_option linter.unusedVariables false
set_option linter.unusedSimpArgs false
set_option maxHeartbeats 4000000
set_option maxRecDepth 100000
namespace Go.Ax
open Go.Proofs Go.RowKit
/-- The next corner but one. -/
def nxt2 (n i : Nat) : Nat := nxt n (nxt n i)
theorem nxt2_lt {n i : Nat} (h : i < n) : nxt2 n i < n := nxt_lt (nxt_lt h)
theorem tmod_nxt2 {n i : Nat} (h : i < n) : Int.tmod ((i : Int) + 2) n = (nxt2 n i : Nat) := by
  have e : ((i : Int) + 2) = ((i + 2 : Nat) : Int) := rfl
  rw [e, Int.tmod_eq_emod_of_nonneg (by omega), ← Int.natCast_emod]
  congr 1
  unfold nxt2 nxt
  by_cases h2 : i + 2 < n
  · rw [Nat.mod_eq_of_lt h2, if_pos (show i + 1 < n by omega), if_pos h2]
  · by_cases h1 : i + 1 < n
    · have : i + 2 = n := by omega
      rw [if_pos h1, if_neg (by omega), this, Nat.mod_self]
    · have : i + 1 = n := by omega
      rw [if_neg h1, Nat.mod_eq_sub_mod (by omega), show i + 2 - n = 1 by omega]
      by_cases h0 : 0 + 1 < n
      · rw [if_pos h0, Nat.mod_eq_of_lt h0]
      · rw [if_neg h0, show n = 1 by omega]
/-- A corner and the two behind it. -/
def cornerE (n : Nat) (g : Nat → List AV) (i : Nat) : List AV := [.agg [i64 i, i64 (gx g 0 i), i64 (gx g 1 i), i64 (gx g 0 (nxt n i)), i64 (gx g 1 (nxt n i)), i64 (gx g 0 (nxt2 n i)), i64 (gx g 1 (nxt2 n i))]]
def c300 : Con
  | [.rop [.ro n 2 g]] => some ([spots n g, n ≤ 9223372036854775800], .ro n 1 (cornerE n g))
  | _ => none
/-- At the head of the loop. -/
structure At300 (I : Nat → Prop) (w : World) (J : Nat → World → Prop) (l n : Nat) (v1 : Value) (i : Nat) (a : Act) (W : World) : Prop where
  sz : a.tmps.size = 35
  de : a.defers = []
  t0 : a.tmps.getD 0 undef = .func (.yield l) #[] #[]
  t1 : a.tmps.getD 1 undef = v1
  t3 : a.tmps.getD 3 undef = .int .i64 n
  t7 : a.tmps.getD 7 undef = .int .i64 n
  t8 : a.tmps.getD 8 undef = .int .i64 i
  le : i ≤ n
  j : J i W
  same : Same I w W
theorem listed_eq {L : Array Bool} {n k : Nat} (hs : L.size = n) (h : ∀ i, L.getD i false = decide (i < k)) : L = ((List.range n).map fun i => decide (i < k)).toArray := by
  apply Array.ext
  · simp [hs]
  · intro i h1 h2
    have := h i
    rw [Array.getD_eq_getD_getElem?, Array.getElem?_eq_getElem h1] at this
    simpa using this
theorem wpOps_free' {P : Program} {n : Nat} {Q : Exit → Act → World → Prop} {a : Act} {w : World} {ro : Option Nat} {ops : Array Oper} {i : Nat} {o : Oper} {K : Act → World → Prop} (ho : ops[i]? = some o) (hg : o.guard = none) (h : o.wpIn (Fw ro) n P a w K Q) : wpOpIn (Fw ro) n P ops Q i K a w := by
  unfold wpOpIn
  rw [ho]
  dsimp only
  rw [if_pos (by simp [Region.wanted, hg])]; exact h
theorem no_nil {l : List Nat} {k : Nat} (e : l = [k]) (h : l = []) : False := by rw [e] at h; cases h
theorem mem_one {l : List Nat} {i k : Nat} (h : l = [k]) (hi : i ∈ l) : i = k := by rw [h] at hi; simpa using hi
theorem seq300 : SeqOK Tryz.prog 300 c300 := by
  intro es ob N k sq hc hob
  unfold c300 at hc
  split at hc
  case h_2 => cases hc
  rename_i n g
  simp only [Option.some.injEq, Prod.mk.injEq, AV.ro.injEq] at hc
  obtain ⟨rfl, rfl, rfl, rfl⟩ := hc
  have hsp : spots n g := hob _ (by simp)
  have hn : n ≤ 9223372036854775800 := hob _ (by simp)
  intro I w vs nn l J Jx hI hRs hJ hJx h0 hy
  obtain ⟨v1, rest, rfl, hv1, hrest⟩ := hRs.inv
  have : rest = [] := by have := hrest.1; simpa using this
  subst this
  cases hv1 with
  | rop b o hib hex hr =>
  obtain ⟨x, hx⟩ := hex 0 (by simp)
  have hx : Has w b o x := hx
  have hib : I b := hib
  have hxr : R w (.ext I) (.ro n 2 (sg g)) x := ro_alike (fun i hi => (hsp i hi).1) (hr 0 _ x rfl hx)
  have hvr : R w (.ext I) (.rop [.ro n 2 (sg g)]) (.pointer (some ⟨b, o, none⟩)) := rop1 hib hx hxr
  refine ⟨callFunc_enter Tryz.func300 (by kernel_rfl) rfl, ?_⟩
  refine callsIn_of_wp_marks (F := Fence.wide) Tryz.func300 rfl trivial ?_
  have hm : Tryz.prog.follows .mixedOrders = true := by kernel_rfl
  rw [show Tryz.f300.ntmps = 35 from by kernel_rfl]
  generalize hes : (#[Value.func (.yield l) #[] #[]] ++ [Value.pointer (some ⟨b, o, none⟩)].toArray : Array Value) = es
  have hes2 : es.size = 2 := by rw [← hes]; rfl
  have hes0 : es[0]? = some (.func (.yield l) #[] #[]) := by rw [← hes]; rfl
  have hes1 : es[1]? = some (.pointer (some ⟨b, o, none⟩)) := by rw [← hes]; rfl
  generalize ha : (Act.mk (es ++ Array.replicate (35 - es.size) undef) []) = a
  have hsz : a.tmps.size = 35 := by rw [← ha]; exact start_size (by omega)
  have hde : a.defers = [] := by rw [← ha]
  have ht0 : a.tmps.getD 0 undef = .func (.yield l) #[] #[] := by rw [← ha]; exact start_get hes0
  have ht1 : a.tmps.getD 1 undef = .pointer (some ⟨b, o, none⟩) := by rw [← ha]; exact start_get hes1
  clear ha hes hes0 hes1 hes2
  have keepR : ∀ {av : AV} {v : Value} {W : World}, R w (.ext I) av v → Same I w W → R W (.ext I) av v := fun h hs => h.mono (.refl _) hs
  have ltI : ∀ {W : World}, Same I w W → ∀ b, I b → b < W.heap.size := fun {W} hs b hb => by
    have h1 := hs b hb
    have h2 := hI b hb
    rw [Array.getElem?_eq_getElem h2] at h1
    exact (Array.getElem?_eq_some_iff.1 h1).1
  -- region 0
  refine wpIn_seq (pieceI (G := []) (H := []) .nil hm (l := [(1, .rop [.ro n 2 (sg g)])]) (W := [5, 6, 3]) (K := fun e s => match e with | .normal => slot s.t 3 = i64 n | _ => False) (by kernel_rfl) (by kernel_rfl) (by kernel_rfl) ?_ hI hsz ?_ ?_)
  · refine awp_go (K1 := fun e t _ => match e with | .normal => slot t 3 = i64 n | _ => False) ?_
    simp only [go_sem, List.range, List.range.loop]
  · intro p hp; simp only [List.mem_singleton] at hp; subst hp; dsimp only; rw [ht1]; exact hvr
  intro e s1 ρ1 a1 w1 k1 k2
  cases e with
  | exit j => exact k1.elim
  | ret => exact k1.elim
  | normal =>
  have bel1 : RowKit.Below w.heap.size w w1 := k2.rel.below
  have hs1 : Same I w w1 := Same.of_below bel1 hI
  have hj1 : J 0 w1 := hJ 0 w w1 h0 bel1
  have u0 : a1.tmps.getD 0 undef = .func (.yield l) #[] #[] := (k2.frame 0 (show ¬ (0 : Nat) ∈ [5, 6, 3] by decide)).trans ht0
  have u1 : a1.tmps.getD 1 undef = .pointer (some ⟨b, o, none⟩) := (k2.frame 1 (show ¬ (1 : Nat) ∈ [5, 6, 3] by decide)).trans ht1
  have u3 := k2.val k1
  have usz := k2.size
  have ude : a1.defers = [] := k2.defers.trans hde
  clear k1 k2 s1 ρ1 hsz hde ht0 ht1
  -- region 1
  refine wpIn_seq (pieceI (G := []) (H := []) .nil hm (l := [(3, i64 n)]) (W := [7, 8]) (K := fun e s => match e with | .normal => slot s.t 7 = i64 n ∧ slot s.t 8 = i64 0 | _ => False) (by kernel_rfl) (by kernel_rfl) (by kernel_rfl) ?_ (ltI hs1) usz ?_ ?_)
  · refine awp_go (K1 := fun e t _ => match e with | .normal => slot t 7 = i64 n ∧ slot t 8 = i64 0 | _ => False) ?_
    simp only [go_sem, List.range, List.range.loop]
  · intro p hp; simp only [List.mem_singleton] at hp; subst hp; dsimp only; rw [u3]; exact .v
  intro e s3 ρ3 a3 w3 k1 k2
  cases e with
  | exit j => exact k1.elim
  | ret => exact k1.elim
  | normal =>
  have bel3 : RowKit.Below w1.heap.size w1 w3 := k2.rel.below
  have hs3 : Same I w w3 := hs1.trans (Same.of_below bel3 (ltI hs1))
  have hAt0 : At300 I w J l n (.pointer (some ⟨b, o, none⟩)) 0 a3 w3 :=
    ⟨k2.size, k2.defers.trans ude, (k2.frame 0 (show ¬ (0 : Nat) ∈ [7, 8] by decide)).trans u0, (k2.frame 1 (show ¬ (1 : Nat) ∈ [7, 8] by decide)).trans u1, (k2.frame 3 (show ¬ (3 : Nat) ∈ [7, 8] by decide)).trans u3,
      k2.val k1.1, k2.val k1.2, Nat.zero_le _, hJ 0 w1 w3 hj1 bel3, hs3⟩
  clear k1 k2 s3 ρ3 bel3 hs3 hj1 hs1 u0 u1 u3 usz ude
  refine wpIn_block (wpIn_loop_rounds (n + 1) ?_)
  obtain ⟨i, hAt, hlt⟩ : ∃ i, At300 I w J l n (.pointer (some ⟨b, o, none⟩)) i a3 w3 ∧ n - i < n + 1 := ⟨0, hAt0, by omega⟩
  clear hAt0
  generalize n + 1 = fuel at hlt ⊢
  induction fuel generalizing i a3 w3 with
  | zero => omega
  | succ fuel ih =>
  rw [roundsIn_succ]
  -- the guard
  refine wpIn_seq (pieceI (G := []) (H := []) .nil hm (l := [(7, i64 n), (8, i64 i)]) (W := [9]) (K := fun e s => match e with | .normal => slot s.t 9 = bo (decide ((i : Int) < n)) | _ => False) (by kernel_rfl) (by kernel_rfl) (by kernel_rfl) ?_ (ltI hAt.same) hAt.sz ?_ ?_)
  · refine awp_go (K1 := fun e t _ => match e with | .normal => slot t 9 = bo (decide ((i : Int) < n)) | _ => False) ?_
    simp only [go_sem, List.range, List.range.loop]
  · intro p hp
    simp only [List.mem_cons, List.mem_singleton, List.not_mem_nil, or_false] at hp
    rcases hp with rfl | rfl
    · dsimp only; rw [hAt.t7]; exact .v
    · dsimp only; rw [hAt.t8]; exact .v
  intro e s1 ρ1 a1 w1 k1 k2
  cases e with
  | exit j => exact k1.elim
  | ret => exact k1.elim
  | normal =>
  have bel1 : RowKit.Below w3.heap.size w3 w1 := k2.rel.below
  have hs1 : Same I w w1 := hAt.same.trans (Same.of_below bel1 (ltI hAt.same))
  have hj1 : J i w1 := hJ i w3 w1 hAt.j bel1
  have v9 := k2.val k1
  have d1 : a1.defers = [] := k2.defers.trans hAt.de
  have z1 := k2.size
  have f1 : ∀ j, ¬ j ∈ [9] → a1.tmps.getD j undef = a3.tmps.getD j undef := k2.frame
  clear k1 k2 s1 ρ1
  refine wpIn_seq (wpIn_cond_split (t := decide ((i : Int) < n)) v9 ?_ ?_)
  case refine_2 =>
    intro hf
    have hin : i = n := by have := hAt.le; simp at hf; omega
    subst hin
    refine wpIn_exit ?_
    show LeavesInM Fence.wide nn Tryz.prog Tryz.f300 a1.tmps _ a1.defers .returning w1
    exact leave_nil d1 rfl fun v => ⟨⟨v, rfl⟩, .inl hj1⟩
  intro ht
  have hin : i < n := by simp at ht; omega
  refine wpIn_skip ?_
  refine wpIn_seq (wpIn_block ?_)
  -- region 3
  refine wpIn_seq (pieceI (G := []) (H := []) .nil hm (l := [(8, i64 i)]) (W := [10, 4]) (K := fun e s => match e with | .normal => slot s.t 4 = i64 i | _ => False) (by kernel_rfl) (by kernel_rfl) (by kernel_rfl) ?_ (ltI hs1) z1 ?_ ?_)
  · refine awp_go (K1 := fun e t _ => match e with | .normal => slot t 4 = i64 i | _ => False) ?_
    simp only [go_sem, List.range, List.range.loop]
  · intro p hp; simp only [List.mem_singleton] at hp; subst hp; dsimp only; rw [f1 8 (by decide), hAt.t8]; exact .v
  intro e s4 ρ4 a4 w4 k1 k2
  cases e with
  | exit j => exact k1.elim
  | ret => exact k1.elim
  | normal =>
  have bel4 : RowKit.Below w1.heap.size w1 w4 := k2.rel.below
  have hs4 : Same I w w4 := hs1.trans (Same.of_below bel4 (ltI hs1))
  have hj4 : J i w4 := hJ i w1 w4 hj1 bel4
  have v4 := k2.val k1
  have d4 : a4.defers = [] := k2.defers.trans d1
  have z4 := k2.size
  have f4 : ∀ j, ¬ j ∈ [9] → ¬ j ∈ [10, 4] → a4.tmps.getD j undef = a3.tmps.getD j undef := fun j h1 h2 => (k2.frame j h2).trans (f1 j h1)
  clear k1 k2 s4 ρ4 f1 z1 d1 v9 hj1 hs1 bel1 bel4
  -- region 4: all but the yield
  obtain ⟨K1, hK1⟩ : ∃ K1 : Slots → Prop, K1 = fun t => slot t 11 = .v (.func (.yield l) #[] #[]) ∧ [slot t 31] = cornerE n g i := ⟨_, rfl⟩
  refine wpIn_seq (region_splitA (G := []) (nt := 35) (hot := ⟨[], []⟩) (s := ⟨[(0, .v (.func (.yield l) #[] #[])), (1, .rop [.ro n 2 (sg g)]), (3, i64 n), (4, i64 i)] ++ anyS (List.range 35), [], 0⟩) (ds := ⟨a4.defers, (· ∈ [11, 12, 13, 14, 15, 16, 17, 18, 19, 20, 21, 22, 23, 24, 25, 26, 27, 28, 29, 30, 31, 32, 33]), a4.tmps⟩) .nil hm 21 (by decide) (by decide) (by kernel_rfl) (by kernel_rfl) (K := fun s => K1 s.t) (by kernel_rfl) (fun j hj => hj) ?_ (SR.anew (ltI hs4) (slots_R z4 ?_) z4 rfl (fun _ _ => rfl)) ?_)
  · show regC Tryz.prog [] [] (fun _ s => K1 s.t) (some ⟨[], []⟩) _ _ 0 [] _ [] 0
    have hn0 : ((n : Int) = 0) = False := eq_false (by omega)
    simp only [go_sem, List.range, List.range.loop, sg_eq, hn0]
    subst hK1
    have e1 : IntKind.i64.wrap ((i : Int) + 1) = i + 1 := wrap_in (by unfold inR; omega)
    have e2 : IntKind.i64.wrap ((i : Int) + 2) = i + 2 := wrap_in (by unfold inR; omega)
    have l1 := nxt_lt hin
    have l2 := nxt2_lt hin
    refine ⟨by omega, by omega, fun z hz z1 hz1 => ?_⟩
    rw [hz, e1, tmod_nxt hin] at hz1
    subst hz1
    refine ⟨by omega, by omega, fun z2 hz2 z3 hz3 => ?_⟩
    rw [hz2, e2, tmod_nxt2 hin] at hz3
    subst hz3
    refine ⟨by omega, by omega, ?_⟩
    simp only [slot_cons, Nat.reduceEqDiff, if_true, if_false, reduceIte, true_and, cornerE, gx, Int.toNat_natCast]
  · intro p hp
    simp only [List.mem_cons, List.mem_singleton, List.not_mem_nil, or_false] at hp
    rcases hp with rfl | rfl | rfl | rfl
    · dsimp only; rw [f4 0 (by decide) (by decide), hAt.t0]; exact .v
    · dsimp only; rw [f4 1 (by decide) (by decide), hAt.t1]; exact keepR hvr hs4
    · dsimp only; rw [f4 3 (by decide) (by decide), hAt.t3]; exact .v
    · dsimp only; rw [v4]; exact .v
  intro s5 L ρ2 a2 w2 k1 hL1 hL2 k2
  subst hK1
  have bel2 : RowKit.Below w4.heap.size w4 w2 := k2.rel.below
  have hs2 : Same I w w2 := hs4.trans (Same.of_below bel2 (ltI hs4))
  have hj2 : J i w2 := hJ i w4 w2 hj4 bel2
  have v11 := k2.val k1.1
  have e31 : slot s5.t 31 = .agg [i64 i, i64 (gx g 0 i), i64 (gx g 1 i), i64 (gx g 0 (nxt n i)), i64 (gx g 1 (nxt n i)), i64 (gx g 0 (nxt2 n i)), i64 (gx g 1 (nxt2 n i))] := by have := k1.2; unfold cornerE at this; exact (List.cons.inj this).1
  have hargs : Rs w2 (.ext I) (cornerE n g i) [a2.tmps.getD 31 undef] := by
    have q31 := k2.slots 31
    rw [e31] at q31
    exact .cons (plain_sound 3 rfl q31) .nil
  have d2 : a2.defers = [] := k2.defers.trans d4
  have z2 := k2.size
  have f2 := k2.frame
  clear k1 e31
  have hL : L = ((List.range 23).map fun i => decide (i < 21)).toArray := listed_eq hL1 hL2
  subst hL
  have z32 : 32 < a2.tmps.size := by rw [z2]; decide
  refine ⟨fun h => (no_nil (k := 21) (by kernel_rfl) h).elim, fun j hj => ?_⟩
  have hj : j = 21 := mem_one (by kernel_rfl) hj
  subst hj
  refine wpOps_free' rfl rfl (yield_op (l := l) [a2.tmps.getD 31 undef] rfl v11 (by simp [Act.eval]) (hy i w2 _ hin hj2 hs2 hargs) ?_)
  intro e W hpost
  obtain ⟨r, he, hsm, hjt, hjf⟩ : ∃ r, e = .returned (.bool r) ∧ Same I w2 W ∧ (r = true → J (i + 1) W) ∧ (r = false → Jx W) := by
    obtain ⟨hsm, ⟨rfl, hj⟩ | ⟨rfl, hj⟩⟩ := hpost
    · exact ⟨true, rfl, hsm, fun _ => hj, fun h => (by cases h)⟩
    · exact ⟨false, rfl, hsm, fun h => (by cases h), fun _ => hj⟩
  subst he
  refine ⟨_, rfl, ?_⟩
  have hs5 : Same I w W := hs2.trans hsm
  refine ⟨fun h => (no_nil (k := 22) (by kernel_rfl) h).elim, fun j hj => ?_⟩
  have hj : j = 22 := mem_one (by kernel_rfl) hj
  subst hj
  have q0 : SR ⟨W, I, [], []⟩ (.ext I) ([(32, bo r)] ++ anyS (List.range 35)) [] (· < 0) 35 ⟨[], (· ∈ [33]), (a2.put (some 32) (.bool r)).tmps⟩ (a2.put (some 32) (.bool r)) W := SR.anew (ltI hs5) (slots_R ((put_size _ _).trans z2) (fun p hp => by
    simp only [List.mem_singleton] at hp; subst hp; dsimp only; rw [put_at z32]; exact .v)) ((put_size _ _).trans z2) d2 (fun _ _ => rfl)
  refine wpOps_free' rfl rfl ?_
  refine aStep_sound (G := []) (key := 0) (g := none) (m' := []) (e := ⟨[], bo (!r), .none⟩) (ρ0 := opd ([(32, bo r)] ++ anyS (List.range 35))) .nil q0.rel (by simp) (fun _ _ h => h) (by kernel_rfl) (fun q hq => by simp [owed, isPick, needs, Op.operands, opd, slot] at hq) q0.opd fun v w5 hpost => ?_
  obtain ⟨ρ5, p1, p2, p3, p4⟩ := hpost
  have bel5 : RowKit.Below W.heap.size W w5 := p2.below
  have hs6 : Same I w w5 := hs5.trans (Same.of_below bel5 (ltI hs5))
  cases p1
  have hput : ∀ j, 33 ≠ j → 32 ≠ j → (((a2.put (some 32) (.bool r)).put (some 33) (.bool (!r))).tmps.getD j undef) = a2.tmps.getD j undef := fun j h1 h2 => by
    rw [put_not (by rw [put_size, z2]; decide) h1, put_not z32 h2]
  have z33 : 33 < (a2.put (some 32) (.bool r)).tmps.size := by rw [put_size, z2]; decide
  have v33 : ((a2.put (some 32) (.bool r)).put (some 33) (.bool (!r))).tmps.getD 33 undef = .bool (!r) := put_at z33
  have z5 : ((a2.put (some 32) (.bool r)).put (some 33) (.bool (!r))).tmps.size = 35 := ((put_size _ _).trans (put_size _ _)).trans z2
  have d5 : ((a2.put (some 32) (.bool r)).put (some 33) (.bool (!r))).defers = [] := d2
  show wpAnyIn (Fw none) nn Tryz.prog .any _ _ 0 _ ((a2.put (some 32) (.bool r)).put (some 33) (.bool (!r))) w5
  generalize (a2.put (some 32) (.bool r)).put (some 33) (.bool (!r)) = a5 at *
  refine ⟨by kernel_rfl, ?_⟩
  refine wpIn_cond_split (t := !r) v33 (fun hb => ?_) (fun hb => ?_)
  · have hr : r = false := by simpa using hb
    have hjx : Jx w5 := hJx W w5 (hjf hr) bel5
    refine wpIn_ret ?_
    show LeavesInM Fence.wide nn Tryz.prog Tryz.f300 a5.tmps _ a5.defers .returning w5
    exact leave_nil d5 rfl fun v => ⟨⟨v, rfl⟩, .inr hjx⟩
  · have hr : r = true := by simpa using hb
    have hj5 : J (i + 1) w5 := hJ (i + 1) W w5 (hjt hr) bel5
    refine wpIn_skip ?_
    show Code.wpIn Fence.wide nn Tryz.prog (Code.region 5 _ false) _ a5 w5
    have g2 : ∀ j, ¬ j ∈ [9] → ¬ j ∈ [10, 4] → ¬ j ∈ [11, 12, 13, 14, 15, 16, 17, 18, 19, 20, 21, 22, 23, 24, 25, 26, 27, 28, 29, 30, 31, 32, 33] → a5.tmps.getD j undef = a3.tmps.getD j undef := fun j h1 h2 h3 => by
      rw [hput j (fun h => h3 (by subst h; decide)) (fun h => h3 (by subst h; decide)), f2 j h3, f4 j h1 h2]
    refine pieceI (G := []) (H := []) .nil hm (l := [(8, i64 i)]) (W := [34, 8]) (K := fun e s => match e with | .normal => slot s.t 8 = i64 (i + 1) | _ => False) (by kernel_rfl) (by kernel_rfl) (by kernel_rfl) ?_ (ltI hs6) z5 ?_ ?_
    · refine awp_go (K1 := fun e t _ => match e with | .normal => slot t 8 = i64 (i + 1) | _ => False) ?_
      simp only [go_sem, List.range, List.range.loop]
      intro z hz
      have e1 : IntKind.i64.wrap ((i : Int) + 1) = i + 1 := wrap_in (by unfold inR; omega)
      rw [hz, e1]
    · intro p hp; simp only [List.mem_singleton] at hp; subst hp; dsimp only; rw [g2 8 (by decide) (by decide) (by decide), hAt.t8]; exact .v
    intro e s6 ρ6 a6 w6 q1 q2
    cases e with
    | exit j => exact q1.elim
    | ret => exact q1.elim
    | normal =>
    have bel6 : RowKit.Below w5.heap.size w5 w6 := q2.rel.below
    have f6 : ∀ j, ¬ j ∈ [34, 8] → a6.tmps.getD j undef = a5.tmps.getD j undef := q2.frame
    refine ih a6 w6 (i + 1) ⟨q2.size, q2.defers.trans d5, ?_, ?_, ?_, ?_, ?_, by omega, hJ (i + 1) w5 w6 hj5 bel6, hs6.trans (Same.of_below bel6 (ltI hs6))⟩ (by omega)
    · rw [f6 0 (by decide), g2 0 (by decide) (by decide) (by decide), hAt.t0]
    · rw [f6 1 (by decide), g2 1 (by decide) (by decide) (by decide), hAt.t1]
    · rw [f6 3 (by decide), g2 3 (by decide) (by decide) (by decide), hAt.t3]
    · rw [f6 7 (by decide), g2 7 (by decide) (by decide) (by decide), hAt.t7]
    · have := q2.val q1; rw [this]; rfl
end Go.Ax
end
