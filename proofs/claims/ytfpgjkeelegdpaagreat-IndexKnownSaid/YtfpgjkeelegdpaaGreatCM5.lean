/-
  Contracts of functions that write rows, made to measure: one element that is pointed at; two of them; a table; a table and an element; new rows.
-/
import Derived.Test.YtfpgjkeelegdpaaGreatCM4
section
set_option linter.unusedSimpArgs false
set_option linter.unusedVariables false
namespace Go.Ax

/-- A cell that holds nothing of our own. -/
def cleanC : AV → Bool
  | .v _ => true
  | .any => true
  | .ro _ _ _ => true
  | .rop _ => true
  | .rm _ _ => true
  | _ => false
theorem cleanC_ren {θ : Nat → Nat → Nat × Nat} {g : Nat → Nat → Prop} {B : Nat → Prop} {a : AV} (h : cleanC a = true) (d : Nat) : renA θ d a = a ∧ kg g B d a := by
  cases a <;> simp [cleanC] at h <;> (cases d <;> exact ⟨rfl, trivial⟩)
theorem cleanL_ren {θ : Nat → Nat → Nat × Nat} {g : Nat → Nat → Prop} {B : Nat → Prop} : ∀ {l : List AV}, (∀ c ∈ l, cleanC c = true) → l.map (renA θ 3) = l ∧ ∀ c ∈ l, kg g B 3 c
  | [], _ => ⟨rfl, by simp⟩
  | a :: l, h => by
    obtain ⟨h1, h2⟩ := cleanC_ren (θ := θ) (g := g) (B := B) (h a (by simp)) 3
    obtain ⟨h3, h4⟩ := cleanL_ren (θ := θ) (g := g) (B := B) (l := l) (fun c hc => h c (by simp [hc]))
    refine ⟨by rw [List.map_cons, h1, h3], fun c hc => ?_⟩
    rcases List.mem_cons.1 hc with e | hc
    · rw [e]; exact h2
    · exact h4 c hc
theorem map_id_of {f : AV → AV} : ∀ {l : List AV}, (∀ a ∈ l, f a = a) → l.map f = l
  | [], _ => rfl
  | a :: l, h => by rw [List.map_cons, h a (by simp), map_id_of fun b hb => h b (by simp [hb])]
theorem clean_ren {θ : Nat → Nat → Nat × Nat} {g : Nat → Nat → Prop} {B : Nat → Prop} : ∀ (d : Nat) (a : AV), clean d a = true → renA θ d a = a ∧ kg g B d a
  | d, .v _, _ => by cases d <;> exact ⟨rfl, trivial⟩
  | d, .any, _ => by cases d <;> exact ⟨rfl, trivial⟩
  | d, .ro _ _ _, _ => by cases d <;> exact ⟨rfl, trivial⟩
  | d, .rop _, _ => by cases d <;> exact ⟨rfl, trivial⟩
  | d, .rm _ _, _ => by cases d <;> exact ⟨rfl, trivial⟩
  | d + 1, .agg cs, h => by
    simp only [clean, List.all_eq_true] at h
    refine ⟨?_, fun c hc => (clean_ren (θ := θ) d c (h c hc)).2⟩
    simp only [renA]
    rw [map_id_of fun a ha => (clean_ren (g := g) (B := B) d a (h a ha)).1]
  | d + 1, .tup cs, h => by
    simp only [clean, List.all_eq_true] at h
    refine ⟨?_, fun c hc => (clean_ren (θ := θ) d c (h c hc)).2⟩
    simp only [renA]
    rw [map_id_of fun a ha => (clean_ren (g := g) (B := B) d a (h a ha)).1]
  | d + 1, .fn f cs, h => by
    simp only [clean, List.all_eq_true] at h
    refine ⟨?_, fun c hc => (clean_ren (θ := θ) d c (h c hc)).2⟩
    simp only [renA]
    rw [map_id_of fun a ha => (clean_ren (g := g) (B := B) d a (h a ha)).1]
  | d + 1, .iface t x, h => by
    simp only [clean] at h
    obtain ⟨h1, h2⟩ := clean_ren (θ := θ) (g := g) (B := B) d x h
    exact ⟨by simp only [renA]; rw [h1], h2⟩
  | d + 1, .cond b x, h => by
    simp only [clean] at h
    obtain ⟨h1, h2⟩ := clean_ren (θ := θ) (g := g) (B := B) d x h
    exact ⟨by simp only [renA]; rw [h1], h2⟩
  | 0, .agg _, h => by simp [clean] at h
  | 0, .tup _, h => by simp [clean] at h
  | 0, .fn _ _, h => by simp [clean] at h
  | 0, .iface _ _, h => by simp [clean] at h
  | 0, .cond _ _, h => by simp [clean] at h
  | 0, .bx _ _, h => by simp [clean] at h
  | 0, .ptr _ _ _ _ _, h => by simp [clean] at h
  | 0, .own _ _ _ _, h => by simp [clean] at h
  | 0, .vw _ _ _ _ _, h => by simp [clean] at h
  | 0, .mp _ _, h => by simp [clean] at h
  | d + 1, .bx _ _, h => by simp [clean] at h
  | d + 1, .ptr _ _ _ _ _, h => by simp [clean] at h
  | d + 1, .own _ _ _ _, h => by simp [clean] at h
  | d + 1, .vw _ _ _ _ _, h => by simp [clean] at h
  | d + 1, .mp _ _, h => by simp [clean] at h
theorem cleans_ren {θ : Nat → Nat → Nat × Nat} {g : Nat → Nat → Prop} {B : Nat → Prop} {l : List AV} (h : ∀ a ∈ l, clean 3 a = true) : l.map (renA θ 3) = l ∧ ∀ a ∈ l, kg g B 3 a :=
  ⟨map_id_of fun a ha => (clean_ren (g := g) (B := B) 3 a (h a ha)).1, fun a ha => (clean_ren (θ := θ) 3 a (h a ha)).2⟩

/-! ### A body's end -/
section
variable {P : Program} {G : Ctx} {H : Hots} {t : Slots} {m : Mem} {nx : Nat} {Q : AV → Mem → Prop} {rs : List ResultVar} {l : List AV} {a : AV}
def tupOf : List AV → AV
  | [a] => a
  | l => .tup l
theorem tupOf_nil : tupOf [] = .tup [] := (rfl)
theorem tupOf_one : tupOf [a] = a := (rfl)
theorem tupOf_two {b : AV} : tupOf (a :: b :: l) = .tup (a :: b :: l) := (rfl)
def retML (P : Program) (t : Slots) (m : Mem) (Q : AV → Mem → Prop) : List ResultVar → List AV → Prop
  | [], l => Q (tupOf l) m
  | r :: rs, l => match resE P t m r with
    | some e => conj e.ob (retML P t m Q rs (l ++ [e.val]))
    | none => False
def retMS (P : Program) (t : Slots) (m : Mem) (Q : AV → Mem → Prop) (rs : List ResultVar) (l : List AV) (x : Option Eff) : Prop := match x with
  | some e => conj e.ob (retML P t m Q rs (l ++ [e.val]))
  | none => False
theorem retML_nil : retML P t m Q [] l = Q (tupOf l) m := (rfl)
theorem retML_cons {r : ResultVar} : retML P t m Q (r :: rs) l = retMS P t m Q rs l (resE P t m r) := (rfl)
theorem retMS_some {ob : List Prop} {u : Upd} : retMS P t m Q rs l (some ⟨ob, a, u⟩) = conj ob (retML P t m Q rs (l ++ [a])) := (rfl)
def endMR (P : Program) (rs : List ResultVar) (Q : AV → Mem → Prop) (e : AEx) (s : St) : Prop := match e with
  | .exit _ => False
  | _ => retML P s.t s.m Q rs []
theorem endMR_ret : endMR P rs Q .ret ⟨t, m, nx⟩ = retML P t m Q rs [] := (rfl)
theorem endMR_normal : endMR P rs Q .normal ⟨t, m, nx⟩ = retML P t m Q rs [] := (rfl)
theorem retML_sound {s : St} : ∀ {rs : List ResultVar} {l : List AV}, retML P s.t s.m Q rs l → ∃ ob es, resList P s rs = some (ob, es) ∧ (∀ p ∈ ob, p) ∧ Q (tupOf (l ++ es)) s.m
  | [], l, h => ⟨[], [], rfl, by simp, by simpa [retML] using h⟩
  | r :: rs, l, h => by
    simp only [retML] at h
    split at h
    · rename_i e he
      obtain ⟨ob, es, h1, h2, h3⟩ := retML_sound (rs := rs) (conj_iff.1 h).2
      refine ⟨e.ob ++ ob, e.val :: es, ?_, fun p hp => ?_, by simpa using h3⟩
      · simp only [resList, resOf_E he, h1]
      · rcases List.mem_append.1 hp with hp | hp
        · exact (conj_iff.1 h).1 p hp
        · exact h2 p hp
    · exact h.elim
theorem endMR_sound {s : St} {fn : Func} (hr : fn.results.toList = rs) {e : AEx} (h : endMR P rs Q e s) : endM P fn Q e s := by
  have key : retML P s.t s.m Q rs [] → match resAll P s fn.results.toList with
      | some (ob, a) => conj ob (Q a s.m)
      | none => False := fun h => by
    obtain ⟨ob, es, h1, h2, h3⟩ := retML_sound h
    rw [hr]
    simp only [resAll, h1]
    rw [List.nil_append] at h3
    cases es with
    | nil => exact conj_iff.2 ⟨h2, h3⟩
    | cons a es => cases es with
      | nil => exact conj_iff.2 ⟨h2, h3⟩
      | cons b es => exact conj_iff.2 ⟨h2, h3⟩
  cases e with
  | exit j => exact h.elim
  | normal => exact key h
  | ret => exact key h
/-- A body, run on some rows. -/
def bodyM (P : Program) (G : Ctx) (H : Hots) (fn : Func) (es : List AV) (m : Mem) (nx : Nat) (Q : AV → Mem → Prop) : Prop := ∃ cd, fn.body = some cd ∧ awp P G H cd ⟨argSlots 0 es, m, nx⟩ (endM P fn Q)
theorem bodyM_go {fn : Func} {c : Code} {es : List AV} (hb : fn.body = some c) (hr : fn.results.toList = rs) (h : goC P G H (endMR P rs Q) c [] ⟨argSlots 0 es, m, nx⟩) : bodyM P G H fn es m nx Q :=
  ⟨c, hb, awp_mono (fun e s h => endMR_sound hr h) h⟩
theorem bodyM.mono {fn : Func} {es : List AV} {Q' : AV → Mem → Prop} (h : bodyM P G H fn es m nx Q) (hq : ∀ a m, Q a m → Q' a m) : bodyM P G H fn es m nx Q' := by
  obtain ⟨cd, h1, h2⟩ := h
  refine ⟨cd, h1, awp_mono (fun e s h => ?_) h2⟩
  cases e with
  | exit j => exact h
  | normal =>
    simp only [endM] at h ⊢
    split at h
    · rename_i ob x hx; exact conj_mono (hq _ _) h
    · exact h
  | ret =>
    simp only [endM] at h ⊢
    split at h
    · rename_i ob x hx; exact conj_mono (hq _ _) h
    · exact h
end

/-! ### Rows that say the same -/
def alike (x y : Row) : Prop := y.n = x.n ∧ y.sz = x.sz ∧ y.ty = x.ty ∧ y.g = x.g ∧ ∀ i, i < x.n → y.get i = x.get i
theorem alike.refl (x : Row) : alike x x := ⟨rfl, rfl, rfl, rfl, fun _ _ => rfl⟩
def cleanCs : List AV → Bool
  | [] => true
  | a :: l => cleanC a && cleanCs l
theorem cleanCs_mem : ∀ {l : List AV}, cleanCs l = true → ∀ c ∈ l, cleanC c = true
  | [], _, c, h => by cases h
  | a :: l, h, c, hc => by
    simp only [cleanCs, Bool.and_eq_true] at h
    rcases List.mem_cons.1 hc with e | hc
    · rw [e]; exact h.1
    · exact cleanCs_mem h.2 c hc

/-- A cell that holds nothing of our own but pointers into the family itself. -/
def selfC (r : Nat) : AV → Bool
  | .ptr q _ _ _ _ => decide (q = r)
  | a => cleanC a
def bk : AV → AV
  | .ptr _ f i sz k => .ptr 0 f i sz k
  | a => a
def famBk (fam : Fam) : Fam := fun f => { fam f with get := fun j => ((fam f).get j).map bk }
/-- All rows of the family are there, and hold nothing else of our own. -/
def famOK (r : Nat) (fam : Fam) : Prop := ∀ f, (fam f).g = none ∧ ∀ j, j < (fam f).n → ∀ c ∈ (fam f).get j, selfC r c = true

theorem bk_clean {c : AV} (h : cleanC c = true) : bk c = c := by cases c <;> first | rfl | simp [cleanC] at h
theorem bks_clean : ∀ {l : List AV}, (∀ c ∈ l, cleanC c = true) → l.map bk = l
  | [], _ => rfl
  | a :: l, h => by rw [List.map_cons, bk_clean (h a (by simp)), bks_clean fun c hc => h c (by simp [hc])]
theorem selfC_ren {r : Nat} {θ : Nat → Nat → Nat × Nat} {g : Nat → Nat → Prop} {B : Nat → Prop} (hθ : ∀ f, θ 0 f = (r, f)) (hg : ∀ f, g 0 f) {c : AV} (h : selfC r c = true) : renA θ 3 (bk c) = c ∧ kg g B 3 (bk c) := by
  cases c with
  | ptr q f i sz k =>
    simp only [selfC, decide_eq_true_eq] at h
    subst h
    refine ⟨?_, hg f⟩
    show AV.ptr (θ 0 f).1 (θ 0 f).2 i sz k = _
    rw [hθ]
  | v x => exact ⟨rfl, trivial⟩
  | any => exact ⟨rfl, trivial⟩
  | ro n sz get => exact ⟨rfl, trivial⟩
  | rop cs => exact ⟨rfl, trivial⟩
  | rm n L => exact ⟨rfl, trivial⟩
  | _ => simp [selfC, cleanC] at h
theorem rowRen_self {r : Nat} {θ : Nat → Nat → Nat × Nat} {g : Nat → Nat → Prop} {B : Nat → Prop} (hθ : ∀ f, θ 0 f = (r, f)) (hg : ∀ f, g 0 f) {x : Row} (h : ∀ j, j < x.n → ∀ c ∈ x.get j, selfC r c = true) : rowRen θ g B { x with get := fun j => (x.get j).map bk } x := by
  refine ⟨rfl, rfl, rfl, rfl, fun j hj => ?_⟩
  have h1 := h j hj
  refine ⟨?_, fun c hc => ?_⟩
  · dsimp only
    rw [List.map_map]
    exact (map_id_of fun a ha => (selfC_ren (g := g) (B := B) hθ hg (h1 a ha)).1).symm
  · dsimp only at hc
    obtain ⟨c0, hc0, rfl⟩ := List.mem_map.1 hc
    exact (selfC_ren (θ := θ) hθ hg (h1 c0 hc0)).2
theorem famBk_E {fam : Fam} {f i : Nat} {cs : List AV} (h : ∀ c ∈ cs, cleanC c = true) : famBk (famE fam f i cs) = famE (famBk fam) f i cs := by
  funext f'
  unfold famBk famE
  by_cases e : f' = f
  · subst e
    simp only [if_true]
    congr 1
    funext j
    by_cases e : j = i
    · simp only [e, if_true]; exact bks_clean h
    · simp [e]
  · simp [e]
theorem famOK_E {r : Nat} {fam : Fam} {f i : Nat} {cs : List AV} (h : famOK r fam) (hc : ∀ c ∈ cs, cleanC c = true) : famOK r (famE fam f i cs) := fun f' => by
  refine ⟨by rw [famE_g]; exact (h f').1, fun j hj c hcm => ?_⟩
  rw [famE_n] at hj
  by_cases e : f' = f
  · subst e
    simp only [famE, if_true] at hcm
    split at hcm
    · have := hc c hcm
      cases c <;> first | exact this | simp [cleanC] at this
    · exact (h f').2 j hj c hcm
  · rw [famE_off e] at hcm
    exact (h f').2 j hj c hcm

theorem famOK_bk {r : Nat} {fam : Fam} (h : famOK r fam) : famOK 0 (famBk fam) := fun f => by
  refine ⟨(h f).1, fun j hj c hc => ?_⟩
  obtain ⟨c0, h0, rfl⟩ := List.mem_map.1 hc
  have := (h f).2 j hj c0 h0
  cases c0 <;> first | rfl | exact this | simp [selfC, cleanC] at this
theorem rowRen_clean' {θ : Nat → Nat → Nat × Nat} {g : Nat → Nat → Prop} {B : Nat → Prop} {x0 x : Row} (h : alike x0 x) (hc : ∀ j, j < x0.n → ∀ c ∈ x0.get j, cleanC c = true) : rowRen θ g B x0 x := by
  obtain ⟨h1, h2, h3, h4, h5⟩ := h
  refine ⟨h1, h2, h3, h4, fun j hj => ?_⟩
  obtain ⟨k1, k2⟩ := cleanL_ren (θ := θ) (g := g) (B := B) (hc j hj)
  exact ⟨by rw [k1]; exact h5 j hj, k2⟩
theorem look_one {k : Nat} {x : Fam} : look [(k, x)] k = some x := by simp [look]
theorem thE_0 {r : Nat} : ∀ f, thE [r] 0 f = (r, f) := fun f => rfl
theorem thL_0 {r key : Nat} {l : List Nat} {th : Nat → Nat → Nat} : ∀ f, thL (r :: l) key th 0 f = (r, f) := fun f => by simp [thL]
theorem lowG_0 : ∀ f, lowG 1 0 f := fun _ => Nat.zero_lt_one
theorem newG_0 {N : Nat} {σ : Nat → Option (Nat × Nat)} {th : Nat → Nat → Nat} (h : 0 < N) : ∀ f, newG N σ th 0 f := fun _ => .inl h

/-! ### One row's family -/
section
variable {P : Program} {G : Ctx} {H : Hots} {f : FuncId} {fn : Func}

/-- A callee that is run on one family; it makes no rows that are handed back. -/
theorem one_okG {r key : Nat} {fam fam' x0 y0 : Fam} {m : Mem} {es es0 : List AV} {val val0 : AV} {ob : List Prop} (hl : look m r = some fam) (h1 : ∀ f, (fam f).g = none ∧ rowRen (thE [r]) (lowG 1) (lowB 1) (x0 f) (fam f))
    (h2 : ∀ th σ f, rowRen (thL [r] key th) (newG 1 σ th) (newB 1 σ) (y0 f) (fam' f) ∧ (y0 f).g ≠ some false) (ha : es = es0.map (renA (thE [r]) 3)) (hak : ∀ a ∈ es0, kg (lowG 1) (lowB 1) 3 a)
    (hfn : funcOK P H fn es0.length = true) (hv : ∀ th : Nat → Nat → Nat, ∀ σ : Nat → Option (Nat × Nat), val = renA (thL [r] key th) 3 val0 ∧ kg (newG 1 σ th) (newB 1 σ) 3 val0)
    (hb : bodyM P G H fn es0 [(0, x0)] 1 fun a m1 => a = val0 ∧ look m1 0 = some y0) :
    ∃ ks m0 as0, Entry ks m m0 es as0 ∧ funcOK P H fn as0.length = true ∧ bodyM P G H fn as0 m0 ks.length fun a m1 => ∃ σ th ys nw, (⟨ob, val, .many [(r, fam')] none⟩ : Eff).u = .many (ks.zip ys) nw ∧ Leave key ks σ th m1 a ys nw val := by
  refine ⟨[r], [(0, x0)], es0, ⟨by simp, ha, hak, fun j hj => ?_, fun q x hq => ?_⟩, hfn, hb.mono fun a m1 ⟨q1, q2⟩ => ?_⟩
  · have : j = 0 := by simp at hj; omega
    subst this
    exact ⟨_, fam, look_one, hl, h1⟩
  · by_cases e : q = 0
    · subst e; simp
    · simp [look, Ne.symm e] at hq
  · obtain ⟨v1, v2⟩ := hv (fun _ _ => 0) (fun _ => none)
    refine ⟨fun _ => none, fun _ _ => 0, [fam'], none, rfl, ⟨fun f r g h => by simp at h, by rw [q1]; exact v1, by rw [q1]; exact v2, rfl, fun j hj => ?_, fun _ => rfl⟩⟩
    have : j = 0 := by simp at hj; omega
    subst this
    exact .inr ⟨_, _, q2, rfl, h2 _ _⟩
theorem one_ok {r key : Nat} {fam fam' : Fam} {m : Mem} {es es0 : List AV} {val val0 : AV} {ob : List Prop} (hl : look m r = some fam) (h1 : famOK r fam) (h2 : famOK r fam') (ha : es = es0.map (renA (thE [r]) 3)) (hak : ∀ a ∈ es0, kg (lowG 1) (lowB 1) 3 a)
    (hfn : funcOK P H fn es0.length = true) (hv : ∀ th : Nat → Nat → Nat, ∀ σ : Nat → Option (Nat × Nat), val = renA (thL [r] key th) 3 val0 ∧ kg (newG 1 σ th) (newB 1 σ) 3 val0)
    (hb : bodyM P G H fn es0 [(0, famBk fam)] 1 fun a m1 => a = val0 ∧ look m1 0 = some (famBk fam')) :
    ∃ ks m0 as0, Entry ks m m0 es as0 ∧ funcOK P H fn as0.length = true ∧ bodyM P G H fn as0 m0 ks.length fun a m1 => ∃ σ th ys nw, (⟨ob, val, .many [(r, fam')] none⟩ : Eff).u = .many (ks.zip ys) nw ∧ Leave key ks σ th m1 a ys nw val :=
  one_okG hl (fun f => ⟨(h1 f).1, rowRen_self thE_0 lowG_0 (h1 f).2⟩) (fun th σ f => ⟨rowRen_self thL_0 (newG_0 (by simp)) (h2 f).2, by show (fam' f).g ≠ _; rw [(h2 f).1]; simp⟩) ha hak hfn hv hb

/-! ### One element that is pointed at -/
def mcP (sz : Nat) (F : List AV → List AV → Option (List Prop × AV × List AV)) : MCon := fun key m es => match es with
  | .ptr r f i sz' 0 :: rest => match look m r with
    | some fam => match F ((fam f).get i) rest with
      | some (ob, val, cs) => some ⟨(i < (fam f).n) :: (sz' = sz) :: (sz = (fam f).sz) :: (cleanCs ((fam f).get i) = true) :: famOK r fam :: ob, val, .many [(r, famE fam f i cs)] none⟩
      | none => none
    | none => none
  | _ => none
/-- Another content of a row of one element. -/
def wb1 (fam : Fam) (cs : List AV) : Fam := fun f => if f = 0 then { fam 0 with get := fun _ => cs } else fam f
def mc1 (sz : Nat) (F : List AV → List AV → Option (List Prop × AV × List AV)) : MCon := fun key m es => match es with
  | .bx r 0 :: rest => match look m r with
    | some fam => match F ((fam 0).get 0) rest with
      | some (ob, val, cs) => some ⟨((fam 0).n = 1) :: (sz = (fam 0).sz) :: (cleanCs ((fam 0).get 0) = true) :: famOK r fam :: ob, val, .many [(r, wb1 fam cs)] none⟩
      | none => none
    | none => none
  | es => mcP sz F key m es
/-- What a body must do to an element. -/
def OneOK (P : Program) (G : Ctx) (H : Hots) (fn : Func) (sz : Nat) (F : List AV → List AV → Option (List Prop × AV × List AV)) : Prop :=
  ∀ cells rest ob val cs, F cells rest = some (ob, val, cs) → (∀ p ∈ ob, p) → (∀ a ∈ rest, clean 3 a = true) ∧ clean 3 val = true ∧ (∀ c ∈ cs, cleanC c = true) ∧ funcOK P H fn (rest.length + 1) = true ∧
    ∀ (fam : Fam) (f i : Nat), i < (fam f).n → sz = (fam f).sz → (∀ f, (fam f).g = none) → famOK 0 fam → bodyM P G H fn (.ptr 0 f i sz 0 :: rest) [(0, famE fam f i cells)] 1 fun a m1 => a = val ∧ look m1 0 = some (famE fam f i cs)

theorem MConOK.mcP (hG : CtxOK P G) (hf : P.funcs[f]? = some fn) {sz : Nat} {F : List AV → List AV → Option (List Prop × AV × List AV)} (h : OneOK P G H fn sz F) : MConOK P f (mcP sz F) := by
  refine MConOK.of (H := H) hG hf fun key m es e hc hob => ?_
  unfold Ax.mcP at hc
  split at hc
  · rename_i r f' i sz' rest
    split at hc
    · rename_i fam hl
      split at hc
      · rename_i ob val cs hF
        cases hc
        have hi : i < (fam f').n := hob _ (by simp)
        have hsz' : sz' = sz := hob _ (by simp)
        have hsz : sz = (fam f').sz := hob _ (by simp)
        have hcl : cleanCs ((fam f').get i) = true := hob _ (by simp)
        have hok : famOK r fam := hob _ (by simp)
        subst hsz'
        obtain ⟨h1, h2, h3, h4, h5⟩ := h _ _ _ _ _ hF fun p hp => hob p (by simp [hp])
        obtain ⟨a1, a2⟩ := cleans_ren (θ := thE [r]) (g := lowG 1) (B := lowB 1) h1
        refine one_ok hl hok (famOK_E hok h3) (es0 := .ptr 0 f' i sz' 0 :: rest) (val0 := val) ?_ ?_ h4 (fun th σ => ?_) ?_
        · rw [List.map_cons, a1]; rfl
        · intro a ha
          rcases List.mem_cons.1 ha with e | ha
          · rw [e]; exact Nat.zero_lt_one
          · exact a2 a ha
        · obtain ⟨b1, b2⟩ := clean_ren (θ := thL [r] key th) (g := newG 1 σ th) (B := newB 1 σ) 3 val h2
          exact ⟨b1.symm, b2⟩
        · have e1 : famBk fam = famE (famBk fam) f' i ((fam f').get i) := by
            have := famBk_E (fam := fam) (f := f') (i := i) (cleanCs_mem hcl)
            rw [famE_self] at this
            exact this
          rw [e1, famBk_E h3]
          exact h5 (famBk fam) f' i hi hsz (fun f => (hok f).1) (famOK_bk hok)
      · cases hc
    · cases hc
  · cases hc

theorem MConOK.mc1 (hG : CtxOK P G) (hf : P.funcs[f]? = some fn) {sz : Nat} {F : List AV → List AV → Option (List Prop × AV × List AV)} (h : OneOK P G H fn sz F) : MConOK P f (mc1 sz F) := by
  intro w0 ρ m m' D w key es vs e hR hk hm hRs hc hob hmany
  unfold Ax.mc1 at hc
  split at hc
  · rename_i r rest
    split at hc
    · rename_i fam hl
      split at hc
      · rename_i ob val cs hF
        cases hc
        have hn : (fam 0).n = 1 := hob _ (by simp)
        have hsz : sz = (fam 0).sz := hob _ (by simp)
        have hcl : cleanCs ((fam 0).get 0) = true := hob _ (by simp)
        have hok : famOK r fam := hob _ (by simp)
        have hRs' : Rs w ρ (.ptr r 0 0 sz 0 :: rest) vs := by
          obtain ⟨x, xs, rfl, h1, h2⟩ := hRs.inv
          refine .cons ?_ h2
          cases h1 with
          | bx hd =>
            have : R w ρ (.ptr r 0 0 sz 0) (.pointer (some ⟨ρ.blk r 0, 0 * sz + 0, none⟩)) := .ptr hd
            rw [Nat.zero_mul] at this
            exact this
        have := MConOK.mcP hG hf h w0 ρ m m' D w key _ vs ⟨(0 < (fam 0).n) :: (sz = sz) :: (sz = (fam 0).sz) :: (cleanCs ((fam 0).get 0) = true) :: famOK r fam :: ob, val, .many [(r, famE fam 0 0 cs)] none⟩ hR hk hm hRs'
          (by simp only [Ax.mcP, hl, hF]) (fun p hp => by
            simp only [List.mem_cons] at hp
            rcases hp with rfl | rfl | rfl | rfl | rfl | hp
            · omega
            · trivial
            · exact hsz
            · exact hcl
            · exact hok
            · exact hob p (by simp [hp])) ⟨_, _, rfl⟩
        refine this.mono fun v w' ⟨ρ', p1, p2, p3, p4⟩ => ⟨ρ', p1, ?_, p3, p4⟩
        have p2 : Rel w0 ρ' (setRow r (famE fam 0 0 cs) m) (fun r => D r ∨ r = key) w' := p2
        refine Rel.alike p2 fun f => ?_
        by_cases e : f = 0
        · subst e
          refine ⟨rfl, rfl, rfl, rfl, fun i hi => ?_⟩
          rw [famE_n, hn] at hi
          have : i = 0 := by omega
          subst this
          rw [famE_get]; rfl
        · unfold wb1
          rw [if_neg e, famE_off e]
          exact ⟨rfl, rfl, rfl, rfl, fun _ _ => rfl⟩
      · cases hc
    · cases hc
  · exact MConOK.mcP hG hf h w0 ρ m m' D w key es vs e hR hk hm hRs hc hob hmany

/-! ### Two elements of one family -/
def mcPP (sz : Nat) (F : List AV → List AV → List AV → Option (List Prop × AV × List AV × List AV)) : MCon := fun key m es => match es with
  | .ptr r f i sz1 0 :: .ptr r' f' i' sz2 0 :: rest => match look m r with
    | some fam => match F ((fam f).get i) ((fam f').get i') rest with
      | some (ob, val, cs, cs') => some ⟨(r' = r) :: (f ≠ f') :: (i < (fam f).n) :: (i' < (fam f').n) :: (sz1 = sz) :: (sz2 = sz) :: (sz = (fam f).sz) :: (sz = (fam f').sz) :: (cleanCs ((fam f).get i) = true) :: (cleanCs ((fam f').get i') = true) :: famOK r fam :: ob, val, .many [(r, famE (famE fam f i cs) f' i' cs')] none⟩
      | none => none
    | none => none
  | _ => none
def TwoOK (P : Program) (G : Ctx) (H : Hots) (fn : Func) (sz : Nat) (F : List AV → List AV → List AV → Option (List Prop × AV × List AV × List AV)) : Prop :=
  ∀ c1 c2 rest ob val cs cs', F c1 c2 rest = some (ob, val, cs, cs') → (∀ p ∈ ob, p) → (∀ a ∈ rest, clean 3 a = true) ∧ clean 3 val = true ∧ (∀ c ∈ cs, cleanC c = true) ∧ (∀ c ∈ cs', cleanC c = true) ∧ funcOK P H fn (rest.length + 2) = true ∧
    ∀ (fam : Fam) (f i f' i' : Nat), f ≠ f' → i < (fam f).n → i' < (fam f').n → sz = (fam f).sz → sz = (fam f').sz → (∀ f, (fam f).g = none) → famOK 0 fam →
      bodyM P G H fn (.ptr 0 f i sz 0 :: .ptr 0 f' i' sz 0 :: rest) [(0, famE (famE fam f i c1) f' i' c2)] 1 fun a m1 => a = val ∧ look m1 0 = some (famE (famE fam f i cs) f' i' cs')

theorem MConOK.mcPP (hG : CtxOK P G) (hf : P.funcs[f]? = some fn) {sz : Nat} {F : List AV → List AV → List AV → Option (List Prop × AV × List AV × List AV)} (h : TwoOK P G H fn sz F) : MConOK P f (mcPP sz F) := by
  refine MConOK.of (H := H) hG hf fun key m es e hc hob => ?_
  unfold Ax.mcPP at hc
  split at hc
  · rename_i r f1 i1 s1 r' f2 i2 s2 rest
    split at hc
    · rename_i fam hl
      split at hc
      · rename_i ob val cs cs' hF
        cases hc
        have hr : r' = r := hob _ (by simp)
        have hne : f1 ≠ f2 := hob _ (by simp)
        have hi : i1 < (fam f1).n := hob _ (by simp)
        have hi' : i2 < (fam f2).n := hob _ (by simp)
        have hs1 : s1 = sz := hob _ (by simp)
        have hs2 : s2 = sz := hob _ (by simp)
        have hz1 : sz = (fam f1).sz := hob _ (by simp)
        have hz2 : sz = (fam f2).sz := hob _ (by simp)
        have hc1 : cleanCs ((fam f1).get i1) = true := hob _ (by simp)
        have hc2 : cleanCs ((fam f2).get i2) = true := hob _ (by simp)
        have hok : famOK r fam := hob _ (by simp)
        subst hr hs1 hs2
        obtain ⟨h1, h2, h3, h3', h4, h5⟩ := h _ _ _ _ _ _ _ hF fun p hp => hob p (by simp [hp])
        obtain ⟨a1, a2⟩ := cleans_ren (θ := thE [r']) (g := lowG 1) (B := lowB 1) h1
        refine one_ok hl hok (famOK_E (famOK_E hok h3) h3') (es0 := .ptr 0 f1 i1 s2 0 :: .ptr 0 f2 i2 s2 0 :: rest) (val0 := val) ?_ ?_ h4 (fun th σ => ?_) ?_
        · rw [List.map_cons, List.map_cons, a1]; rfl
        · intro a ha
          rcases List.mem_cons.1 ha with e | ha
          · rw [e]; exact Nat.zero_lt_one
          · rcases List.mem_cons.1 ha with e | ha
            · rw [e]; exact Nat.zero_lt_one
            · exact a2 a ha
        · obtain ⟨b1, b2⟩ := clean_ren (θ := thL [r'] key th) (g := newG 1 σ th) (B := newB 1 σ) 3 val h2
          exact ⟨b1.symm, b2⟩
        · have e1 : famBk fam = famE (famE (famBk fam) f1 i1 ((fam f1).get i1)) f2 i2 ((fam f2).get i2) := by
            have k1 := famBk_E (fam := fam) (f := f1) (i := i1) (cleanCs_mem hc1)
            rw [famE_self] at k1
            have k2 := famBk_E (fam := fam) (f := f2) (i := i2) (cleanCs_mem hc2)
            rw [famE_self] at k2
            rw [← k1, ← k2]
          rw [e1, famBk_E h3', famBk_E h3]
          exact h5 (famBk fam) f1 i1 f2 i2 hne hi hi' hz1 hz2 (fun f => (hok f).1) (famOK_bk hok)
      · cases hc
    · cases hc
  · cases hc
/-! ### Tables -/
/-- The family is a table of N pointers to rows of one element. -/
def tabOK (K N sz : Nat) (tp ty : TypeId) (fam : Fam) : Prop := (∀ f, alike (famT K N sz tp ty (fun i => (fam (i + 1)).get 0) f) (fam f)) ∧ ∀ i, i < N → cleanCs ((fam (i + 1)).get 0) = true
theorem rowRen_T {θ : Nat → Nat → Nat × Nat} {g : Nat → Nat → Prop} {B : Nat → Prop} {K N sz : Nat} {tp ty : TypeId} {get : Nat → List AV} (hθ : ∀ f, θ 0 f = (K, f)) (hg : ∀ f, g 0 f) (hc : ∀ i, i < N → cleanCs (get i) = true) (f : Nat) :
    rowRen θ g B (famT 0 N sz tp ty get f) (famT K N sz tp ty get f) := by
  cases f with
  | zero =>
    refine ⟨rfl, rfl, rfl, rfl, fun j hj => ⟨?_, fun c hc => ?_⟩⟩
    · show [AV.ptr K (j + 1) 0 sz 0] = [AV.ptr (θ 0 (j + 1)).1 (θ 0 (j + 1)).2 0 sz 0]
      rw [hθ]
    · simp only [famT, List.mem_singleton] at hc
      rw [hc]; exact hg _
  | succ f =>
    refine rowRen_clean' ⟨rfl, rfl, rfl, rfl, fun _ _ => rfl⟩ fun j hj c hcm => ?_
    simp only [famT] at hj hcm
    split at hj
    · rename_i hf
      have : j = 0 := by omega
      subst this
      exact cleanCs_mem (hc f hf) c (by simpa using hcm)
    · omega
theorem rowRen_alike {θ : Nat → Nat → Nat × Nat} {g : Nat → Nat → Prop} {B : Nat → Prop} {x0 x y : Row} (h : rowRen θ g B x0 x) (k : alike x y) : rowRen θ g B x0 y := by
  obtain ⟨h1, h2, h3, h4, h5⟩ := h
  obtain ⟨k1, k2, k3, k4, k5⟩ := k
  refine ⟨k1.trans h1, k2.trans h2, k3.trans h3, k4.trans h4, fun j hj => ?_⟩
  obtain ⟨a, b⟩ := h5 j hj
  exact ⟨(k5 j (by omega)).trans a, b⟩
theorem famT_g {K N sz : Nat} {tp ty : TypeId} {get : Nat → List AV} {f : Nat} : (famT K N sz tp ty get f).g = none := by cases f <;> rfl
theorem tabOK_in {K N sz : Nat} {tp ty : TypeId} {fam : Fam} (h : tabOK K N sz tp ty fam) (f : Nat) : (fam f).g = none ∧ rowRen (thE [K]) (lowG 1) (lowB 1) (famT 0 N sz tp ty (fun i => (fam (i + 1)).get 0) f) (fam f) :=
  ⟨(h.1 f).2.2.2.1.trans famT_g, rowRen_alike (rowRen_T thE_0 lowG_0 h.2 f) (h.1 f)⟩

def mcT (sz : Nat) (tp ty : TypeId) (F : Nat → (Nat → List AV) → List AV → Option (List Prop × AV × (Nat → List AV))) : MCon := fun key m es => match es with
  | .own K 0 N 1 :: rest => match look m K with
    | some fam => match F N (fun i => (fam (i + 1)).get 0) rest with
      | some (ob, val, get') => some ⟨tabOK K N sz tp ty fam :: ob, val, .many [(K, famT K N sz tp ty get')] none⟩
      | none => none
    | none => none
  | _ => none
def TabOK (P : Program) (G : Ctx) (H : Hots) (fn : Func) (sz : Nat) (tp ty : TypeId) (F : Nat → (Nat → List AV) → List AV → Option (List Prop × AV × (Nat → List AV))) : Prop :=
  ∀ N get rest ob val get', F N get rest = some (ob, val, get') → (∀ p ∈ ob, p) → (∀ i, i < N → cleanCs (get i) = true) → (∀ a ∈ rest, clean 3 a = true) ∧ clean 3 val = true ∧ (∀ i, i < N → cleanCs (get' i) = true) ∧ funcOK P H fn (rest.length + 1) = true ∧
    bodyM P G H fn (.own 0 0 N 1 :: rest) [(0, famT 0 N sz tp ty get)] 1 fun a m1 => a = val ∧ look m1 0 = some (famT 0 N sz tp ty get')
theorem MConOK.mcT (hG : CtxOK P G) (hf : P.funcs[f]? = some fn) {sz : Nat} {tp ty : TypeId} {F : Nat → (Nat → List AV) → List AV → Option (List Prop × AV × (Nat → List AV))} (h : TabOK P G H fn sz tp ty F) : MConOK P f (mcT sz tp ty F) := by
  refine MConOK.of (H := H) hG hf fun key m es e hc hob => ?_
  unfold Ax.mcT at hc
  split at hc
  · rename_i K N rest
    split at hc
    · rename_i fam hl
      split at hc
      · rename_i ob val get' hF
        cases hc
        have hok : tabOK K N sz tp ty fam := hob _ (by simp)
        obtain ⟨h1, h2, h3, h4, h5⟩ := h _ _ _ _ _ _ hF (fun p hp => hob p (by simp [hp])) hok.2
        obtain ⟨a1, a2⟩ := cleans_ren (θ := thE [K]) (g := lowG 1) (B := lowB 1) h1
        refine one_okG hl (tabOK_in hok) (fun th σ f => ⟨rowRen_T thL_0 (newG_0 (by simp)) h3 f, by rw [famT_g]; simp⟩) (es0 := .own 0 0 N 1 :: rest) (val0 := val) ?_ ?_ h4 (fun th σ => ?_) h5
        · rw [List.map_cons, a1]; rfl
        · intro a ha
          rcases List.mem_cons.1 ha with e | ha
          · rw [e]; exact Nat.zero_lt_one
          · exact a2 a ha
        · obtain ⟨b1, b2⟩ := clean_ren (θ := thL [K] key th) (g := newG 1 σ th) (B := newB 1 σ) 3 val h2
          exact ⟨b1.symm, b2⟩
      · cases hc
    · cases hc
  · cases hc

/-! ### A table that is told: a new slice of what it points at -/
def mcTL (sz : Nat) (tp ty tl : TypeId) : MCon := fun key m es => match es with
  | [.own K 0 N 1] => match look m K with
    | some fam => some ⟨[tabOK K N sz tp ty fam, N ≤ 1000, ∀ i, i < N → ((fam (i + 1)).get 0).length = sz ∧ allCells ((fam (i + 1)).get 0) = true], .own key 0 N sz, .many [(K, famT K N sz tp ty fun i => (fam (i + 1)).get 0)] (some (famN N sz tl (fun i => (fam (i + 1)).get 0) none))⟩
    | none => none
  | _ => none
def TelOK (P : Program) (G : Ctx) (H : Hots) (fn : Func) (sz : Nat) (tp ty tl : TypeId) : Prop :=
  ∀ N get, N ≤ 1000 → (∀ i, i < N → cleanCs (get i) = true) → (∀ i, i < N → (get i).length = sz ∧ allCells (get i) = true) → funcOK P H fn 1 = true ∧
    bodyM P G H fn [.own 0 0 N 1] [(0, famT 0 N sz tp ty get)] 1 fun a m1 => look m1 0 = some (famT 0 N sz tp ty get) ∧ ∃ L get', 1 ≤ L ∧ a = .own L 0 N sz ∧ look m1 L = some (famN N sz tl get' none) ∧ ∀ i, i < N → get' i = get i
/-- New rows, all of one key. -/
def whole (K : Nat) (f : Nat) : Option (Nat × Nat) := some (K, f)
def idTh (_ f : Nat) : Nat := f
theorem MConOK.mcTL (hG : CtxOK P G) (hf : P.funcs[f]? = some fn) {sz : Nat} {tp ty tl : TypeId} (h : TelOK P G H fn sz tp ty tl) : MConOK P f (mcTL sz tp ty tl) := by
  refine MConOK.of (H := H) hG hf fun key m es e hc hob => ?_
  unfold Ax.mcTL at hc
  split at hc
  · rename_i K N
    split at hc
    · rename_i fam hl
      cases hc
      have hok : tabOK K N sz tp ty fam := hob _ (by simp)
      have hN : N ≤ 1000 := hob _ (by simp)
      have hlen : ∀ i, i < N → ((fam (i + 1)).get 0).length = sz ∧ allCells ((fam (i + 1)).get 0) = true := hob _ (by simp)
      obtain ⟨h1, h2⟩ := h N (fun i => (fam (i + 1)).get 0) hN hok.2 hlen
      refine ⟨[K], [(0, famT 0 N sz tp ty fun i => (fam (i + 1)).get 0)], [.own 0 0 N 1], ⟨by simp, rfl, ?_, ?_, ?_⟩, h1, h2.mono fun a m1 ⟨q1, L, get', q2, q3, q4, q5⟩ => ?_⟩
      · intro a ha
        rw [List.mem_singleton] at ha
        rw [ha]; exact Nat.zero_lt_one
      · intro j hj
        have : j = 0 := by simp at hj; omega
        subst this
        exact ⟨_, fam, look_one, hl, tabOK_in hok⟩
      · intro q x hq
        by_cases e : q = 0
        · subst e; simp
        · simp [look, Ne.symm e] at hq
      · refine ⟨whole L, idTh, [famT K N sz tp ty fun i => (fam (i + 1)).get 0], some _, rfl, ⟨fun f r g h => ?_, ?_, ?_, rfl, fun j hj => ?_, fun f => ?_⟩⟩
        · cases h; exact ⟨q2, rfl⟩
        · rw [q3]
          show AV.own key 0 N sz = .own (thL [K] key idTh L 0).1 (thL [K] key idTh L 0).2 N sz
          unfold thL
          rw [if_neg (by simp; omega)]
          rfl
        · rw [q3]; exact .inr rfl
        · have : j = 0 := by simp at hj; omega
          subst this
          exact .inr ⟨_, _, q1, rfl, fun f => ⟨rowRen_T thL_0 (newG_0 (by simp)) hok.2 f, by rw [famT_g]; simp⟩⟩
        · refine ⟨_, q4, rowRen_clean' ?_ fun j hj c hc => ?_, ?_⟩
          · unfold famN
            by_cases e : f = 0
            · subst e
              exact ⟨rfl, rfl, rfl, rfl, fun i hi => (q5 i hi).symm⟩
            · simp only [e, if_false]
              exact .refl _
          · unfold famN at hj hc
            by_cases e : f = 0
            · subst e
              simp only [if_true] at hj hc
              rw [q5 j hj] at hc
              exact cleanCs_mem (hok.2 j hj) c hc
            · simp [e] at hj
          · unfold famN
            split <;> simp
    · cases hc
  · cases hc

theorem setRow_self {r : Nat} {x : Fam} : ∀ {m : Mem}, look m r = some x → setRow r x m = m
  | [], h => by simp [look] at h
  | (k, y) :: m, h => by
    unfold look at h
    unfold setRow
    split at h
    · rename_i e; cases h; subst e; simp
    · rename_i e; rw [if_neg e, setRow_self h]
/-- As 'mcTL': the table itself is left ars it is. -/
def mcTR (sz : Nat) (tp ty tl : TypeId) : MCon := fun key m es => match es with
  | [.own K 0 N 1] => match look m K with
    | some fam => some ⟨[tabOK K N sz tp ty fam, N ≤ 1000, ∀ i, i < N → ((fam (i + 1)).get 0).length = sz ∧ allCells ((fam (i + 1)).get 0) = true], .own key 0 N sz, .many [] (some (famN N sz tl (fun i => (fam (i + 1)).get 0) none))⟩
    | none => none
  | _ => none
theorem MConOK.mcTR {sz : Nat} {tp ty tl : TypeId} (h : MConOK P f (Ax.mcTL sz tp ty tl)) : MConOK P f (Ax.mcTR sz tp ty tl) := by
  intro w0 ρ m m' D w key es vs e hR hk hm hRs hc hob hmany
  unfold Ax.mcTR at hc
  split at hc
  · rename_i K N
    split at hc
    · rename_i fam hl
      cases hc
      have := h w0 ρ m m' D w key [.own K 0 N 1] vs ⟨[tabOK K N sz tp ty fam, N ≤ 1000, ∀ i, i < N → ((fam (i + 1)).get 0).length = sz ∧ allCells ((fam (i + 1)).get 0) = true], .own key 0 N sz, .many [(K, famT K N sz tp ty fun i => (fam (i + 1)).get 0)] (some (famN N sz tl (fun i => (fam (i + 1)).get 0) none))⟩ hR hk hm hRs (by simp only [Ax.mcTL, hl]) hob ⟨_, _, rfl⟩
      refine this.mono fun v w' ⟨ρ', p1, p2, p3, p4⟩ => ⟨ρ', p1, ?_, p3, p4⟩
      have hok : tabOK K N sz tp ty fam := hob _ (by simp)
      have hKm := hm _ _ hl
      have hne : K ≠ key := fun e => hk (e ▸ hR.key _ _ hKm)
      have p2 : Rel w0 ρ' (insRow key (famN N sz tl (fun i => (fam (i + 1)).get 0) none) (setRow K (famT K N sz tp ty fun i => (fam (i + 1)).get 0) m)) (fun r => D r ∨ r = key) w' := p2
      rw [← set_ins hne] at p2
      have p5 := Rel.alike p2 (y := fam) (fun f => hok.1 f)
      rw [set_ins hne, setRow_self hKm] at p5
      exact p5
    · cases hc
  · cases hc

/-! ### A new row of one element -/
def mcN (ty : TypeId) (F : List AV → Option (List Prop × List AV)) : MCon := fun key m es => match F es with
  | some (ob, cs) => some ⟨ob, .bx key 0, .many [] (some (fam1 ty cs.length cs none))⟩
  | none => none
def NewOK (P : Program) (G : Ctx) (H : Hots) (fn : Func) (ty : TypeId) (F : List AV → Option (List Prop × List AV)) : Prop :=
  ∀ es ob cs, F es = some (ob, cs) → (∀ p ∈ ob, p) → (∀ a ∈ es, clean 3 a = true) ∧ cleanCs cs = true ∧ funcOK P H fn es.length = true ∧
    bodyM P G H fn es [] 0 fun a m1 => ∃ L, a = .bx L 0 ∧ look m1 L = some (fam1 ty cs.length cs none)
theorem MConOK.mcN (hG : CtxOK P G) (hf : P.funcs[f]? = some fn) {ty : TypeId} {F : List AV → Option (List Prop × List AV)} (h : NewOK P G H fn ty F) : MConOK P f (mcN ty F) := by
  refine MConOK.of (H := H) hG hf fun key m es e hc hob => ?_
  unfold Ax.mcN at hc
  split at hc
  · rename_i ob cs hF
    cases hc
    obtain ⟨h1, h2, h3, h4⟩ := h _ _ _ hF fun p hp => hob p hp
    obtain ⟨a1, a2⟩ := cleans_ren (θ := thE []) (g := lowG 0) (B := lowB 0) h1
    refine ⟨[], [], es, ⟨by simp, a1.symm, a2, fun j hj => by simp at hj, fun q x hq => by simp [look] at hq⟩, h3, h4.mono fun a m1 ⟨L, q1, q2⟩ => ?_⟩
    refine ⟨whole L, idTh, [], some _, rfl, ⟨fun f r g h => ?_, ?_, ?_, rfl, fun j hj => by simp at hj, fun f => ?_⟩⟩
    · cases h; exact ⟨Nat.zero_le _, rfl⟩
    · rw [q1]; rfl
    · rw [q1]; exact .inr rfl
    · refine ⟨_, q2, rowRen_clean' (.refl _) fun j hj c hc => ?_, ?_⟩
      · unfold fam1 at hj hc
        by_cases e : f = 0
        · subst e
          exact cleanCs_mem h2 c (by simpa using hc)
        · simp [e] at hj
      · unfold fam1
        split <;> simp
  · cases hc

/-! ### A new table -/
def mcL (sz : Nat) (tp ty : TypeId) (F : List AV → Option (List Prop × Nat × (Nat → List AV))) : MCon := fun key m es => match F es with
  | some (ob, N, get) => some ⟨ob, .own key 0 N 1, .many [] (some (famT key N sz tp ty get))⟩
  | none => none
def LayOK (P : Program) (G : Ctx) (H : Hots) (fn : Func) (sz : Nat) (tp ty : TypeId) (F : List AV → Option (List Prop × Nat × (Nat → List AV))) : Prop :=
  ∀ es ob N get, F es = some (ob, N, get) → (∀ p ∈ ob, p) → (∀ a ∈ es, clean 3 a = true) ∧ (∀ i, i < N → cleanCs (get i) = true) ∧ funcOK P H fn es.length = true ∧
    bodyM P G H fn es [] 0 fun a m1 => ∃ L get', a = .own L 0 N 1 ∧ look m1 L = some (famT L N sz tp ty get') ∧ ∀ i, i < N → get' i = get i
theorem MConOK.mcL (hG : CtxOK P G) (hf : P.funcs[f]? = some fn) {sz : Nat} {tp ty : TypeId} {F : List AV → Option (List Prop × Nat × (Nat → List AV))} (h : LayOK P G H fn sz tp ty F) : MConOK P f (mcL sz tp ty F) := by
  refine MConOK.of (H := H) hG hf fun key m es e hc hob => ?_
  unfold Ax.mcL at hc
  split at hc
  · rename_i ob N get hF
    cases hc
    obtain ⟨h1, h2, h3, h4⟩ := h _ _ _ _ hF fun p hp => hob p hp
    obtain ⟨a1, a2⟩ := cleans_ren (θ := thE []) (g := lowG 0) (B := lowB 0) h1
    refine ⟨[], [], es, ⟨by simp, a1.symm, a2, fun j hj => by simp at hj, fun q x hq => by simp [look] at hq⟩, h3, h4.mono fun a m1 ⟨L, get', q1, q2, q3⟩ => ?_⟩
    refine ⟨whole L, idTh, [], some _, rfl, ⟨fun f r g h => ?_, ?_, ?_, rfl, fun j hj => by simp at hj, fun f => ?_⟩⟩
    · cases h; exact ⟨Nat.zero_le _, rfl⟩
    · rw [q1]; rfl
    · rw [q1]; exact .inr rfl
    · refine ⟨_, q2, ?_, by rw [famT_g]; simp⟩
      cases f with
      | zero =>
        refine ⟨rfl, rfl, rfl, rfl, fun j hj => ⟨rfl, fun c hc => ?_⟩⟩
        simp only [famT, List.mem_singleton] at hc
        rw [hc]; exact .inr rfl
      | succ f =>
        refine rowRen_clean' ⟨rfl, rfl, rfl, rfl, fun j hj => ?_⟩ fun j hj c hcm => ?_
        · simp only [famT] at hj ⊢
          split at hj
          · rename_i hf
            rw [q3 f hf]
          · omega
        · simp only [famT] at hj hcm
          split at hj
          · rename_i hf
            have : j = 0 := by omega
            subst this
            simp only [if_true] at hcm
            rw [q3 f hf] at hcm
            exact cleanCs_mem (h2 f hf) c hcm
          · omega
  · cases hc

/-! ### A table and an element of another row -/
def mcTP (sz sz2 : Nat) (tp ty : TypeId) (F : Nat → (Nat → List AV) → List AV → List AV → Option (List Prop × AV × (Nat → List AV) × List AV)) : MCon := fun key m es => match es with
  | .own K 0 N 1 :: .ptr C f i s2 0 :: rest => match look m K with
    | some fam => match look m C with
      | some famC => match F N (fun i => (fam (i + 1)).get 0) ((famC f).get i) rest with
        | some (ob, val, get', cs') => some ⟨(K ≠ C) :: (s2 = sz2) :: (i < (famC f).n) :: (sz2 = (famC f).sz) :: (cleanCs ((famC f).get i) = true) :: famOK C famC :: tabOK K N sz tp ty fam :: ob, val, .many [(K, famT K N sz tp ty get'), (C, famE famC f i cs')] none⟩
        | none => none
      | none => none
    | none => none
  | .own K 0 N 1 :: .bx C 0 :: rest => match look m K with
    | some fam => match look m C with
      | some famC => match F N (fun i => (fam (i + 1)).get 0) ((famC 0).get 0) rest with
        | some (ob, val, get', cs') => some ⟨(K ≠ C) :: ((famC 0).n = 1) :: (sz2 = (famC 0).sz) :: (cleanCs ((famC 0).get 0) = true) :: famOK C famC :: tabOK K N sz tp ty fam :: ob, val, .many [(K, famT K N sz tp ty get'), (C, wb1 famC cs')] none⟩
        | none => none
      | none => none
    | none => none
  | _ => none
end

/-! ### For the evaluator -/
section
variable {K N sz n r f i : Nat} {tp ty : TypeId} {get : Nat → List AV} {cs l : List AV} {g : Option Bool} {a : AV}
theorem cleanCs_nil : cleanCs [] = true := (rfl)
theorem cleanCs_v {x : Value} : cleanCs (.v x :: l) = cleanCs l := by simp [cleanCs, cleanC]
theorem cleanCs_any : cleanCs (.any :: l) = cleanCs l := by simp [cleanCs, cleanC]
theorem cleanCs_ro {q : Nat → List AV} : cleanCs (.ro n sz q :: l) = cleanCs l := by simp [cleanCs, cleanC]
theorem cleanCs_rop : cleanCs (.rop cs :: l) = cleanCs l := by simp [cleanCs, cleanC]
theorem self_of_clean {c : AV} (h : cleanC c = true) : selfC r c = true := by cases c <;> first | exact h | simp [cleanC] at h
theorem famOK_1 (h : cleanCs cs = true) : famOK r (fam1 ty sz cs none) = True := eq_true fun f => by
  unfold fam1
  by_cases e : f = 0
  · subst e
    exact ⟨rfl, fun j _ c hc => self_of_clean (cleanCs_mem h c (by simpa using hc))⟩
  · simp only [e, if_false]
    exact ⟨trivial, fun j hj => by omega⟩
theorem famOK_N (h : ∀ i, i < n → cleanCs (get i) = true) : famOK r (famN n sz ty get none) = True := eq_true fun f => by
  unfold famN
  by_cases e : f = 0
  · subst e
    exact ⟨rfl, fun j hj c hc => self_of_clean (cleanCs_mem (h j (by simpa using hj)) c (by simpa using hc))⟩
  · simp only [e, if_false]
    exact ⟨trivial, fun j hj => by omega⟩
theorem famOK_T (h : ∀ i, i < N → cleanCs (get i) = true) : famOK K (famT K N sz tp ty get) = True := eq_true fun f => by
  cases f with
  | zero =>
    refine ⟨rfl, fun j _ c hc => ?_⟩
    simp only [famT, List.mem_singleton] at hc
    rw [hc]; simp [selfC]
  | succ f =>
    refine ⟨rfl, fun j hj c hc => ?_⟩
    simp only [famT] at hj hc
    split at hj
    · rename_i hf
      have : j = 0 := by omega
      subst this
      exact self_of_clean (cleanCs_mem (h f hf) c (by simpa using hc))
    · omega
theorem tabOK_T (h : ∀ i, i < N → cleanCs (get i) = true) : tabOK K N sz tp ty (famT K N sz tp ty get) = True := eq_true ⟨fun f => by
  cases f <;> exact ⟨rfl, rfl, rfl, rfl, fun _ _ => rfl⟩, h⟩
theorem famT_get : (famT K N sz tp ty get (i + 1)).get 0 = get i := (rfl)
theorem famT_n : (famT K N sz tp ty get (i + 1)).n = if i < N then 1 else 0 := (rfl)
theorem famT_sz : (famT K N sz tp ty get (i + 1)).sz = sz := (rfl)
theorem fam1_get : (fam1 ty sz cs g 0).get i = cs := (rfl)
theorem fam1_n : (fam1 ty sz cs g 0).n = 1 := (rfl)
theorem fam1_sz : (fam1 ty sz cs g 0).sz = sz := (rfl)
theorem famN_get : (famN n sz ty get g 0).get i = get i := (rfl)
theorem famN_n : (famN n sz ty get g 0).n = n := (rfl)
theorem famN_sz : (famN n sz ty get g 0).sz = sz := (rfl)
theorem famOK_Es {fam : Fam} (h : famOK r fam) (hc : cleanCs cs = true) : famOK r (famE fam f i cs) = True := eq_true (famOK_E h (cleanCs_mem hc))
theorem wb1_1 : wb1 (fam1 ty sz cs g) l = fam1 ty sz l g := by
  funext f
  unfold wb1 fam1
  by_cases e : f = 0 <;> simp [e]
theorem wb1_N {get : Nat → List AV} : wb1 (famN 1 sz ty get g) l = famN 1 sz ty (fun _ => l) g := by
  funext f
  unfold wb1 famN
  by_cases e : f = 0 <;> simp [e]
end
attribute [go_sem] cleanCs_nil cleanCs_v cleanCs_any cleanCs_ro cleanCs_rop famOK_1 famOK_N famOK_T famOK_Es famE_n famE_sz famE_g famE_get famE_twice tabOK_T famT_get famT_n famT_sz fam1_get fam1_n fam1_sz famN_get famN_n famN_sz wb1_1 wb1_N famE_T lt_ite tupOf_nil tupOf_one tupOf_two retML_nil retML_cons retMS_some endMR_ret endMR_normal
end Go.Ax
end

section
/-
  Contracts of functions that make objects, and of those that write them: a family of rows that speaks of itself alone.
-/
set_option linter.unusedSimpArgs false
set_option linter.unusedVariables false
namespace Go.Ax

/-! ### New families -/
/-- The place of a row among those that make a new family. -/
def ixP : List (Nat × Nat) → Nat → Nat → Nat
  | [], _, _ => 0
  | (a, b) :: l, r, g => if a = r ∧ b = g then 0 else ixP l r g + 1
def sgP (l : List (Nat × Nat)) (f : Nat) : Option (Nat × Nat) := l[f]?
theorem ixP_at : ∀ {l : List (Nat × Nat)}, l.Nodup → ∀ {f r g : Nat}, l[f]? = some (r, g) → ixP l r g = f
  | [], _, f, r, g, h => by simp at h
  | (a, b) :: l, hn, 0, r, g, h => by
    simp at h
    obtain ⟨rfl, rfl⟩ := h
    simp [ixP]
  | (a, b) :: l, hn, f + 1, r, g, h => by
    obtain ⟨n1, n2⟩ := List.nodup_cons.1 hn
    simp at h
    simp only [ixP]
    rw [if_neg, ixP_at n2 h]
    rintro ⟨rfl, rfl⟩
    exact n1 (List.mem_of_getElem? h)
/-- What a callee leaves that is new: the result, and a family made of rows of its own. -/
def NewP (key N : Nat) (a : AV) (m1 : Mem) (val : AV) (nw : Option Fam) : Prop :=
  ∃ (σ : Nat → Option (Nat × Nat)) (th : Nat → Nat → Nat), (∀ f r g, σ f = some (r, g) → N ≤ r ∧ th r g = f) ∧ kg (newG N σ th) (newB N σ) 3 a ∧ ∀ ks : List Nat, ks.length = N → val = renA (thL ks key th) 3 a ∧
    match nw with
    | none => ∀ f, σ f = none
    | some y => ∀ f, match σ f with
      | some (r, g) => ∃ y0, look m1 r = some y0 ∧ rowRen (thL ks key th) (newG N σ th) (newB N σ) (y0 g) (y f) ∧ (y0 g).g ≠ some false
      | none => (y f).n = 0
theorem newP_none {key N : Nat} {a : AV} {m1 : Mem} (h : clean 3 a = true) : NewP key N a m1 a none :=
  ⟨fun _ => none, fun _ _ => 0, fun f r g h => by simp at h, (clean_ren (θ := fun _ _ => (0, 0)) 3 a h).2, fun ks _ => ⟨((clean_ren (g := fun _ _ => True) (B := fun _ => True) 3 a h).1).symm, fun _ => rfl⟩⟩
theorem newP_list {key N : Nat} {a : AV} {m1 : Mem} {val : AV} {y : Fam} (l : List (Nat × Nat)) (hn : l.Nodup) (hN : ∀ p ∈ l, N ≤ p.1) (hk : kg (newG N (sgP l) (ixP l)) (newB N (sgP l)) 3 a)
    (hv : ∀ ks : List Nat, ks.length = N → val = renA (thL ks key (ixP l)) 3 a)
    (hy : ∀ ks : List Nat, ks.length = N → ∀ f r g, l[f]? = some (r, g) → ∃ y0, look m1 r = some y0 ∧ rowRen (thL ks key (ixP l)) (newG N (sgP l) (ixP l)) (newB N (sgP l)) (y0 g) (y f) ∧ (y0 g).g ≠ some false)
    (hr : ∀ f, l.length ≤ f → (y f).n = 0) : NewP key N a m1 val (some y) := by
  refine ⟨sgP l, ixP l, fun f r g h => ⟨hN _ (List.mem_of_getElem? h), ixP_at hn h⟩, hk, fun ks hks => ⟨hv ks hks, fun f => ?_⟩⟩
  unfold sgP
  cases h : l[f]? with
  | none => exact hr f (by simpa using h)
  | some p =>
    obtain ⟨r, g⟩ := p
    exact hy ks hks f r g h
theorem NewP.leave {key N : Nat} {a : AV} {m1 : Mem} {val : AV} {nw : Option Fam} (h : NewP key N a m1 val nw) {ks : List Nat} (hks : ks.length = N) {ys : List Fam} (hl : ys.length = ks.length)
    (hr : ∀ σ th, ∀ i, i < ks.length → ys[i]? = some dead ∨ ∃ y0 y, look m1 i = some y0 ∧ ys[i]? = some y ∧ ∀ f, rowRen (thL ks key th) (newG ks.length σ th) (newB ks.length σ) (y0 f) (y f) ∧ (y0 f).g ≠ some false) {ob : List Prop} :
    ∃ σ th ys' nw', (⟨ob, val, .many (ks.zip ys) nw⟩ : Eff).u = .many (ks.zip ys') nw' ∧ Leave key ks σ th m1 a ys' nw' val := by
  obtain ⟨σ, th, h1, h2, h3⟩ := h
  obtain ⟨h4, h5⟩ := h3 ks hks
  refine ⟨σ, th, ys, nw, rfl, ⟨by rw [hks]; exact h1, h4, by rw [hks]; exact h2, hl, hr σ th, ?_⟩⟩
  rw [hks]
  exact h5

/-! ### Makers -/
section
variable {P : Program} {G : Ctx} {H : Hots} {f : FuncId} {fn : Func}
def mcK (F : List AV → Option (List Prop × (Nat → AV) × (Nat → Option Fam))) : MCon := fun key m es => match F es with
  | some (ob, v, nw) => some ⟨ob, v key, .many [] (nw key)⟩
  | none => none
def KOK (P : Program) (G : Ctx) (H : Hots) (fn : Func) (F : List AV → Option (List Prop × (Nat → AV) × (Nat → Option Fam))) : Prop :=
  ∀ es ob v nw, F es = some (ob, v, nw) → (∀ p ∈ ob, p) → (∀ a ∈ es, clean 3 a = true) ∧ funcOK P H fn es.length = true ∧ ∀ key, bodyM P G H fn es [] 0 fun a m1 => NewP key 0 a m1 (v key) (nw key)
theorem MConOK.mcK (hG : CtxOK P G) (hf : P.funcs[f]? = some fn) {F : List AV → Option (List Prop × (Nat → AV) × (Nat → Option Fam))} (h : KOK P G H fn F) : MConOK P f (mcK F) := by
  refine MConOK.of (H := H) hG hf fun key m es e hc hob => ?_
  unfold Ax.mcK at hc
  split at hc
  · rename_i ob v nw hF
    cases hc
    obtain ⟨h1, h3, h4⟩ := h _ _ _ _ hF fun p hp => hob p hp
    obtain ⟨a1, a2⟩ := cleans_ren (θ := thE []) (g := lowG 0) (B := lowB 0) h1
    exact ⟨[], [], es, ⟨by simp, a1.symm, a2, fun j hj => by simp at hj, fun q x hq => by simp [look] at hq⟩, h3, (h4 key).mono fun a m1 hN => hN.leave (ks := []) rfl (ys := []) rfl fun _ _ i hi => by simp at hi⟩
  · cases hc

/-! ### Objects -/
structure Obj (X : Type) where
  fm : Nat → X → Fam
  ok : X → Prop
  inj : ∀ K x y, fm K x = fm K y → x = y
  ren : ∀ x, ok x → ∀ (θ : Nat → Nat → Nat × Nat) (g : Nat → Nat → Prop) (B : Nat → Prop) (i K : Nat), (∀ f, θ i f = (K, f)) → (∀ f, g i f) → ∀ f, rowRen θ g B (fm i x f) (fm K x f)
  gn : ∀ K x, ok x → ∀ f, (fm K x f).g = none
variable {X : Type} {O : Obj X}
open Classical in
noncomputable def Obj.dec (O : Obj X) (K : Nat) (fam : Fam) : Option X := if h : ∃ x, fam = O.fm K x then some (Classical.choose h) else none
theorem Obj.dec_fm {K : Nat} {x : X} : O.dec K (O.fm K x) = some x := by
  have h : ∃ y, O.fm K x = O.fm K y := ⟨x, rfl⟩
  unfold Obj.dec
  rw [dif_pos h]
  exact congrArg some (O.inj _ _ _ (Classical.choose_spec h)).symm
theorem Obj.dec_some {K : Nat} {fam : Fam} {x : X} (h : O.dec K fam = some x) : fam = O.fm K x := by
  unfold Obj.dec at h
  split at h
  · rename_i hh
    cases h
    exact Classical.choose_spec hh
  · cases h
/-- An object's family; or none any more. -/
def Obj.fam (O : Obj X) (K : Nat) : Option X → Fam
  | some x => O.fm K x
  | none => dead
def Obj.okO (O : Obj X) : Option X → Prop
  | some x => O.ok x
  | none => True
def Obj.at (O : Obj X) (K : Nat) (m : Mem) : Option X → Prop
  | some x => look m K = some (O.fm K x)
  | none => True
abbrev OFun (X : Type) := X → List AV → Option (List Prop × (Nat → AV) × Option X × (Nat → Option Fam))
def mcOf (O : Obj X) (K key : Nat) (x : X) : Option (List Prop × (Nat → AV) × Option X × (Nat → Option Fam)) → Option Eff
  | some (ob, v, x', nw) => some ⟨O.ok x :: O.okO x' :: ob, v key, .many [(K, O.fam K x')] (nw key)⟩
  | none => none
noncomputable def mcOe (O : Obj X) (F : OFun X) (K key : Nat) (rest : List AV) : Option Fam → Option Eff
  | some fam => match O.dec K fam with
    | some x => mcOf O K key x (F x rest)
    | none => none
  | none => none
noncomputable def mcO (O : Obj X) (F : OFun X) : MCon := fun key m es => match es with
  | .bx K 0 :: rest => mcOe O F K key rest (look m K)
  | _ => none
def OOK (P : Program) (G : Ctx) (H : Hots) (fn : Func) (O : Obj X) (F : OFun X) : Prop :=
  ∀ x rest ob v x' nw, F x rest = some (ob, v, x', nw) → O.ok x → O.okO x' → (∀ p ∈ ob, p) → (∀ a ∈ rest, clean 3 a = true) ∧ funcOK P H fn (rest.length + 1) = true ∧
    ∀ key, bodyM P G H fn (.bx 0 0 :: rest) [(0, O.fm 0 x)] 1 fun a m1 => O.at 0 m1 x' ∧ NewP key 1 a m1 (v key) (nw key)
theorem Obj.leave {K i : Nat} {ks : List Nat} {m1 : Mem} {x' : Option X} {key : Nat} {σ : Nat → Option (Nat × Nat)} {th : Nat → Nat → Nat} (hi : i < ks.length) (hK : ks.getD i 0 = K) (hok : O.okO x') (ha : match x' with
    | some x => look m1 i = some (O.fm i x)
    | none => True) : O.fam K x' = dead ∨ ∃ y0 y, look m1 i = some y0 ∧ some (O.fam K x') = some y ∧ ∀ f, rowRen (thL ks key th) (newG ks.length σ th) (newB ks.length σ) (y0 f) (y f) ∧ (y0 f).g ≠ some false := by
  cases x' with
  | none => exact .inl rfl
  | some x => exact .inr ⟨_, _, ha, rfl, fun f => ⟨O.ren x hok _ _ _ i K (fun f => by unfold thL; rw [if_pos hi, hK]) (fun f => .inl hi) f, by rw [O.gn _ _ hok]; simp⟩⟩
theorem MConOK.mcO (hG : CtxOK P G) (hf : P.funcs[f]? = some fn) {F : OFun X} (h : OOK P G H fn O F) : MConOK P f (mcO O F) := by
  refine MConOK.of (H := H) hG hf fun key m es e hc hob => ?_
  unfold Ax.mcO at hc
  split at hc
  · rename_i K rest
    unfold mcOe at hc
    split at hc
    · rename_i fam hl
      split at hc
      · rename_i x hx
        obtain rfl := Obj.dec_some hx
        unfold mcOf at hc
        split at hc
        · rename_i ob v x' nw hF
          cases hc
          have hok : O.ok x := hob _ (by simp)
          have hok' : O.okO x' := hob _ (by simp)
          obtain ⟨h1, h3, h4⟩ := h _ _ _ _ _ _ hF hok hok' fun p hp => hob p (by simp [hp])
          obtain ⟨a1, a2⟩ := cleans_ren (θ := thE [K]) (g := lowG 1) (B := lowB 1) h1
          refine ⟨[K], [(0, O.fm 0 x)], .bx 0 0 :: rest, ⟨by simp, by rw [List.map_cons, a1]; rfl, fun a ha => ?_, fun j hj => ?_, fun q z hq => ?_⟩, h3, (h4 key).mono fun a m1 ⟨k1, k2⟩ => k2.leave (ks := [K]) rfl (ys := [O.fam K x']) rfl fun σ th j hj => ?_⟩
          · rcases List.mem_cons.1 ha with rfl | ha
            · exact Nat.zero_lt_one
            · exact a2 a ha
          · have : j = 0 := by simp at hj; omega
            subst this
            exact ⟨_, _, look_one, hl, fun f => ⟨O.gn _ _ hok _, O.ren x hok _ _ _ 0 K (fun _ => rfl) (fun _ => Nat.zero_lt_one) f⟩⟩
          · by_cases e : q = 0
            · subst e; simp
            · simp [look, Ne.symm e] at hq
          · have : j = 0 := by simp at hj; omega
            subst this
            have := Obj.leave (O := O) (K := K) (i := 0) (ks := [K]) (m1 := m1) (x' := x') (key := key) (σ := σ) (th := th) (by simp) rfl hok' (by cases x' <;> exact k1)
            rcases this with h | ⟨y0, y, k3, k4, k5⟩
            · exact .inl (by rw [h]; rfl)
            · exact .inr ⟨y0, y, k3, k4, k5⟩
        · cases hc
      · cases hc
    · cases hc
  · cases hc
theorem mcO_eq {F : OFun X} {K key : Nat} {m : Mem} {rest : List AV} : mcO O F key m (.bx K 0 :: rest) = mcOe O F K key rest (look m K) := (rfl)
theorem mcOe_fm {F : OFun X} {K key : Nat} {rest : List AV} {x : X} : mcOe O F K key rest (some (O.fm K x)) = mcOf O K key x (F x rest) := by
  unfold mcOe
  dsimp only
  rw [Obj.dec_fm]
theorem mcOf_some {K key : Nat} {x : X} {ob : List Prop} {v : Nat → AV} {x' : Option X} {nw : Nat → Option Fam} : mcOf O K key x (some (ob, v, x', nw)) = some ⟨O.ok x :: O.okO x' :: ob, v key, .many [(K, O.fam K x')] (nw key)⟩ := (rfl)
end
end Go.Ax
end

section
/-
  The program's table of slots: what only reads it.
-/
set_option linter.unusedVariables false
set_option linter.unusedSimpArgs false
set_option maxHeartbeats 4000000
set_option maxRecDepth 100000
namespace Go.Ax
open Go.Proofs
/-- Whole numbers, one a cell. -/
def ints (n : Nat) (g : Nat → List AV) : Prop := ∀ i, i < n → g i = [i64 (gx g 0 i)]
theorem ints_can {n : Nat} {X : Nat → Int} : ints n (fun i => [i64 (X i)]) = True := eq_true fun _ _ => rfl
theorem gx_int {X : Nat → Int} : gx (fun i => [i64 (X i)]) 0 = X := rfl
/-- A table of slots, ars it is read. -/
abbrev slR (x : Int) (n : Nat) (G : Nat → Int) : AV := .rop [u64 x, .ro n 1 fun i => [i64 (G i)]]
def cSe (n : Nat) (g : Nat → List AV) : Option (List Prop × AV) → Option (List Prop × AV)
  | some (ob, r) => some (ints n g :: ob, r)
  | none => none
theorem cSe_some {n : Nat} {g : Nat → List AV} {ob : List Prop} {r : AV} : cSe n g (some (ob, r)) = some (ints n g :: ob, r) := (rfl)
/-- A contract of a function whose first argument is such a table. -/
def cS (F : Int → Nat → (Nat → Int) → List AV → Option (List Prop × AV)) : Con
  | .rop [.v (.int .u64 x), .ro n 1 g] :: rest => cSe n g (F x n (gx g 0) rest)
  | _ => none
theorem cS_eq {F : Int → Nat → (Nat → Int) → List AV → Option (List Prop × AV)} {x : Int} {n : Nat} {g : Nat → List AV} {rest : List AV} : cS F (.rop [u64 x, .ro n 1 g] :: rest) = cSe n g (F x n (gx g 0) rest) := (rfl)
theorem R_ropc {w : World} {ρ : Env} {cs cs' : List AV} {v : Value} (hl : cs'.length = cs.length) (h : ∀ (k : Nat) (c c' : AV) (x : Value), cs[k]? = some c → cs'[k]? = some c' → R w (.ext ρ.imm) c x → R w (.ext ρ.imm) c' x) (hR : R w ρ (.rop cs) v) : R w ρ (.rop cs') v := by
  cases hR with
  | rop b o hi hex hr =>
    refine .rop b o hi (fun k hk => hex k (by omega)) fun k c' x h1 h2 => ?_
    have hlt : k < cs.length := by rw [← hl]; exact (List.getElem?_eq_some_iff.1 h1).1
    exact h k cs[k] c' x (by simp [hlt]) h1 (hr k cs[k] x (by simp [hlt]) h2)
theorem R_slots {w : World} {ρ : Env} {x : Int} {n : Nat} {g : Nat → List AV} {v : Value} (h : ints n g) (hR : R w ρ (.rop [u64 x, .ro n 1 g]) v) : R w ρ (slR x n (gx g 0)) v := by
  refine R_ropc (cs := [u64 x, .ro n 1 g]) rfl (fun k c c' y h1 h2 h3 => ?_) hR
  match k, h1, h2 with
  | 0, h1, h2 => cases h1; cases h2; exact h3
  | 1, h1, h2 => cases h1; cases h2; exact ro_alike (fun i hi => h i hi) h3
  | k + 2, h1, h2 => simp at h1
theorem ConOK.cS {P : Program} {G : Ctx} {H : Hots} (hG : CtxOK P G) {f : FuncId} {fn : Func} (hf : P.funcs[f]? = some fn) {F : Int → Nat → (Nat → Int) → List AV → Option (List Prop × AV)}
    (h : ∀ x n X rest ob r, F x n X rest = some (ob, r) → (∀ p ∈ ob, p) → funcOK P H fn (rest.length + 1) = true ∧ fnVC P G H fn (slR x n X :: rest) (· = r)) : ConOK P f (cS F) :=
  ConOK.go (G := G) (H := H) hG hf fun l ob rr hc hob => by
    unfold Ax.cS at hc
    split at hc
    · rename_i x n g rest
      unfold cSe at hc
      split at hc
      · rename_i ob' r' hF
        cases hc
        obtain ⟨h1, h2⟩ := h x n (gx g 0) rest ob' rr hF fun p hp => hob p (by simp [hp])
        refine ⟨slR x n (gx g 0) :: rest, fun w I vs hR => ?_, h1, h2⟩
        · obtain ⟨y, ys, rfl, k1, k2⟩ := hR.inv
          exact .cons (R_slots (hob _ (by simp)) k1) k2
      · cases hc
    · cases hc
def c87 : Con
  | [.rop [s, .ro n 1 G]] => some ([], bo (n == 0))
  | _ => none
theorem con87 : ConOK Tryz.prog 87 c87 := ConOK.of (G := []) (H := []) .nil Tryz.func87 fun l ob rr hc hob => by
  unfold c87 at hc
  split at hc
  · rename_i s n G
    cases hc
    refine ⟨by kernel_rfl, fnVC_go (rs := [.tmp 2]) rfl rfl ?_⟩
    simp only [go_sem]
    cases n with
    | zero => rfl
    | succ n => simp only [Bool.false_or]; apply Bool.eq_iff_iff.2; simp; omega
  · cases hc
def c88 : Con
  | [.rop (.v (.int .u64 x) :: l), .v (.int .i64 i)] => some ([0 ≤ x, x < 18446744073709551616, 0 ≤ i, i < 64], bo (x.toNat.testBit i.toNat))
  | _ => none
theorem con88 : ConOK Tryz.prog 88 c88 := ConOK.of (G := []) (H := []) .nil Tryz.func88 fun l ob rr hc hob => by
  unfold c88 at hc
  split at hc
  · rename_i x l i
    cases hc
    have h_0 : 0 ≤ x := hob _ (by simp)
    have h_1 : x < 18446744073709551616 := hob _ (by simp)
    have h_2 : 0 ≤ i := hob _ (by simp)
    have h_3 : i < 64 := hob _ (by simp)
    refine ⟨by kernel_rfl, fnVC_go (rs := [.tmp 4]) rfl rfl ?_⟩
    simp only [go_sem, h_0, h_1, h_2, h_3]
    obtain ⟨a, rfl⟩ : ∃ a : Nat, x = a := ⟨x.toNat, by omega⟩
    obtain ⟨k, rfl⟩ : ∃ k : Nat, i = k := ⟨i.toNat, by omega⟩
    have hk : k < 64 := by omega
    intro z hz
    obtain rfl : z = k := by rw [hz, wrap_u (by unfold inU; omega)]
    refine ⟨by omega, fun z1 h1 z2 h2 => ?_⟩
    have e : ((k : Int)).toNat = k := by omega
    rw [e, shr_nat hk] at h1
    have h3 : a / 2 ^ k ≤ a := Nat.div_le_self _ _
    subst h1
    have h4 := andI_nat (a := a / 2 ^ k) (b := 1) (by omega) (by decide)
    rw [show ((1 : Nat) : Int) = 1 from rfl] at h4
    rw [h2, h4, Int.toNat_natCast, Int.toNat_natCast]
    exact bit_eq
  · cases hc
def c123 : Con
  | [.v (.int .u64 x)] => some ([0 ≤ x, x < 18446744073709551616], i64 (cntB x.toNat.testBit 64 : Nat))
  | _ => none
theorem con123 : ConOK Tryz.prog 123 c123 := ConOK.of (G := []) (H := []) .nil Tryz.func123 fun l ob rr hc hob => by
  unfold c123 at hc
  split at hc
  · rename_i x
    cases hc
    have h_0 : 0 ≤ x := hob _ (by simp)
    have h_1 : x < 18446744073709551616 := hob _ (by simp)
    refine ⟨by kernel_rfl, fnVC_go (rs := [.tmp 2]) rfl rfl ?_⟩
    simp only [go_sem, h_0, h_1]
    obtain ⟨x, rfl⟩ : ∃ a : Nat, x = a := ⟨x.toNat, by omega⟩
    obtain ⟨a, b, c, _, ha, hb, hc, b1, b2, b3, y1, y2, y3, e1, e2, e3, b4, b5⟩ := ones_nat (x := x) (by omega)
    have f0 : ∀ {u v : Nat}, u &&& v ≤ u := Nat.and_le_left
    have w : ∀ {n : Nat}, n < 18446744073709551616 → IntKind.u64.wrap (n : Int) = n := fun hn => wrap_u (by unfold inU; omega)
    have hc2 : c < 18446744073709551616 := by have := f0 (u := b / 16 + b) (v := 1085102592571150095); omega
    have k1 : y1 < 18446744073709551616 := by omega
    have k2 : y2 < 18446744073709551616 := by omega
    rintro z0 rfl z1 h1 z2 h2 z3 h3 z4 h4 z5 h5 z6 h6 z7 h7 z8 h8 z9 h9 z10 h10 z11 h11 z12 h12 z13 h13 z14 h14 z15 h15 z16 h16 z17 h17 z18 h18
    have g1 : z1 = ((x / 2 &&& 6148914691236517205 : Nat) : Int) := by rw [h1, show (x : Int) / 2 = ((x / 2 : Nat) : Int) by omega]; exact andI_nat (by omega) (by decide)
    have g2 : z2 = ((x &&& 6148914691236517205 : Nat) : Int) := by rw [h2]; exact andI_nat (by omega) (by decide)
    have g3 : z3 = (a : Int) := by rw [h3, g1, g2, ← Int.natCast_add, ← ha]; exact w b1
    have g4 : z4 = ((a / 4 : Nat) : Int) := by rw [h4, g3]; exact shr_nat (by decide)
    have g5 : z5 = ((a / 4 &&& 3689348814741910323 : Nat) : Int) := by rw [h5, g4]; exact andI_nat (by omega) (by decide)
    have g6 : z6 = ((a &&& 3689348814741910323 : Nat) : Int) := by rw [h6, g3]; exact andI_nat (by omega) (by decide)
    have g7 : z7 = (b : Int) := by rw [h7, g5, g6, ← Int.natCast_add, ← hb]; exact w b2
    have g8 : z8 = ((b / 16 : Nat) : Int) := by rw [h8, g7]; exact shr_nat (by decide)
    have g9 : z9 = ((b / 16 + b : Nat) : Int) := by rw [h9, g8, g7, ← Int.natCast_add]; exact w b3
    have g10 : z10 = (c : Int) := by rw [h10, g9, hc]; exact andI_nat b3 (by decide)
    have g11 : z11 = ((c / 256 : Nat) : Int) := by rw [h11, g10]; exact shr_nat (by decide)
    have g12 : z12 = (y1 : Int) := by rw [h12, g11, g10, ← Int.natCast_add, ← e1]; exact w k1
    have g13 : z13 = ((y1 / 65536 : Nat) : Int) := by rw [h13, g12]; exact shr_nat (by decide)
    have g14 : z14 = (y2 : Int) := by rw [h14, g13, g12, ← Int.natCast_add, ← e2]; exact w k2
    have g15 : z15 = ((y2 / 4294967296 : Nat) : Int) := by rw [h15, g14]; omega
    have g16 : z16 = (y3 : Int) := by rw [h16, g15, g14, ← Int.natCast_add, ← e3]; exact w (by omega)
    have g17 : z17 = (y3 : Int) := by rw [h17, g16]; exact wrap_in (by unfold inR; omega)
    rw [h18, g17, Int.toNat_natCast, ← b5]
    exact andI_natI b4 (by decide)
  · cases hc
def c90 : Con
  | [.rop (.v (.int .u64 x) :: l)] => some ([0 ≤ x, x < 18446744073709551616], i64 (cntB x.toNat.testBit 64 : Nat))
  | _ => none
theorem con90 : ConOK Tryz.prog 90 c90 := ConOK.of (G := [(123, c123)]) (H := []) (.cons con123 .nil) Tryz.func90 fun l ob rr hc hob => by
  unfold c90 at hc
  split at hc
  · rename_i x l
    cases hc
    have h_0 : 0 ≤ x := hob _ (by simp)
    have h_1 : x < 18446744073709551616 := hob _ (by simp)
    refine ⟨by kernel_rfl, fnVC_go (rs := [.tmp 2]) rfl rfl ?_⟩
    simp only [go_sem, c123, h_0, h_1]
    exact fun _ => trivial
  · cases hc
def c36 : Con
  | [.rop [s, .ro n 1 G]] => some ([], i64 n)
  | _ => none
theorem con36 : ConOK Tryz.prog 36 c36 := ConOK.of (G := [(87, c87)]) (H := []) (.cons con87 .nil) Tryz.func36 fun l ob rr hc hob => by
  unfold c36 at hc
  split at hc
  · rename_i s n G
    cases hc
    refine ⟨by kernel_rfl, fnVC_go (rs := [.tmp 2]) rfl rfl ?_⟩
    simp only [go_sem, c87]
    simp only [forall_eq]
    refine ⟨fun h => ?_, fun h => trivial⟩
    have : n = 0 := by simpa using h
    subst this; rfl
  · cases hc
def c41 : Con
  | [.rop [.v (.int .u64 x), .ro n 1 G]] => some ([0 ≤ x, x < 18446744073709551616, 0 < n], i64 (cntB x.toNat.testBit 64 : Nat))
  | _ => none
theorem con41 : ConOK Tryz.prog 41 c41 := ConOK.of (G := [(87, c87), (90, c90)]) (H := []) (.cons con87 (.cons con90 .nil)) Tryz.func41 fun l ob rr hc hob => by
  unfold c41 at hc
  split at hc
  · rename_i x n G
    cases hc
    have h_0 : 0 ≤ x := hob _ (by simp)
    have h_1 : x < 18446744073709551616 := hob _ (by simp)
    have h_2 : 0 < n := hob _ (by simp)
    refine ⟨by kernel_rfl, fnVC_go (rs := [.tmp 2]) rfl rfl ?_⟩
    simp only [go_sem, c87, c90, h_0, h_1, h_2]
    simp only [forall_eq]
    refine ⟨fun h => ?_, fun h _ => trivial⟩
    have : n = 0 := by simpa using h
    omega
  · cases hc
attribute [go_sem] cS_eq cSe_some ints_can gx_int
/-- Is the slot taken? -/
def atOk (x : Int) (n : Nat) (i : Int) : Bool := decide (0 ≤ i ∧ i < n) && x.toNat.testBit i.toNat
abbrev haA (s g : Int) : AV := .agg [i64 s, i64 g]
def F37 : Int → Nat → (Nat → Int) → List AV → Option (List Prop × AV)
  | x, n, X, [.v (.int .i64 i)] => some ([0 ≤ x, x < 18446744073709551616, 0 < n, n ≤ 64], .tup [haA (if atOk x n i = true then i else 0) (if atOk x n i = true then X i.toNat else 0), bo (atOk x n i)])
  | _, _, _, _ => none
def k37 : Con := cS F37
theorem con37 : ConOK Tryz.prog 37 k37 := ConOK.cS (G := [(87, c87), (88, c88)]) (H := []) (.cons con87 (.cons con88 .nil)) Tryz.func37 fun x n X rest ob r hF hob => by
  unfold F37 at hF
  split at hF
  · rename_i i
    cases hF
    have h0 : 0 ≤ x := hob _ (by simp)
    have h1 : x < 18446744073709551616 := hob _ (by simp)
    have h2 : 0 < n := hob _ (by simp)
    have h3 : n ≤ 64 := hob _ (by simp)
    refine ⟨by kernel_rfl, fnVC_go (rs := [.cell 4 64, .tmp 5]) rfl rfl ?_⟩
    simp only [go_sem, c87, c88, h0, h1]
    intro z hz z1 hz1
    have hz : z = false := by rw [hz]; exact beq_false_of_ne (by omega)
    subst hz
    refine ⟨fun _ => trivial, fun _ => trivial, fun h => by omega, fun h => by omega, fun h => ?_, fun h => ?_⟩
    · have : atOk x n i = false := by
        unfold atOk
        rw [← hz1]
        rcases h with ((h | h) | h) | h
        · cases h
        · rw [decide_eq_false (by omega)]; rfl
        · rw [decide_eq_false (by omega)]; rfl
        · rw [h, Bool.and_false]
      rw [this]; rfl
    · have : atOk x n i = true := by
        unfold atOk
        rw [← hz1, h.2, decide_eq_true (by omega)]; rfl
      rw [this]
      exact ⟨by omega, by omega, rfl⟩
  · cases hF
def F39 : Int → Nat → (Nat → Int) → List AV → Option (List Prop × AV)
  | x, n, X, [.v (.int .i64 i)] => some ([0 < n], i64 (if 0 ≤ i ∧ i < n then X i.toNat else 0))
  | _, _, _, _ => none
def k39 : Con := cS F39
theorem con39 : ConOK Tryz.prog 39 k39 := ConOK.cS (G := [(87, c87)]) (H := []) (.cons con87 .nil) Tryz.func39 fun x n X rest ob r hF hob => by
  unfold F39 at hF
  split at hF
  · rename_i i
    cases hF
    have h2 : 0 < n := hob _ (by simp)
    refine ⟨by kernel_rfl, fnVC_go (rs := [.tmp 4]) rfl rfl ?_⟩
    simp only [go_sem, c87]
    intro z hz
    have hz : z = false := by rw [hz]; exact beq_false_of_ne (by omega)
    subst hz
    refine ⟨fun h => ?_, fun h => ?_⟩
    · rw [if_neg]
      rcases h with (h | h) | h
      · cases h
      · omega
      · omega
    · have : 0 ≤ i ∧ i < (n : Int) := by omega
      rw [if_pos this]
      exact ⟨this.1, this.2, rfl⟩
  · cases hF
end Go.Ax
end

section
/-
  The program's table of slots: Has, All.
-/
set_option linter.unusedVariables false
set_option linter.unusedSimpArgs false
set_option maxHeartbeats 4000000
set_option maxRecDepth 100000
namespace Go.Ax
open Go.Proofs
def alk (r r' : AV) : Prop := ∀ w ρ v, R w ρ r' v → R w ρ r v
theorem ConOK.goR {P : Program} {G : Ctx} {H : Hots} (hG : CtxOK P G) {f : FuncId} {fn : Func} (hf : P.funcs[f]? = some fn) {c : Con}
    (h : ∀ es1 ob r, c es1 = some (ob, r) → (∀ p ∈ ob, p) → ∃ es, (∀ w I vs, Rs w (.ext I) es1 vs → Rs w (.ext I) es vs) ∧ funcOK P H fn es.length = true ∧ fnVC P G H fn es (alk r)) : ConOK P f c := by
  intro es0 ob r hc hob I w vs hI hRs
  obtain ⟨es, h0, h1, h2⟩ := h es0 ob r hc hob
  obtain ⟨k1, k2⟩ := fn_sound hG hf h1 h2 I w vs hI (h0 w I vs hRs)
  refine .inr ⟨k1, k2.mono fun e w' ⟨v, he, ⟨r', hr, hR⟩, hb⟩ => ⟨v, he, hr _ _ _ hR, hb⟩⟩
theorem alk_refl {r : AV} : alk r r := fun _ _ _ h => h
theorem alk_ro {n sz : Nat} {f g : Nat → List AV} (h : ∀ i, i < n → g i = f i) : alk (.ro n sz f) (.ro n sz g) := fun w ρ v hR => ro_alike h hR
theorem alk_nil {sz : Nat} {f : Nat → List AV} : alk (.ro 0 sz f) (.v (.slice none 0 0)) := fun w ρ v hR => by
  cases hR
  exact .ro 0 0 (Nat.le_refl _) (fun h => absurd h (by omega)) (fun h => absurd h (by omega)) (fun i h => absurd h (by omega)) (fun i k h => absurd h (by omega)) (fun i k c x h => absurd h (by omega))
theorem ConOK.cSR {P : Program} {G : Ctx} {H : Hots} (hG : CtxOK P G) {f : FuncId} {fn : Func} (hf : P.funcs[f]? = some fn) {F : Int → Nat → (Nat → Int) → List AV → Option (List Prop × AV)}
    (h : ∀ x n X rest ob r, F x n X rest = some (ob, r) → (∀ p ∈ ob, p) → funcOK P H fn (rest.length + 1) = true ∧ fnVC P G H fn (slR x n X :: rest) (alk r)) : ConOK P f (Ax.cS F) :=
  ConOK.goR (G := G) (H := H) hG hf fun l ob rr hc hob => by
    unfold Ax.cS at hc
    split at hc
    · rename_i x n g rest
      unfold cSe at hc
      split at hc
      · rename_i ob' r' hF
        cases hc
        obtain ⟨h1, h2⟩ := h x n (gx g 0) rest ob' rr hF fun p hp => hob p (by simp [hp])
        refine ⟨slR x n (gx g 0) :: rest, fun w I vs hR => ?_, h1, h2⟩
        obtain ⟨y, ys, rfl, k1, k2⟩ := hR.inv
        exact .cons (R_slots (hob _ (by simp)) k1) k2
      · cases hc
    · cases hc
theorem fitL_clean {N M : Nat} {σ : Names} : ∀ {l : List AV}, cleanCs l = true → fitL N M σ l l
  | [], _ => trivial
  | a :: l, h => by
    simp only [cleanCs, Bool.and_eq_true] at h
    refine ⟨?_, fitL_clean h.2⟩
    have h1 := h.1
    cases a <;> first | exact ⟨rfl, trivial⟩ | trivial | simp [cleanC] at h1
/-- Pairs of whole numbers in a slice. -/
def lsF (l : List (Int × Int)) : Nat → List AV := fun i => [i64 (l.getD i (0, 0)).1, i64 (l.getD i (0, 0)).2]
abbrev lsA (l : List (Int × Int)) : AV := .ro l.length 2 (lsF l)
theorem lsF_push {l : List (Int × Int)} {a b : Int} {j : Nat} (h : j < l.length + 1) : (if j < l.length then lsF l j else List.take 2 (List.drop ((j - l.length) * 2) [i64 a, i64 b])) = lsF (l ++ [(a, b)]) j := by
  unfold lsF
  split
  · rename_i hl
    simp [List.getD_eq_getElem?_getD, List.getElem?_append_left hl]
  · have : j = l.length := by omega
    subst this
    simp
theorem lsF_1 {a b : Int} {j : Nat} (h : j < 1) : List.take 2 (List.drop (j * 2) [i64 a, i64 b]) = lsF [(a, b)] j := by
  have : j = 0 := by omega
  subst this; rfl
/-- The handles of the slots below i that are taken. -/
def allL (x : Int) (n : Nat) (X : Nat → Int) : Nat → List (Int × Int)
  | 0 => []
  | i + 1 => allL x n X i ++ (if atOk x n i = true then [((i : Int), X i)] else [])
theorem allL_le {x : Int} {n : Nat} {X : Nat → Int} : ∀ i, (allL x n X i).length ≤ i
  | 0 => Nat.le_refl _
  | i + 1 => by
    simp only [allL, List.length_append]
    have := allL_le (x := x) (n := n) (X := X) i
    split <;> simp <;> omega
theorem aEq64 {a0 b0 : Int} {a1 b1 : Int} : aEq Tryz.prog 64 (.agg [i64 a0, i64 a1]) (.agg [i64 b0, i64 b1]) = some ((a0 == b0) && ((a1 == b1) && true)) := by kernel_rfl
theorem eq64 {xo yo : Operand} {neg : Bool} {a0 b0 : Int} {a1 b1 : Int} : eqE Tryz.prog neg 64 xo yo (.agg [i64 a0, i64 a1]) (.agg [i64 b0, i64 b1]) = some ⟨[], .v (.bool (negV neg ((a0 == b0) && ((a1 == b1) && true)))), .none⟩ := eqE_agg aEq64
attribute [go_sem] eq64
theorem aEq95 {a0 b0 : Int} {a1 b1 : Int} : aEq Tryz.prog 95 (.agg [i64 a0, i64 a1]) (.agg [i64 b0, i64 b1]) = some ((a0 == b0) && ((a1 == b1) && true)) := by kernel_rfl
theorem eq95 {xo yo : Operand} {neg : Bool} {a0 b0 : Int} {a1 b1 : Int} : eqE Tryz.prog neg 95 xo yo (.agg [i64 a0, i64 a1]) (.agg [i64 b0, i64 b1]) = some ⟨[], .v (.bool (negV neg ((a0 == b0) && ((a1 == b1) && true)))), .none⟩ := eqE_agg aEq95
attribute [go_sem] eq95
def F60 : Int → Nat → (Nat → Int) → List AV → Option (List Prop × AV)
  | x, n, X, [.agg [.v (.int .i64 s), .v (.int .i64 g)]] => some ([0 ≤ x, x < 18446744073709551616, 0 < n, n ≤ 64], bo (atOk x n s && (X s.toNat == g)))
  | _, _, _, _ => none
def k60 : Con := cS F60
theorem con60 : ConOK Tryz.prog 60 k60 := ConOK.cS (G := [(37, k37)]) (H := []) (.cons con37 .nil) Tryz.func60 fun x n X rest ob r hF hob => by
  unfold F60 at hF
  split at hF
  · rename_i s g
    cases hF
    have h0 : 0 ≤ x := hob _ (by simp)
    have h1 : x < 18446744073709551616 := hob _ (by simp)
    have h2 : 0 < n := hob _ (by simp)
    have h3 : n ≤ 64 := hob _ (by simp)
    refine ⟨by kernel_rfl, fnVC_go (rs := [.tmp 4]) rfl rfl ?_⟩
    simp only [go_sem, k37, F37, h0, h1, h2, h3]
    intro z hz
    subst hz
    cases h : atOk x n s with
    | false => rfl
    | true => simp only [if_true, beq_self_eq_true, Bool.true_and]
  · cases hF
def F35 : Int → Nat → (Nat → Int) → List AV → Option (List Prop × AV)
  | x, n, X, [] => some ([0 ≤ x, x < 18446744073709551616, 0 < n, n ≤ 64], lsA (allL x n X n))
  | _, _, _, _ => none
def k35 : Con := cS F35
theorem con35 : ConOK Tryz.prog 35 k35 := ConOK.cSR (G := [(36, c36), (37, k37)]) (H := []) (.cons con36 (.cons con37 .nil)) Tryz.func35 fun x n X rest ob r hF hob => by
  unfold F35 at hF
  split at hF
  · cases hF
    have h0 : 0 ≤ x := hob _ (by simp)
    have h1 : x < 18446744073709551616 := hob _ (by simp)
    have h2 : 0 < n := hob _ (by simp)
    have h3 : n ≤ 64 := hob _ (by simp)
    refine ⟨by kernel_rfl, fnVC_go (rs := [.tmp 2]) rfl rfl ?_⟩
    simp only [go_sem, c36, k37]
    simp only [forall_eq]
    refine loopN_go (fun (i : Nat) => i ≤ n) (fun i => n - i) (fun i => [(9, i64 i), (3, .own 5 0 (allL x n X i).length 2)]) (fun i => [(5, famN (allL x n X i).length 2 64 (lsF (allL x n X i)) none)]) [] [10, 11, 4, 13, 14, 15, 12, 16, 17, 5, 6, 18, 19, 20, 21, 22, 3, 23, 9] 1 0 (by kernel_rfl) (Nat.zero_le _) ⟨[(5, none)], ?_, ?_, ?_, ?_⟩ ?_
    · simp only [go_sem]; simp [allL]
    · simp only [go_sem]; simp [allL]
    · simp only [go_sem]
    · simp [goodNames, asg]
    intro i hi
    simp only [go_sem, c36, k37, F37, h0, h1, h2, h3]
    have hle := allL_le (x := x) (n := n) (X := X) i
    refine ⟨fun h z hz => ⟨fun ht => ⟨?_, by omega, fun z1 k1 => ⟨i + 1, by omega, by omega, [(5, some 22)], ?_⟩⟩, fun hf z1 k1 => ⟨i + 1, by omega, by omega, [(5, some 5)], ?_⟩⟩, fun h => ?_⟩
    · have hb : bytesT Tryz.prog 64 = 16 := by kernel_rfl
      rw [hb]; omega
    · rw [ht] at hz
      have e : allL x n X (i + 1) = allL x n X i ++ [((i : Int), X i)] := by simp only [allL]; rw [← hz]; rfl
      rw [e, List.length_append, List.length_singleton, if_pos hz.symm, if_pos hz.symm]
      simp only [go_sem]
      refine ⟨by rw [k1, wrap_in (by unfold inR; omega)]; omega, fun q hq => ?_, by simp [goodNames, asg]⟩
      rw [lsF_push hq]
      exact fitL_clean rfl
    · rw [hf] at hz
      have e : allL x n X (i + 1) = allL x n X i := by simp only [allL]; rw [← hz]; simp
      rw [e]
      simp only [go_sem]
      exact ⟨by rw [k1, wrap_in (by unfold inR; omega)]; omega, fun q hq => fitL_clean rfl, by simp [goodNames, asg]⟩
    · have e : i = n := by omega
      subst e
      exact alk_ro fun j hj => by simp only [lsF, go_sem]
  · cases hF
end Go.Ax
end

section
/-
  The program's table of slots, ars an object; what writes it.
-/
set_option linter.unusedVariables false
set_option linter.unusedSimpArgs false
set_option maxHeartbeats 4000000
set_option maxRecDepth 100000
namespace Go.Ax
open Go.Proofs
/-- Rows that speak of nothing of our own. -/
def tlOK (t : Fam) : Prop := ∀ f, (t f).g = none ∧ ∀ j, j < (t f).n → ∀ c ∈ (t f).get j, cleanC c = true
theorem tlOK_no : tlOK noRows = True := eq_true fun f => ⟨rfl, fun j hj => by have hj : j < 0 := hj; omega⟩
theorem rowRen_tl {t : Fam} (h : tlOK t) {θ : Nat → Nat → Nat × Nat} {g : Nat → Nat → Prop} {B : Nat → Prop} (f : Nat) : rowRen θ g B (t f) (t f) := rowRen_clean' (.refl _) (h f).2
structure SlS where
  x : Int
  n : Nat
  G : Nat → Int
  tl : Fam
def slF (K : Nat) (s : SlS) : Fam := famR [⟨1, 2, 100, fun _ => [u64 s.x, .own K 1 s.n 1], none⟩, ⟨s.n, 1, 3, fun i => [i64 (s.G i)], none⟩] s.tl
theorem slF_inj {K : Nat} {s t : SlS} (h : slF K s = slF K t) : s = t := by
  obtain ⟨x, n, G, tl⟩ := s
  obtain ⟨x', n', G', tl'⟩ := t
  have h0 := congrFun h 0
  have h1 := congrFun h 1
  simp only [slF, famR_0, famR_1, Row.mk.injEq, true_and, and_true] at h0 h1
  have e0 := congrFun h0 0
  simp at e0
  obtain ⟨rfl, h2⟩ := h1
  have e1 : G = G' := by
    funext i
    have := congrFun h2 i
    simpa using this
  have e2 : tl = tl' := by
    funext f
    exact congrFun h (f + 2)
  obtain rfl := e0.1
  rw [e1, e2]
theorem slF_ren {s : SlS} (h : tlOK s.tl) {θ : Nat → Nat → Nat × Nat} {g : Nat → Nat → Prop} {B : Nat → Prop} {i K : Nat} (hθ : ∀ f, θ i f = (K, f)) (hg : ∀ f, g i f) (f : Nat) : rowRen θ g B (slF i s f) (slF K s f) := by
  match f with
  | 0 =>
    refine ⟨rfl, rfl, rfl, rfl, fun j hj => ⟨?_, fun c hc => ?_⟩⟩
    · show [u64 s.x, AV.own K 1 s.n 1] = [u64 s.x, AV.own (θ i 1).1 (θ i 1).2 s.n 1]
      rw [hθ]
    · have hc : c ∈ [u64 s.x, AV.own i 1 s.n 1] := hc
      simp only [List.mem_cons, List.not_mem_nil, or_false] at hc
      rcases hc with rfl | rfl
      · trivial
      · exact hg 1
  | 1 =>
    refine ⟨rfl, rfl, rfl, rfl, fun j hj => ⟨rfl, fun c hc => ?_⟩⟩
    have hc : c ∈ [i64 (s.G j)] := hc
    simp only [List.mem_cons, List.not_mem_nil, or_false] at hc
    subst hc
    trivial
  | f + 2 => exact rowRen_tl h f
def oS : Obj SlS where
  fm := slF
  ok s := tlOK s.tl
  inj _ _ _ h := slF_inj h
  ren _ h _ _ _ _ _ h1 h2 f := slF_ren h h1 h2 f
  gn K s h f := match f with
    | 0 => rfl
    | 1 => rfl
    | f + 2 => (h f).1
theorem oS_fm {K : Nat} {s : SlS} : oS.fm K s = slF K s := (rfl)
def mkF (x' : Int → Int → Int) : OFun SlS := fun s rest => match rest with
  | [.v (.int .i64 i)] => some ([0 ≤ s.x, s.x < 18446744073709551616, 0 ≤ i, i < 64], fun _ => .tup [], some { s with x := x' s.x i }, fun _ => none)
  | _ => none
def setX (x i : Int) : Int := ((x.toNat ||| 2 ^ i.toNat : Nat) : Int)
def clrX (x i : Int) : Int := ((clrN x.toNat (2 ^ i.toNat) : Nat) : Int)
theorem at_some {K : Nat} {m : Mem} {x : SlS} : oS.at K m (some x) = (look m K = some (slF K x)) := (rfl)
theorem setX_nat {a k : Nat} (hk : k < 64) (ha : a < 18446744073709551616) {z1 z2 z3 : Int} (h1 : z1 = IntKind.u64.wrap (k : Int)) (h2 : z2 = IntKind.u64.wrap (1 * 2 ^ min z1.toNat 64)) : ¬ z1 < 0 ∧ z2 = ((2 ^ k : Nat) : Int) ∧ 2 ^ k < 18446744073709551616 := by
  have e1 : z1 = (k : Int) := by rw [h1]; exact wrap_u (by unfold inU; omega)
  subst e1
  have hp : 2 ^ k < 18446744073709551616 := (Nat.pow_lt_pow_right (by omega : 1 < 2) hk : 2 ^ k < 2 ^ 64)
  refine ⟨by omega, ?_, hp⟩
  rw [h2, Int.toNat_natCast, Nat.min_eq_left (by omega), Int.one_mul]
  have : ((2 : Int) ^ k) = ((2 ^ k : Nat) : Int) := by simp
  rw [this]
  generalize 2 ^ k = p at hp
  exact wrap_u (by unfold inU; omega)
noncomputable def m89 : MCon := mcO oS (mkF setX)
theorem mon89 : MConOK Tryz.prog 89 m89 := MConOK.mcO (G := []) (H := []) .nil Tryz.func89 fun s rest ob v x' nw hF hok hok' hob => by
  unfold mkF at hF
  split at hF
  · rename_i i
    cases hF
    have h0 : 0 ≤ s.x := hob _ (by simp)
    have h1 : s.x < 18446744073709551616 := hob _ (by simp)
    have h2 : 0 ≤ i := hob _ (by simp)
    have h3 : i < 64 := hob _ (by simp)
    refine ⟨by simp [clean], by kernel_rfl, fun key => bodyM_go (rs := []) rfl rfl ?_⟩
    simp only [oS_fm, slF, go_sem]
    obtain ⟨x, n, X, tl⟩ := s
    obtain ⟨k, rfl⟩ : ∃ k : Nat, i = k := ⟨i.toNat, by omega⟩
    have h0 : 0 ≤ x := h0
    have h1 : x < 18446744073709551616 := h1
    obtain ⟨a, rfl⟩ : ∃ a : Nat, x = a := ⟨x.toNat, by omega⟩
    intro z1 e1
    have hk := fun z2 e2 => setX_nat (z3 := 0) (by omega : k < 64) (by omega : a < _) e1 (z2 := z2) e2
    refine ⟨(hk _ rfl).1, fun z2 e2 z3 e3 => ?_⟩
    obtain ⟨_, rfl, hp⟩ := hk z2 e2
    have e : z3 = setX a k := by
      rw [e3, orI_nat (by omega) hp]
      rfl
    subst e
    exact ⟨rfl, newP_none rfl⟩
  · cases hF
noncomputable def m92 : MCon := mcO oS (mkF clrX)
theorem mon92 : MConOK Tryz.prog 92 m92 := MConOK.mcO (G := []) (H := []) .nil Tryz.func92 fun s rest ob v x' nw hF hok hok' hob => by
  unfold mkF at hF
  split at hF
  · rename_i i
    cases hF
    have h0 : 0 ≤ s.x := hob _ (by simp)
    have h1 : s.x < 18446744073709551616 := hob _ (by simp)
    have h2 : 0 ≤ i := hob _ (by simp)
    have h3 : i < 64 := hob _ (by simp)
    refine ⟨by simp [clean], by kernel_rfl, fun key => bodyM_go (rs := []) rfl rfl ?_⟩
    simp only [oS_fm, slF, go_sem]
    obtain ⟨x, n, X, tl⟩ := s
    obtain ⟨k, rfl⟩ : ∃ k : Nat, i = k := ⟨i.toNat, by omega⟩
    have h0 : 0 ≤ x := h0
    have h1 : x < 18446744073709551616 := h1
    obtain ⟨a, rfl⟩ : ∃ a : Nat, x = a := ⟨x.toNat, by omega⟩
    intro z1 e1
    have hk := fun z2 e2 => setX_nat (z3 := 0) (by omega : k < 64) (by omega : a < _) e1 (z2 := z2) e2
    refine ⟨(hk _ rfl).1, fun z2 e2 z3 e3 => ?_⟩
    obtain ⟨_, rfl, hp⟩ := hk z2 e2
    have e : z3 = clrX a k := by
      rw [e3, andNotI_nat (by omega) hp]
      rfl
    subst e
    exact ⟨rfl, newP_none rfl⟩
  · cases hF
end Go.Ax
end

section
/-
  The program's table of slots: Take, Free.
-/
set_option linter.unusedVariables false
set_option linter.unusedSimpArgs false
set_option maxHeartbeats 4000000
set_option maxRecDepth 100000
namespace Go.Ax
open Go.Proofs
/-- The least number below n with a property; n if there is none. -/
def lst (p : Nat → Bool) : Nat → Nat
  | 0 => 0
  | n + 1 => if lst p n < n then lst p n else if p n = true then n else n + 1
theorem lst_le {p : Nat → Bool} : ∀ n, lst p n ≤ n
  | 0 => Nat.le_refl _
  | n + 1 => by
    have := lst_le (p := p) n
    unfold lst
    repeat' split
    all_goals omega
theorem lst_no {p : Nat → Bool} : ∀ {n i}, i < lst p n → p i = false
  | 0, i, h => by simp [lst] at h
  | n + 1, i, h => by
    unfold lst at h
    split at h
    · exact lst_no h
    · rename_i hn
      have he : lst p n = n := by have := lst_le (p := p) n; omega
      split at h
      · exact lst_no (n := n) (by omega)
      · rename_i hp
        by_cases e : i = n
        · subst e; simpa using hp
        · exact lst_no (n := n) (by omega)
theorem lst_yes {p : Nat → Bool} : ∀ {n}, lst p n < n → p (lst p n) = true
  | n + 1, h => by
    unfold lst at h ⊢
    split at h
    · rename_i hn; rw [if_pos hn]; exact lst_yes hn
    · rename_i hn
      rw [if_neg hn]
      split at h
      · rename_i hp; rw [if_pos hp]; exact hp
      · omega
theorem lst_eq {p : Nat → Bool} {n i : Nat} (h : ∀ j, j < i → p j = false) (hi : i < n) (hp : p i = true) : lst p n = i := by
  rcases Nat.lt_trichotomy (lst p n) i with h1 | h1 | h1
  · have := lst_yes (p := p) (n := n) (by omega)
    rw [h _ h1] at this; cases this
  · exact h1
  · rw [lst_no h1] at hp; cases hp
theorem lst_full {p : Nat → Bool} {n : Nat} (h : ∀ j, j < n → p j = false) : lst p n = n := by
  have := lst_le (p := p) n
  by_cases h1 : lst p n < n
  · have := lst_yes h1
    rw [h _ h1] at this; cases this
  · omega
/-- May the slot be taken? -/
def mayT (x : Int) (X : Nat → Int) (i : Nat) : Bool := !x.toNat.testBit i && decide (X i < 2147483647)
theorem mcOe_S {F : OFun SlS} {K key : Nat} {rest : List AV} {x : Int} {n : Nat} {X : Nat → Int} {tl : Fam} : mcOe oS F K key rest (some (famR [⟨1, 2, 100, fun _ => [u64 x, .own K 1 n 1], none⟩, ⟨n, 1, 3, fun i => [i64 (X i)], none⟩] tl)) = mcOf oS K key ⟨x, n, X, tl⟩ (F ⟨x, n, X, tl⟩ rest) := mcOe_fm (O := oS) (x := ⟨x, n, X, tl⟩)
theorem fam_S {K : Nat} {s : SlS} : oS.fam K (some s) = famR [⟨1, 2, 100, fun _ => [u64 s.x, .own K 1 s.n 1], none⟩, ⟨s.n, 1, 3, fun i => [i64 (s.G i)], none⟩] s.tl := (rfl)
theorem ok_S {s : SlS} : oS.ok s = tlOK s.tl := (rfl)
theorem okO_S {s : SlS} : oS.okO (some s) = tlOK s.tl := (rfl)
attribute [go_sem] mcO_eq mcOe_S mcOf_some fam_S ok_S okO_S
def upI (X : Nat → Int) (i : Nat) (v : Int) : Nat → Int := fun j => if j = i then v else X j
def tkI (s : SlS) : Nat := lst (mayT s.x s.G) s.n
def tkH (s : SlS) : Int × Int := if tkI s < s.n then ((tkI s : Int), s.G (tkI s) + 1) else (0, 0)
def tkE (s : SlS) : Int := if tkI s < s.n then 0 else 10
def tkS (s : SlS) : SlS := if tkI s < s.n then ⟨setX s.x (tkI s : Nat), s.n, upI s.G (tkI s) (s.G (tkI s) + 1), s.tl⟩ else s
def slOK (s : SlS) : Prop := (0 ≤ s.x ∧ s.x < 18446744073709551616) ∧ (0 < s.n ∧ s.n ≤ 64) ∧ ∀ i, i < s.n → 0 ≤ s.G i
def F40 : OFun SlS := fun s rest => match rest with
  | [] => some ([slOK s], fun _ => .tup [haA (tkH s).1 (tkH s).2, i64 (tkE s)], some (tkS s), fun _ => none)
  | _ => none
noncomputable def m40 : MCon := mcO oS F40
theorem mon40 : MConOK Tryz.prog 40 m40 := MConOK.mcO (G := [(87, c87), (88, c88), (89, .wr m89)]) (H := []) (.cons con87 (.cons con88 (.mcons mon89 .nil))) Tryz.func40 fun s rest ob v x' nw hF hok hok' hob => by
  unfold F40 at hF
  split at hF
  · cases hF
    obtain ⟨⟨h0, h1⟩, ⟨h2, h3⟩, h4⟩ : slOK s := hob _ (by simp)
    clear hok' hob
    refine ⟨by simp, by kernel_rfl, fun key => bodyM_go (rs := [.cell 2 64, .tmp 3]) rfl rfl ?_⟩
    obtain ⟨x, n, X, tl⟩ := s
    dsimp only at h0 h1 h2 h3 h4
    simp only [oS_fm, slF, go_sem, c87, c88, m89]
    intro z hz
    have hz : z = false := by rw [hz]; exact beq_false_of_ne (by omega)
    subst hz
    simp only [Bool.false_eq_true, false_imp_iff, true_imp_iff, true_and]
    refine loopN_go (fun (i : Nat) => i ≤ n ∧ ∀ j, j < i → mayT x X j = false) (fun i => n - i) (fun i => [(14, i64 i), (3, i64 0)]) (fun i => []) [0, 1] [15, 16, 17, 18, 4, 5, 19, 20, 21, 22, 23, 24, 25, 26, 27, 28, 29, 30, 31, 32, 33, 34, 35, 36, 37, 38, 39, 40, 41, 42, 43, 44, 45, 46, 3, 47, 14] 0 0 (by kernel_rfl) ⟨Nat.zero_le _, fun j hj => by omega⟩ ⟨[], ?_, ?_, ?_, ?_⟩ ?_
    · simp only [go_sem]
    · simp only [go_sem]
    · simp only [go_sem]
    · simp [goodNames, asg]
    rintro i ⟨hi, hj⟩
    have htl : tlOK tl := hok
    simp only [go_sem, c87, c88, m89, mkF, oS_fm, slF, htl]
    have lt_of : (i : Int) < n → i < n := fun h => by omega
    refine ⟨fun h => ⟨by omega, h, lt_of h, fun z hz => ⟨h0, h1, by omega, by omega, fun ht => ⟨h0, h1, by omega, by omega, by omega, h, by omega, fun z1 k1 => ⟨by omega, h, by omega, fun z2 k2 => ?_⟩⟩, fun hf z1 k1 => ?_⟩⟩, fun h => ?_⟩
    · have hp : mayT x X i = true := by
        unfold mayT
        rw [← hz, ht.1, decide_eq_true ht.2]; rfl
      have hlt : i < n := by omega
      have e : tkI ⟨x, n, X, tl⟩ = i := lst_eq hj hlt hp
      have hx := h4 i hlt
      have k1 : z1 = X i + 1 := by rw [k1]; exact wrap_in (by unfold inR; omega)
      have k2 : z2 = X i + 1 := by rw [k2]; exact wrap_in (by unfold inR; omega)
      subst k1 k2
      simp only [tkS, tkH, tkE, e, hlt, if_true]
      refine ⟨?_, newP_none rfl⟩
      rw [at_some]
      have : (fun j => if j = i then [i64 (X i + 1)] else [i64 (X j)]) = fun j => [i64 (upI X i (X i + 1) j)] := by
        funext j
        unfold upI
        split <;> rfl
      simp only [go_sem, slF, this]
    · have hp : mayT x X i = false := by
        unfold mayT
        rw [← hz]; exact hf
      refine ⟨i + 1, ⟨by omega, fun j hj2 => ?_⟩, by omega, [], by rw [k1, wrap_in (by unfold inR; omega)]; omega, by simp [goodNames, asg]⟩
      by_cases e : j = i
      · subst e; exact hp
      · exact hj j (by omega)
    · have e : tkI ⟨x, n, X, tl⟩ = n := by
        unfold tkI
        exact lst_full fun j hj2 => hj j (by have hj2 : j < n := hj2; omega)
      have hn : ¬ n < n := Nat.lt_irrefl _
      simp only [tkS, tkH, tkE, e, hn, if_false]
      exact ⟨rfl, newP_none rfl⟩
  · cases hF
/-- A table that is made. -/
theorem newS {key N r1 r2 x : _} {n : Nat} {X : Nat → Int} {m1 : Mem} {v : Nat → AV} (hv : ∀ θ r, renA θ 3 (v r) = v (θ r 0).1) (hk : ∀ G B r, B r → kg G B 3 (v r)) (h1 : look m1 r1 = some (fam1 100 2 [u64 x, .own r2 0 n 1] none)) (h2 : look m1 r2 = some (famN n 1 3 (fun i => [i64 (X i)]) none)) (hne : r1 ≠ r2) (N1 : N ≤ r1) (N2 : N ≤ r2) : NewP key N (v r1) m1 (v key) (some (slF key ⟨x, n, X, noRows⟩)) := by
  have ix1 : ixP [(r1, 0), (r2, 0)] r1 0 = 0 := by simp [ixP]
  have ix2 : ixP [(r1, 0), (r2, 0)] r2 0 = 1 := by simp [ixP, hne]
  refine newP_list [(r1, 0), (r2, 0)] (by simp [hne]) (by simp [N1, N2]) (hk _ _ _ (.inr rfl)) (fun ks hks => ?_) (fun ks hks f r g hf => ?_) (fun f hf => ?_)
  · rw [hv]
    simp only [thL]
    rw [if_neg (by omega)]
  · match f, hf with
    | 0, hf =>
      cases hf
      refine ⟨_, h1, ⟨rfl, rfl, rfl, rfl, fun j hj => ⟨?_, fun c hc => ?_⟩⟩, by simp [fam1]⟩
      · show [u64 x, AV.own key 1 n 1] = [u64 x, AV.own (thL ks key (ixP [(r1, 0), (r2, 0)]) r2 0).1 (thL ks key (ixP [(r1, 0), (r2, 0)]) r2 0).2 n 1]
        simp only [thL]
        rw [if_neg (by omega), ix2]
      · have hc : c ∈ [u64 x, AV.own r2 0 n 1] := hc
        simp only [List.mem_cons, List.not_mem_nil, or_false] at hc
        rcases hc with rfl | rfl
        · trivial
        · exact .inr (by rw [ix2]; rfl)
    | 1, hf =>
      cases hf
      refine ⟨_, h2, ⟨rfl, rfl, rfl, rfl, fun j hj => ⟨rfl, fun c hc => ?_⟩⟩, by simp [famN]⟩
      have hc : c ∈ [i64 (X j)] := hc
      simp only [List.mem_cons, List.not_mem_nil, or_false] at hc
      subst hc; trivial
    | f + 2, hf => simp at hf
  · match f, hf with
    | f + 2, _ => rfl
def hasI (s : SlS) (a g : Int) : Bool := atOk s.x s.n a && (s.G a.toNat == g)
def frS (s : SlS) (a g : Int) : SlS := if hasI s a g = true then ⟨clrX s.x a, s.n, s.G, s.tl⟩ else s
def F44 : OFun SlS := fun s rest => match rest with
  | [.agg [.v (.int .i64 a), .v (.int .i64 g)]] => some ([slOK s], fun _ => i64 (if hasI s a g = true then 0 else 9), some (frS s a g), fun _ => none)
  | _ => none
noncomputable def m44 : MCon := mcO oS F44
theorem mon44 : MConOK Tryz.prog 44 m44 := MConOK.mcO (G := [(87, c87), (60, k60), (92, .wr m92)]) (H := [(5, ⟨[(5, .call)], []⟩)]) (.cons con87 (.cons con60 (.mcons mon92 .nil))) Tryz.func44 fun s rest ob v x' nw hF hok hok' hob => by
  unfold F44 at hF
  split at hF
  · rename_i a g
    cases hF
    obtain ⟨⟨h0, h1⟩, ⟨h2, h3⟩, h4⟩ : slOK s := hob _ (by simp)
    clear hok' hob
    refine ⟨by simp [clean, cleanCs, cleanC], by kernel_rfl, fun key => bodyM_go (rs := [.tmp 4]) rfl rfl ?_⟩
    obtain ⟨x, n, X, tl⟩ := s
    dsimp only at h0 h1 h2 h3 h4
    have htl : tlOK tl := hok
    simp only [oS_fm, slF, go_sem, c87, k60, m92, mkF, htl, F60]
    intro z hz
    have hz : z = false := by rw [hz]; exact beq_false_of_ne (by omega)
    subst hz
    simp only [Bool.false_eq_true, false_imp_iff, true_imp_iff, true_and]
    intro z hz
    have e : hasI ⟨x, n, X, tl⟩ a g = z := hz.symm
    refine ⟨h0, h1, h2, h3, fun hf => ?_, fun ht => ?_⟩
    · simp only [frS, e, hf, Bool.false_eq_true, if_false]
      exact ⟨rfl, newP_none rfl⟩
    · have hb : 0 ≤ a ∧ a < n := by
        have : atOk x n a = true := by
          rw [ht] at hz; exact (Bool.and_eq_true _ _ ▸ hz.symm).1
        unfold atOk at this
        rw [Bool.and_eq_true, decide_eq_true_iff] at this
        exact this.1
      refine ⟨h0, h1, hb.1, by omega, ?_⟩
      simp only [frS, e, ht, if_true]
      exact ⟨rfl, newP_none rfl⟩
  · cases hF
noncomputable def F45 : List AV → Option (List Prop × (Nat → AV) × (Nat → Option Fam))
  | [.v (.int .i64 n)] => if 1 ≤ n ∧ n ≤ 64 then some ([], fun k => .tup [.bx k 0, i64 0], fun k => some (slF k ⟨0, n.toNat, fun _ => 0, noRows⟩)) else some ([], fun _ => .tup [.v (.pointer none), i64 3], fun _ => none)
  | _ => none
noncomputable def m45 : MCon := mcK F45
theorem mon45 : MConOK Tryz.prog 45 m45 := MConOK.mcK (G := []) (H := []) .nil Tryz.func45 fun es ob v nw hF hob => by
  unfold F45 at hF
  split at hF
  · rename_i n
    refine ⟨by simp [clean], by kernel_rfl, fun key => bodyM_go (rs := [.tmp 2, .tmp 3]) rfl rfl ?_⟩
    simp only [go_sem]
    refine ⟨fun h => ?_, fun h => ?_⟩
    · rw [if_neg (by omega)] at hF
      cases hF
      exact newP_none rfl
    · rw [if_pos (by omega)] at hF
      cases hF
      have hb : bytesT Tryz.prog 3 = 8 := by kernel_rfl
      have hN := newS (key := key) (N := 0) (v := fun k => .tup [.bx k 0, i64 0]) (x := 0) (n := n.toNat) (X := fun _ => 0) (r1 := 11) (r2 := 9) (m1 := [(11, fam1 100 2 [u64 0, .own 9 0 n.toNat 1] none), (9, famN n.toNat 1 3 (fun x => [i64 0]) none)]) (fun _ _ => rfl) (fun G B r hr c hc => by
        simp only [List.mem_cons, List.not_mem_nil, or_false] at hc
        rcases hc with rfl | rfl
        · exact hr
        · trivial) rfl rfl (by decide) (Nat.zero_le _) (Nat.zero_le _)
      exact ⟨by omega, by omega, by rw [hb]; omega, hN⟩
  · cases hF
end Go.Ax
end

section
/-
  Makers that are handed rows of our own: they see them ars memory to read.
-/
set_option linter.unusedSimpArgs false
set_option linter.unusedVariables false
namespace Go.Ax

/-- All rows in it are those of one key; nothing else of memory is in it. -/
def nk (key : Nat) : Nat → AV → Prop
  | _, .v _ => True
  | _, .any => True
  | _, .bx r _ => r = key
  | _, .ptr r _ _ _ _ => r = key
  | _, .own r _ _ _ => r = key
  | _, .mp r _ => r = key
  | d + 1, .agg cs => ∀ c ∈ cs, nk key d c
  | d + 1, .tup cs => ∀ c ∈ cs, nk key d c
  | _, _ => False
def famNK (key : Nat) (y : Fam) : Prop := ∀ f, ∀ j, j < (y f).n → ∀ c ∈ (y f).get j, nk key 1 c
def okN (key : Nat) : Option Fam → Prop
  | some y => famNK key y
  | none => True
theorem R.nk {w : World} {ρ ρ' : Env} {key : Nat} (hd : ρ'.dom key) (hb : ∀ f, ρ'.blk key f = ρ.blk key f) (hc : ∀ f, ρ'.cap key f = ρ.cap key f) : ∀ (d : Nat) {a : AV} {x : Value}, nk key d a → R w ρ a x → R w ρ' a x
  | d, .v y, x, _, h => by cases h; exact .v
  | d, .any, x, _, h => .any
  | d, .bx r k, x, hk, h => by
    obtain rfl : r = key := by cases d <;> exact hk
    cases h with | bx _ => rw [← hb]; exact .bx hd
  | d, .ptr r f i sz k, x, hk, h => by
    obtain rfl : r = key := by cases d <;> exact hk
    cases h with | ptr _ => rw [← hb]; exact .ptr hd
  | d, .own r f n sz, x, hk, h => by
    obtain rfl : r = key := by cases d <;> exact hk
    cases h with | own _ hn ha => rw [← hc] at hn ha ⊢; rw [← hb] at ha; exact .own hd hn ha
  | d, .mp r f, x, hk, h => by
    obtain rfl : r = key := by cases d <;> exact hk
    cases h with | mp _ hcap => rw [← hb]; exact .mp hd (by rw [hc]; exact hcap)
  | d + 1, .agg cs, x, hk, h => by
    cases h with | agg hl hh => exact .agg hl fun i a y h1 h2 => R.nk hd hb hc d (hk a (List.mem_of_getElem? h1)) (hh i a y h1 h2)
  | d + 1, .tup cs, x, hk, h => by
    cases h with | tup hl hh => exact .tup hl fun i a y h1 h2 => R.nk hd hb hc d (hk a (List.mem_of_getElem? h1)) (hh i a y h1 h2)
  | 0, .agg _, _, hk, _ => hk.elim
  | 0, .tup _, _, hk, _ => hk.elim
  | 0, .ro _ _ _, _, hk, _ => hk.elim
  | 0, .rop _, _, hk, _ => hk.elim
  | 0, .vw _ _ _ _ _, _, hk, _ => hk.elim
  | 0, .fn _ _, _, hk, _ => hk.elim
  | 0, .iface _ _, _, hk, _ => hk.elim
  | 0, .cond _ _, _, hk, _ => hk.elim
  | 0, .rm _ _, _, hk, _ => hk.elim
  | d + 1, .ro _ _ _, _, hk, _ => hk.elim
  | d + 1, .rop _, _, hk, _ => hk.elim
  | d + 1, .vw _ _ _ _ _, _, hk, _ => hk.elim
  | d + 1, .fn _ _, _, hk, _ => hk.elim
  | d + 1, .iface _ _, _, hk, _ => hk.elim
  | d + 1, .cond _ _, _, hk, _ => hk.elim
  | d + 1, .rm _ _, _, hk, _ => hk.elim

section
variable {P : Program} {f : FuncId}
noncomputable def mcKU (F : List AV → Option (List Prop × (Nat → AV) × (Nat → Option Fam))) : MCon := fun key m es => match F (es.map (purU 3 m)) with
  | some (ob, v, nw) => some ⟨es.flatMap (pgs 3 m) ++ nk key 3 (v key) :: okN key (nw key) :: ob, v key, .many [] (nw key)⟩
  | none => none
/-- What a maker may lean on of what its caller has. -/
def vwJ (ρ : Env) (m : Mem) (b : Nat) : Prop := ρ.imm b ∨ ∃ r x f, look m r = some x ∧ (x f).g ≠ some false ∧ 0 < ρ.cap r f ∧ b = ρ.blk r f
theorem view_rel {w0 : Base} {w : World} {ρ : Env} {m : Mem} {D : Nat → Prop} (hR : Rel w0 ρ m D w) : Rel w0 (.ext (vwJ ρ m)) [] (fun _ => False) w := by
  refine ⟨hR.below, fun b hb => ?_, fun r hr => hr.elim, fun r x hx => by simp [look] at hx, fun r x f hx => by simp [look] at hx, fun r x f r' x' f' hx => by simp [look] at hx, fun p hp => ?_, fun p hp => ⟨.inl (hR.kept p hp).1, (hR.kept p hp).2⟩⟩
  · have hb : vwJ ρ m b := hb
    rcases hb with hb | ⟨r, x, f, h1, h2, h3, hbe⟩
    · exact hR.imm2 b hb
    · rw [hbe]; exact ⟨hR.lt h1 h2 h3, .inr ((hR.row r x f h1 h2).2.blk h3).1⟩
  · obtain ⟨p1, p2, p3, p4⟩ := hR.fix p hp
    refine ⟨p1, fun r x f hx => by simp [look] at hx, fun hb => ?_, p4⟩
    have hb : vwJ ρ m p.1 := hb
    rcases hb with hb | ⟨r, x, f, h1, h2, h3, e⟩
    · exact p3 hb
    · exact p2 r x f h1 h2 h3 e.symm
theorem view_post {w0 : Base} {w w' : World} {ρ : Env} {m : Mem} {D : Nat → Prop} {key : Nat} {v : AV} {nw : Option Fam} {ob ob' : List Prop} {val : Value} (hR : Rel w0 ρ m D w) (hk : ¬ D key) (hnv : nk key 3 v) (hny : okN key nw)
    (hp : Post w0 (.ext (vwJ ρ m)) [] (fun _ => False) key ⟨ob, v, .many [] nw⟩ w val w') : Post w0 ρ m D key ⟨ob', v, .many [] nw⟩ w val w' := by
  obtain ⟨J, hJ⟩ : ∃ J : Nat → Prop, J = vwJ ρ m := ⟨_, rfl⟩
  rw [← hJ] at hp
  obtain ⟨ρ3, r1, r2, r3, r4⟩ := hp
  have hJi : ∀ b, ρ.imm b → J b := fun b hb => by rw [hJ]; exact .inl hb
  have hJr : ∀ r x f, look m r = some x → (x f).g ≠ some false → 0 < ρ.cap r f → J (ρ.blk r f) := fun r x f h1 h2 h3 => by rw [hJ]; exact .inr ⟨r, x, f, h1, h2, h3, rfl⟩
  have hkd : ¬ ρ.dom key := fun hd => hk (hR.dom _ hd)
  have hkl : look m key = none := by
    cases hl : look m key with
    | none => rfl
    | some y => exact absurd (hR.key _ _ hl) hk
  obtain ⟨ρ4, h4⟩ : ∃ ρ4 : Env, ρ4 = { dom := fun r => ρ.dom r ∨ r = key, blk := fun r f => if r = key then ρ3.blk key f else ρ.blk r f, cap := fun r f => if r = key then ρ3.cap key f else ρ.cap r f, imm := ρ.imm } := ⟨_, rfl⟩
  have kd : ρ4.dom key := by rw [h4]; exact .inr rfl
  have kb : ∀ f, ρ4.blk key f = ρ3.blk key f := fun f => by rw [h4]; simp
  have kc : ∀ f, ρ4.cap key f = ρ3.cap key f := fun f => by rw [h4]; simp
  have ob_ : ∀ r f, r ≠ key → ρ4.blk r f = ρ.blk r f := fun r f hr => by rw [h4]; simp [hr]
  have oc : ∀ r f, r ≠ key → ρ4.cap r f = ρ.cap r f := fun r f hr => by rw [h4]; simp [hr]
  have im : ρ4.imm = ρ.imm := by rw [h4]
  have hle : ρ.le ρ4 := ⟨fun r hr => by rw [h4]; exact .inl hr, fun r f hr => ob_ r f (fun e => hkd (e ▸ hr)), fun r f hr => oc r f (fun e => hkd (e ▸ hr)), fun b hb => by rw [im]; exact hb⟩
  have hsame : Same ρ.imm w w' := fun b hb => r4 b (hJi b hb)
  have j3 : ∀ b, J b → ρ3.imm b := fun b hb => r3.imm b hb
  have hlook : ∀ r x, look (Upd.app key m (.many [] nw)) r = some x → (r = key ∧ nw = some x) ∨ (r ≠ key ∧ look m r = some x) := fun r x hx => by
    unfold Upd.app at hx
    cases hn : nw with
    | none =>
      rw [hn] at hx
      have hx : look m r = some x := hx
      exact .inr ⟨fun e => (by rw [e, hkl] at hx; cases hx), hx⟩
    | some y =>
      rw [hn] at hx
      have hx : look (insRow key y m) r = some x := hx
      rw [look_ins hkl] at hx
      split at hx
      · rename_i e; cases hx; exact .inl ⟨e.symm, rfl⟩
      · rename_i e; exact .inr ⟨Ne.symm e, hx⟩
  have hl3 : ∀ y, nw = some y → look (Upd.app key [] (.many [] nw)) key = some y := fun y hy => by
    rw [hy]
    show look (insRow key y []) key = some y
    simp [insRow, look]
  refine ⟨ρ4, r1.nk kd kb kc 3 hnv, ⟨r2.below, fun b hb => ?_, fun r hr => ?_, fun r x hx => ?_, fun r x f hx hg => ?_, fun r x f r' x' f' hx hx' hg hg' hc hc' e => ?_, fun p hp => ?_, fun p hp => ?_⟩, hle, hsame⟩
  · rw [im] at hb
    exact ⟨(r2.imm2 b (j3 b (hJi b hb))).1, (hR.imm2 b hb).2⟩
  · rw [h4] at hr
    exact hr.imp (hR.dom r) id
  · rcases hlook r x hx with ⟨e, _⟩ | ⟨_, h⟩
    · exact .inr e
    · exact .inl (hR.key r x h)
  · rcases hlook r x hx with ⟨e, hy⟩ | ⟨hne, h⟩
    · subst e
      obtain ⟨_, q⟩ := r2.row r x f (hl3 x hy) hg
      rw [hy] at hny
      refine ⟨kd, by rw [kc]; exact q.n_le, fun hc => ?_, q.len, fun i k c v h1 h2 h3 => ?_⟩
      · rw [kc] at hc
        obtain ⟨b1, b2, o, b3, b4⟩ := q.blk hc
        rw [kb, kc, im]
        exact ⟨b1, fun hb => b2 (j3 _ (hJi _ hb)), o, b3, b4⟩
      · rw [kb] at h3
        exact (q.rel i k c v h1 h2 h3).nk kd kb kc 1 (hny f i h1 c (List.mem_of_getElem? h2))
    · obtain ⟨hd, q⟩ := hR.row r x f h hg
      exact ⟨hle.dom r hd, q.mono hd hle (fun b _ hb => by rw [im] at hb; exact hb) hsame (fun hc => r4 _ (hJr r x f h hg hc))⟩
  · rcases hlook r x hx with ⟨e1, hy⟩ | ⟨hne, h1⟩ <;> rcases hlook r' x' hx' with ⟨e2, hy'⟩ | ⟨hne', h1'⟩
    · subst e1; subst e2
      rw [kc] at hc hc'
      rw [kb, kb] at e
      exact r2.sep r' x f r' x' f' (hl3 x hy) (hl3 x' hy') hg hg' hc hc' e
    · exfalso
      subst e1
      rw [kc] at hc
      rw [oc _ _ hne'] at hc'
      rw [kb, ob_ _ _ hne'] at e
      refine r2.not_imm (hl3 x hy) hg hc ?_
      rw [e]
      exact j3 _ (hJr r' x' f' h1' hg' hc')
    · exfalso
      subst e2
      rw [kc] at hc'
      rw [oc _ _ hne] at hc
      rw [kb, ob_ _ _ hne] at e
      refine r2.not_imm (hl3 x' hy') hg' hc' ?_
      rw [← e]
      exact j3 _ (hJr r x f h1 hg hc)
    · rw [oc _ _ hne] at hc
      rw [oc _ _ hne'] at hc'
      rw [ob_ _ _ hne, ob_ _ _ hne'] at e
      exact hR.sep r x f r' x' f' h1 h1' hg hg' hc hc' e
  · obtain ⟨p1, p2, p3, p4⟩ := hR.fix p hp
    obtain ⟨q1, q2, q3, q4⟩ := r2.fix p hp
    refine ⟨p1, fun r x f hx hg hc e => ?_, by rw [im]; exact p3, q4⟩
    rcases hlook r x hx with ⟨e1, hy⟩ | ⟨hne, h1⟩
    · subst e1
      rw [kc] at hc
      rw [kb] at e
      exact q2 r x f (hl3 x hy) hg hc e
    · rw [oc _ _ hne] at hc
      rw [ob_ _ _ hne] at e
      exact p2 r x f h1 hg hc e
  · rw [im]
    exact ⟨(hR.kept p hp).1, (r2.kept p hp).2⟩
theorem view_conv {F0 : List AV → Option (List Prop × (Nat → AV) × (Nat → Option Fam))} (h : ∀ es ob v nw, F0 es = some (ob, v, nw) → (∀ p ∈ ob, p) → ∃ F es' ob', MConOK P f (mcK F) ∧ (∀ w I vs, Rs w (.ext I) es vs → Rs w (.ext I) es' vs) ∧ F es' = some (ob', v, nw) ∧ ∀ p ∈ ob', p) : MConOK P f (mcKU F0) := by
  intro w0 ρ m m' D w key aas vs e hR hk hm hRs hc hob _
  unfold Ax.mcKU at hc
  split at hc
  · rename_i ob v nw hF
    cases hc
    have hs' : Rs w (.ext (vwJ ρ m)) (aas.map (purU 3 m')) vs := purUs_sound (J := vwJ ρ m) (hR.sub hm fun _ h => h) (fun b hb => .inl hb) (fun r x f h1 h2 h3 => .inr ⟨r, x, f, hm _ _ h1, h2, h3, rfl⟩) (fun p hp => hob p (List.mem_append_left _ hp)) hRs
    obtain ⟨F, es', ob', h, hcv, hFe, hob'⟩ := h _ _ _ _ hF fun p hp => hob p (List.mem_append_right _ (by simp [hp]))
    have hnv : nk key 3 (v key) := hob _ (List.mem_append_right _ (by simp))
    have hny : okN key (nw key) := hob _ (List.mem_append_right _ (by simp))
    exact (h w0 (.ext (vwJ ρ m)) [] [] (fun _ => False) w key es' vs ⟨ob', v key, .many [] (nw key)⟩ (view_rel hR) (fun h => h) (fun _ _ h => h) (hcv _ _ _ hs') (by unfold Ax.mcK; rw [hFe]) hob' ⟨_, _, rfl⟩).mono fun val w' hp => view_post hR hk hnv hny hp
  · cases hc
variable {G : Ctx} {H : Hots} {fn : Func}
open Classical in
/-- The body is walked on other names of the same values. -/
theorem MConOK.mkU (hG : CtxOK P G) (hf : P.funcs[f]? = some fn) {F0 : List AV → Option (List Prop × (Nat → AV) × (Nat → Option Fam))} (h : ∀ es ob v nw, F0 es = some (ob, v, nw) → (∀ p ∈ ob, p) → ∃ es', (∀ w I vs, Rs w (.ext I) es vs → Rs w (.ext I) es' vs) ∧ (∀ a ∈ es', clean 3 a = true) ∧ funcOK P H fn es'.length = true ∧ ∀ key, bodyM P G H fn es' [] 0 fun a m1 => NewP key 0 a m1 (v key) (nw key)) : MConOK P f (Ax.mcKU F0) := by
  refine view_conv fun es ob v nw hF hob => ?_
  obtain ⟨es', h1, h2, h3, h4⟩ := h es ob v nw hF hob
  refine ⟨fun l => if l = es' then some ([], v, nw) else none, es', [], MConOK.mcK (H := H) hG hf fun l ob2 v2 nw2 h5 _ => ?_, h1, if_pos rfl, fun p hp => by simp at hp⟩
  split at h5
  · rename_i e
    subst e
    cases h5
    exact ⟨h2, h3, h4⟩
  · cases h5
end
end Go.Ax
end

section
/-
  The program's table of slots: Copy.
-/
set_option linter.unusedVariables false
set_option linter.unusedSimpArgs false
set_option maxHeartbeats 4000000
set_option maxRecDepth 100000
namespace Go.Ax
open Go.Proofs
def mcUf (key : Nat) (ps : List Prop) : Option (List Prop × (Nat → AV) × (Nat → Option Fam)) → Option Eff
  | some (ob, v, nw) => some ⟨ps ++ nk key 3 (v key) :: okN key (nw key) :: ob, v key, .many [] (nw key)⟩
  | none => none
theorem mcKU_eq {F : List AV → Option (List Prop × (Nat → AV) × (Nat → Option Fam))} {key : Nat} {m : Mem} {es : List AV} : mcKU F key m es = mcUf key (pgsL 3 m es) (F (purUL 3 m es)) := by
  rw [← purUL_eq, ← pgsL_eq]
  unfold mcKU mcUf
  split <;> rename_i h <;> first | rw [h] | rfl
theorem mcUf_some {key : Nat} {ps ob : List Prop} {v : Nat → AV} {nw : Nat → Option Fam} : mcUf key ps (some (ob, v, nw)) = some ⟨ps ++ nk key 3 (v key) :: okN key (nw key) :: ob, v key, .many [] (nw key)⟩ := (rfl)
theorem okN_some {key : Nat} {y : Fam} : okN key (some y) = famNK key y := (rfl)
theorem okN_none {key : Nat} : okN key none = True := (rfl)
theorem nk_v {key d : Nat} {x : Value} : nk key d (.v x) = True := by cases d <;> rfl
theorem nk_bx {key d r k : Nat} : nk key d (.bx r k) = (r = key) := by cases d <;> rfl
theorem nk_own {key d r f n sz : Nat} : nk key d (.own r f n sz) = (r = key) := by cases d <;> rfl
def nkL (key d : Nat) : List AV → Prop
  | [] => True
  | a :: l => nk key d a ∧ nkL key d l
theorem nkL_eq {key d : Nat} : ∀ {l : List AV}, (∀ c ∈ l, nk key d c) = nkL key d l
  | [] => by simp [nkL]
  | a :: l => by rw [nkL, ← nkL_eq]; simp
theorem nkL_nil {key d : Nat} : nkL key d [] = True := (rfl)
theorem nkL_cons {key d : Nat} {a : AV} {l : List AV} : nkL key d (a :: l) = (nk key d a ∧ nkL key d l) := (rfl)
theorem nk_tup {key d : Nat} {l : List AV} : nk key (d + 1) (.tup l) = nkL key d l := by rw [← nkL_eq]; rfl
theorem nk_agg {key d : Nat} {l : List AV} : nk key (d + 1) (.agg l) = nkL key d l := by rw [← nkL_eq]; rfl
theorem famNK_ints {key n sz : Nat} {ty : TypeId} {X : Nat → Int} {g : Option Bool} : famNK key (famN n sz ty (fun i => [i64 (X i)]) g) = True := eq_true fun f j hj c hc => by
  match f with
  | 0 =>
    have hc : c ∈ [i64 (X j)] := hc
    simp only [List.mem_cons, List.not_mem_nil, or_false] at hc
    subst hc; trivial
  | f + 1 => have hj : j < 0 := hj; omega
theorem famNK_S {key : Nat} {x : Int} {n : Nat} {X : Nat → Int} : famNK key (slF key ⟨x, n, X, noRows⟩) = True := eq_true fun f j hj c hc => by
  match f with
  | 0 =>
    have hc : c ∈ [u64 x, .own key 1 n 1] := hc
    simp only [List.mem_cons, List.not_mem_nil, or_false] at hc
    rcases hc with rfl | rfl
    · trivial
    · rfl
  | 1 =>
    have hc : c ∈ [i64 (X j)] := hc
    simp only [List.mem_cons, List.not_mem_nil, or_false] at hc
    subst hc; trivial
  | f + 2 => have hj : j < 0 := hj; omega
attribute [go_sem] mcKU_eq mcUf_some okN_some okN_none nk_v nk_bx nk_own nkL_nil nkL_cons nk_tup nk_agg famNK_ints famNK_S
theorem newN {key N r n sz : Nat} {ty : TypeId} {get get' : Nat → List AV} {m1 : Mem} (h : look m1 r = some (famN n sz ty get none)) (hN : N ≤ r) (hc : ∀ j, j < n → get' j = get j ∧ ∀ c ∈ get j, clean 3 c = true) : NewP key N (.own r 0 n sz) m1 (.own key 0 n sz) (some (famN n sz ty get' none)) := by
  refine newP_list [(r, 0)] (by simp) (by simp [hN]) (.inr (by simp [ixP, sgP])) (fun ks hks => ?_) (fun ks hks f r' g hf => ?_) (fun f hf => ?_)
  · show AV.own key 0 n sz = AV.own (thL ks key (ixP [(r, 0)]) r 0).1 (thL ks key (ixP [(r, 0)]) r 0).2 n sz
    simp only [thL]
    rw [if_neg (by omega)]
    simp [ixP]
  · match f, hf with
    | 0, hf =>
      cases hf
      refine ⟨_, h, ⟨rfl, rfl, rfl, rfl, fun j hj => ?_⟩, by simp [famN]⟩
      obtain ⟨h1, h2⟩ := hc j hj
      obtain ⟨k1, k2⟩ := cleans_ren (θ := thL ks key (ixP [(r, 0)])) (g := newG N (sgP [(r, 0)]) (ixP [(r, 0)])) (B := newB N (sgP [(r, 0)])) h2
      exact ⟨by show get' j = (get j).map _; rw [h1, k1], k2⟩
    | f + 1, hf => simp at hf
  · match f, hf with
    | f + 1, _ => rfl
def F91 : List AV → Option (List Prop × (Nat → AV) × (Nat → Option Fam))
  | [.ro n 1 g] => some ([0 < n, n ≤ 64, ints n g], fun k => .own k 0 n 1, fun k => some (famN n 1 3 (fun i => [i64 (gx g 0 i)]) none))
  | _ => none
noncomputable def mN91 : MCon := mcKU F91
theorem mN91_eq : mN91 = mcKU F91 := (rfl)
attribute [go_sem] mN91_eq
theorem mon91 : MConOK Tryz.prog 91 mN91 := MConOK.mkU (G := []) (H := []) .nil Tryz.func91 fun es ob v nw hF hob => by
  unfold F91 at hF
  split at hF
  · rename_i n g
    cases hF
    have h2 : 0 < n := hob _ (by simp)
    have h3 : ints n g := hob _ (by simp)
    refine ⟨[.ro n 1 fun i => [i64 (gx g 0 i)]], fun w I vs hR => ?_, by simp [clean], by kernel_rfl, fun key => bodyM_go (rs := [.tmp 2]) rfl rfl ?_⟩
    · obtain ⟨y, ys, rfl, k1, k2⟩ := hR.inv
      exact .cons (ro_alike (fun i hi => h3 i hi) k1) k2
    simp only [go_sem, h2]
    have h64 : n ≤ 64 := hob _ (by simp)
    have hb : bytesT Tryz.prog 3 = 8 := by kernel_rfl
    rw [hb, Nat.zero_add]
    exact ⟨okCells_all fun i => rfl, by omega, by omega, newN rfl (Nat.zero_le _) fun j hj => ⟨rfl, fun c hc => by
      have hc : c ∈ [i64 (gi (g j) 0)] := hc
      simp only [List.mem_cons, List.not_mem_nil, or_false] at hc
      subst hc; rfl⟩⟩
  · cases hF
def F42 : List AV → Option (List Prop × (Nat → AV) × (Nat → Option Fam))
  | [.rop [.v (.int .u64 x), .ro n 1 g]] => some ([0 < n, n ≤ 64, ints n g], fun k => .bx k 0, fun k => some (slF k ⟨x, n, gx g 0, noRows⟩))
  | _ => none
noncomputable def mN42 : MCon := mcKU F42
theorem mN42_eq : mN42 = mcKU F42 := (rfl)
attribute [go_sem] mN42_eq
theorem mon42 : MConOK Tryz.prog 42 mN42 := MConOK.mkU (G := [(87, c87), (91, .wr mN91)]) (H := []) (.cons con87 (.mcons mon91 .nil)) Tryz.func42 fun es ob v nw hF hob => by
  unfold F42 at hF
  split at hF
  · rename_i x n g
    cases hF
    have h2 : 0 < n := hob _ (by simp)
    have h64 : n ≤ 64 := hob _ (by simp)
    have h3 : ints n g := hob _ (by simp)
    refine ⟨[slR x n (gx g 0)], fun w I vs hR => ?_, by simp [clean], by kernel_rfl, fun key => bodyM_go (rs := [.tmp 2]) rfl rfl ?_⟩
    · obtain ⟨y, ys, rfl, k1, k2⟩ := hR.inv
      exact .cons (R_slots h3 k1) k2
    simp only [go_sem, c87, F91, h2, ints_can, gx_int]
    intro z hz
    refine ⟨fun h => ?_, fun _ => ⟨h64, newS (v := fun k => .bx k 0) (X := fun i => gi (g i) 0) (r2 := 11) (fun _ _ => rfl) (fun G B r hr => hr) rfl rfl (by decide) (Nat.zero_le _) (Nat.zero_le _)⟩⟩
    rw [h] at hz
    have : n = 0 := by simpa using hz.symm
    omega
  · cases hF
end Go.Ax
end

section
/-
  The program's sweep, ars an object; what writes it.
-/
set_option linter.unusedVariables false
set_option linter.unusedSimpArgs false
set_option maxHeartbeats 4000000
set_option maxRecDepth 100000
namespace Go.Ax
open Go.Proofs
structure SwS where
  L : Ents
  tl : Fam
noncomputable def swF (K : Nat) (s : SwS) : Fam := famR [⟨1, 1, 103, fun _ => [.mp K 1], none⟩, mapR 4 s.L] s.tl
theorem swF_inj {K : Nat} {s t : SwS} (h : swF K s = swF K t) : s = t := by
  obtain ⟨L, tl⟩ := s
  obtain ⟨L', tl'⟩ := t
  have h1 := congrFun h 1
  simp only [swF, famR_1, mapR, Row.mk.injEq, true_and, and_true] at h1
  obtain rfl := mapTy_inj h1
  have e2 : tl = tl' := by
    funext f
    exact congrFun h (f + 2)
  rw [e2]
theorem swF_ren {s : SwS} (h : tlOK s.tl) {θ : Nat → Nat → Nat × Nat} {g : Nat → Nat → Prop} {B : Nat → Prop} {i K : Nat} (hθ : ∀ f, θ i f = (K, f)) (hg : ∀ f, g i f) (f : Nat) : rowRen θ g B (swF i s f) (swF K s f) := by
  match f with
  | 0 =>
    refine ⟨rfl, rfl, rfl, rfl, fun j hj => ⟨?_, fun c hc => ?_⟩⟩
    · show [AV.mp K 1] = [AV.mp (θ i 1).1 (θ i 1).2]
      rw [hθ]
    · have hc : c ∈ [AV.mp i 1] := hc
      simp only [List.mem_cons, List.not_mem_nil, or_false] at hc
      subst hc
      exact hg 1
  | 1 => exact ⟨rfl, rfl, rfl, rfl, fun j hj => by have hj : j < 0 := hj; omega⟩
  | f + 2 => exact rowRen_tl h f
noncomputable def oW : Obj SwS where
  fm := swF
  ok s := tlOK s.tl
  inj _ _ _ h := swF_inj h
  ren _ h _ _ _ _ _ h1 h2 f := swF_ren h h1 h2 f
  gn K s h f := match f with
    | 0 => rfl
    | 1 => rfl
    | f + 2 => (h f).1
theorem oW_fm {K : Nat} {s : SwS} : oW.fm K s = swF K s := (rfl)
theorem at_W {K : Nat} {m : Mem} {x : SwS} : oW.at K m (some x) = (look m K = some (swF K x)) := (rfl)
theorem mcOe_W {F : OFun SwS} {K key : Nat} {rest : List AV} {L : Ents} {tl : Fam} : mcOe oW F K key rest (some (famR [⟨1, 1, 103, fun _ => [.mp K 1], none⟩, mapR 4 L] tl)) = mcOf oW K key ⟨L, tl⟩ (F ⟨L, tl⟩ rest) := mcOe_fm (O := oW) (x := ⟨L, tl⟩)
theorem fam_W {K : Nat} {s : SwS} : oW.fam K (some s) = famR [⟨1, 1, 103, fun _ => [.mp K 1], none⟩, mapR 4 s.L] s.tl := (rfl)
theorem ok_W {s : SwS} : oW.ok s = tlOK s.tl := (rfl)
theorem okO_W {s : SwS} : oW.okO (some s) = tlOK s.tl := (rfl)
attribute [go_sem] mcOe_W fam_W ok_W okO_W tlOK_no
def putE (L : Ents) (i a b c d : Int) : Int := if i < 0 ∨ 2147483647 < i then 3 else if checkBoxS a b c d ≠ 0 then checkBoxS a b c d else if (memSel L i).isSome = true then 11 else if 256 ≤ (L.length : Int) then 10 else 0
def movE (L : Ents) (i a b c d : Int) : Int := if i < 0 ∨ 2147483647 < i then 3 else if checkBoxS a b c d ≠ 0 then checkBoxS a b c d else if (memSel L i).isSome = true then 0 else 9
def drpE (L : Ents) (i : Int) : Int := if i < 0 ∨ 2147483647 < i then 3 else if (memSel L i).isSome = true then 0 else 9
def putW (s : SwS) (i a b c d : Int) : SwS := if putE s.L i a b c d = 0 then ⟨memPut s.L i [a, b, c, d], s.tl⟩ else s
def movW (s : SwS) (i a b c d : Int) : SwS := if movE s.L i a b c d = 0 then ⟨memPut s.L i [a, b, c, d], s.tl⟩ else s
def drpW (s : SwS) (i : Int) : SwS := if drpE s.L i = 0 then ⟨memDel s.L i, s.tl⟩ else s
def F19 : OFun SwS := fun s rest => match rest with
  | [.v (.int .i64 i), .agg [.v (.int .i64 a), .v (.int .i64 b), .v (.int .i64 c), .v (.int .i64 d)]] => some ([inR a, inR b, inR c, inR d], fun _ => i64 (putE s.L i a b c d), some (putW s i a b c d), fun _ => none)
  | _ => none
noncomputable def m19 : MCon := mcO oW F19
theorem mon19 : MConOK Tryz.prog 19 m19 := MConOK.mcO (G := [(63, c63), (64, c64)]) (H := []) (.cons con63 (.cons con64 .nil)) Tryz.func19 fun s rest ob v x' nw hF hok hok' hob => by
  unfold F19 at hF
  split at hF
  · rename_i i a b c d
    cases hF
    have ha : inR a := hob _ (by simp)
    have hb : inR b := hob _ (by simp)
    have hc : inR c := hob _ (by simp)
    have hd : inR d := hob _ (by simp)
    clear hok' hob
    refine ⟨by simp [clean, cleanCs, cleanC], by kernel_rfl, fun key => bodyM_go (rs := [.tmp 6]) rfl rfl ?_⟩
    obtain ⟨L, tl⟩ := s
    have htl : tlOK tl := hok
    simp only [oW_fm, swF, go_sem, c63, c64, ha, hb, hc, hd]
    have fin : ∀ (e : Int) (m1 : Mem), putE L i a b c d = e → look m1 0 = some (swF 0 ⟨if e = 0 then memPut L i [a, b, c, d] else L, tl⟩) → oW.at 0 m1 (some (putW ⟨L, tl⟩ i a b c d)) ∧ NewP key 1 (i64 e) m1 (i64 (putE L i a b c d)) none := fun e m1 he hl => by
      refine ⟨?_, by rw [he]; exact newP_none rfl⟩
      rw [at_W, hl]
      unfold putW
      dsimp only
      rw [he]
      split <;> rfl
    intro z hz
    refine ⟨fun hn => ?_, fun h0 => ?_⟩
    · have hn : z ≠ 0 := by simpa using hn
      have hr : i < 0 ∨ 2147483647 < i := Classical.byContradiction fun h => hn (by rw [hz, if_neg h])
      refine fin z _ (by unfold putE; rw [if_pos hr, hz, if_pos hr]) ?_
      rw [if_neg hn]; rfl
    have h0 : z = 0 := by simpa using h0
    have hr : ¬ (i < 0 ∨ 2147483647 < i) := fun h => by rw [hz, if_pos h] at h0; cases h0
    intro z2 hz2
    refine ⟨fun hn => ?_, fun h2 => ?_⟩
    · have hn : z2 ≠ 0 := by simpa using hn
      refine fin z2 _ (by unfold putE; rw [if_neg hr, if_pos (by rw [← hz2]; exact hn), hz2]) ?_
      rw [if_neg hn]; rfl
    have h2 : ¬ checkBoxS a b c d ≠ 0 := fun h => by
      rw [← hz2] at h
      exact h (by simpa using h2)
    refine ⟨fun h3 => fin 11 _ (by unfold putE; rw [if_neg hr, if_neg h2, if_pos h3]) rfl, fun h3 => ?_⟩
    have h3 : ¬ (memSel L i).isSome = true := by rw [h3]; decide
    refine ⟨fun h4 => fin 10 _ (by unfold putE; rw [if_neg hr, if_neg h2, if_neg h3, if_pos h4]) rfl, fun h4 => ?_⟩
    refine ⟨by omega, by omega, fin 0 _ (by unfold putE; rw [if_neg hr, if_neg h2, if_neg h3, if_neg h4]) rfl⟩
  · cases hF
def F17 : OFun SwS := fun s rest => match rest with
  | [.v (.int .i64 i), .agg [.v (.int .i64 a), .v (.int .i64 b), .v (.int .i64 c), .v (.int .i64 d)]] => some ([inR a, inR b, inR c, inR d], fun _ => i64 (movE s.L i a b c d), some (movW s i a b c d), fun _ => none)
  | _ => none
noncomputable def m17 : MCon := mcO oW F17
theorem mon17 : MConOK Tryz.prog 17 m17 := MConOK.mcO (G := [(63, c63), (64, c64)]) (H := []) (.cons con63 (.cons con64 .nil)) Tryz.func17 fun s rest ob v x' nw hF hok hok' hob => by
  unfold F17 at hF
  split at hF
  · rename_i i a b c d
    cases hF
    have ha : inR a := hob _ (by simp)
    have hb : inR b := hob _ (by simp)
    have hc : inR c := hob _ (by simp)
    have hd : inR d := hob _ (by simp)
    clear hok' hob
    refine ⟨by simp [clean, cleanCs, cleanC], by kernel_rfl, fun key => bodyM_go (rs := [.tmp 6]) rfl rfl ?_⟩
    obtain ⟨L, tl⟩ := s
    have htl : tlOK tl := hok
    simp only [oW_fm, swF, go_sem, c63, c64, ha, hb, hc, hd]
    have fin : ∀ (e : Int) (m1 : Mem), movE L i a b c d = e → look m1 0 = some (swF 0 ⟨if e = 0 then memPut L i [a, b, c, d] else L, tl⟩) → oW.at 0 m1 (some (movW ⟨L, tl⟩ i a b c d)) ∧ NewP key 1 (i64 e) m1 (i64 (movE L i a b c d)) none := fun e m1 he hl => by
      refine ⟨?_, by rw [he]; exact newP_none rfl⟩
      rw [at_W, hl]
      unfold movW
      dsimp only
      rw [he]
      split <;> rfl
    intro z hz
    refine ⟨fun hn => ?_, fun h0 => ?_⟩
    · have hn : z ≠ 0 := by simpa using hn
      have hr : i < 0 ∨ 2147483647 < i := Classical.byContradiction fun h => hn (by rw [hz, if_neg h])
      refine fin z _ (by unfold movE; rw [if_pos hr, hz, if_pos hr]) ?_
      rw [if_neg hn]; rfl
    have h0 : z = 0 := by simpa using h0
    have hr : ¬ (i < 0 ∨ 2147483647 < i) := fun h => by rw [hz, if_pos h] at h0; cases h0
    intro z2 hz2
    refine ⟨fun hn => ?_, fun h2 => ?_⟩
    · have hn : z2 ≠ 0 := by simpa using hn
      refine fin z2 _ (by unfold movE; rw [if_neg hr, if_pos (by rw [← hz2]; exact hn), hz2]) ?_
      rw [if_neg hn]; rfl
    have h2 : ¬ checkBoxS a b c d ≠ 0 := fun h => by
      rw [← hz2] at h
      exact h (by simpa using h2)
    refine ⟨fun h3 => ?_, fun h3 => ?_⟩
    · have h3 : ¬ (memSel L i).isSome = true := by rw [h3]; decide
      exact fin 9 _ (by unfold movE; rw [if_neg hr, if_neg h2, if_neg h3]) rfl
    · exact ⟨by omega, by omega, fin 0 _ (by unfold movE; rw [if_neg hr, if_neg h2, if_pos h3]) rfl⟩
  · cases hF
def F18 : OFun SwS := fun s rest => match rest with
  | [.v (.int .i64 i)] => some ([], fun _ => i64 (drpE s.L i), some (drpW s i), fun _ => none)
  | _ => none
noncomputable def m18 : MCon := mcO oW F18
theorem mon18 : MConOK Tryz.prog 18 m18 := MConOK.mcO (G := [(63, c63)]) (H := []) (.cons con63 .nil) Tryz.func18 fun s rest ob v x' nw hF hok hok' hob => by
  unfold F18 at hF
  split at hF
  · rename_i i
    cases hF
    clear hok' hob
    refine ⟨by simp [clean, cleanCs, cleanC], by kernel_rfl, fun key => bodyM_go (rs := [.tmp 4]) rfl rfl ?_⟩
    obtain ⟨L, tl⟩ := s
    have htl : tlOK tl := hok
    simp only [oW_fm, swF, go_sem, c63]
    have fin : ∀ (e : Int) (m1 : Mem), drpE L i = e → look m1 0 = some (swF 0 ⟨if e = 0 then memDel L i else L, tl⟩) → oW.at 0 m1 (some (drpW ⟨L, tl⟩ i)) ∧ NewP key 1 (i64 e) m1 (i64 (drpE L i)) none := fun e m1 he hl => by
      refine ⟨?_, by rw [he]; exact newP_none rfl⟩
      rw [at_W, hl]
      unfold drpW
      dsimp only
      rw [he]
      split <;> rfl
    intro z hz
    refine ⟨fun hn => ?_, fun h0 => ?_⟩
    · have hn : z ≠ 0 := by simpa using hn
      have hr : i < 0 ∨ 2147483647 < i := Classical.byContradiction fun h => hn (by rw [hz, if_neg h])
      refine fin z _ (by unfold drpE; rw [if_pos hr, hz, if_pos hr]) ?_
      rw [if_neg hn]; rfl
    have h0 : z = 0 := by simpa using h0
    have hr : ¬ (i < 0 ∨ 2147483647 < i) := fun h => by rw [hz, if_pos h] at h0; cases h0
    refine ⟨fun h3 => ?_, fun h3 => ?_⟩
    · have h3 : ¬ (memSel L i).isSome = true := by rw [h3]; decide
      exact fin 9 _ (by unfold drpE; rw [if_neg hr, if_neg h3]) rfl
    · exact fin 0 _ (by unfold drpE; rw [if_neg hr, if_pos h3]) rfl
  · cases hF
theorem famNK_W {key : Nat} {L : Ents} : famNK key (swF key ⟨L, noRows⟩) = True := eq_true fun f j hj c hc => by
  match f with
  | 0 =>
    have hc : c ∈ [AV.mp key 1] := hc
    simp only [List.mem_cons, List.not_mem_nil, or_false] at hc
    subst hc; rfl
  | 1 => have hj : j < 0 := hj; omega
  | f + 2 => have hj : j < 0 := hj; omega
attribute [go_sem] famNK_W
theorem newW {key N r1 r2 : Nat} {L : Ents} {m1 : Mem} {v : Nat → AV} (hv : ∀ θ r, renA θ 3 (v r) = v (θ r 0).1) (hk : ∀ G B r, B r → kg G B 3 (v r)) (h1 : look m1 r1 = some (fam1 103 1 [.mp r2 0] none)) (h2 : look m1 r2 = some (famMap 4 L none)) (hne : r1 ≠ r2) (N1 : N ≤ r1) (N2 : N ≤ r2) : NewP key N (v r1) m1 (v key) (some (swF key ⟨L, noRows⟩)) := by
  have ix1 : ixP [(r1, 0), (r2, 0)] r1 0 = 0 := by simp [ixP]
  have ix2 : ixP [(r1, 0), (r2, 0)] r2 0 = 1 := by simp [ixP, hne]
  refine newP_list [(r1, 0), (r2, 0)] (by simp [hne]) (by simp [N1, N2]) (hk _ _ _ (.inr rfl)) (fun ks hks => ?_) (fun ks hks f r g hf => ?_) (fun f hf => ?_)
  · rw [hv]
    simp only [thL]
    rw [if_neg (by omega)]
  · match f, hf with
    | 0, hf =>
      cases hf
      refine ⟨_, h1, ⟨rfl, rfl, rfl, rfl, fun j hj => ⟨?_, fun c hc => ?_⟩⟩, by simp [fam1]⟩
      · show [AV.mp key 1] = [AV.mp (thL ks key (ixP [(r1, 0), (r2, 0)]) r2 0).1 (thL ks key (ixP [(r1, 0), (r2, 0)]) r2 0).2]
        simp only [thL]
        rw [if_neg (by omega), ix2]
      · have hc : c ∈ [AV.mp r2 0] := hc
        simp only [List.mem_cons, List.not_mem_nil, or_false] at hc
        subst hc
        exact .inr (by rw [ix2]; rfl)
    | 1, hf =>
      cases hf
      exact ⟨_, h2, ⟨rfl, rfl, rfl, rfl, fun j hj => by have hj : j < 0 := hj; omega⟩, by simp [famMap]⟩
    | f + 2, hf => simp at hf
  · match f, hf with
    | f + 2, _ => rfl
noncomputable def F28 : List AV → Option (List Prop × (Nat → AV) × (Nat → Option Fam))
  | [] => some ([], fun k => .bx k 0, fun k => some (swF k ⟨[], noRows⟩))
  | _ => none
noncomputable def mN28 : MCon := mcKU F28
theorem mN28_eq : mN28 = mcKU F28 := (rfl)
attribute [go_sem] mN28_eq
theorem mon28 : MConOK Tryz.prog 28 mN28 := MConOK.mkU (G := []) (H := []) .nil Tryz.func28 fun es ob v nw hF hob => by
  unfold F28 at hF
  split at hF
  · cases hF
    refine ⟨[], fun w I vs hR => hR, by simp, by kernel_rfl, fun key => bodyM_go (rs := [.tmp 0]) rfl rfl ?_⟩
    simp only [go_sem]
    exact newW (v := fun k => .bx k 0) (r2 := 1) (fun _ _ => rfl) (fun G B r hr => hr) rfl rfl (by decide) (Nat.zero_le _) (Nat.zero_le _)
  · cases hF
end Go.Ax
end
