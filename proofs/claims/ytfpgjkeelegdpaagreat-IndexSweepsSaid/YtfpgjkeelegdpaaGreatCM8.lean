/-
  The laws' tables: told.
-/
import Derived.Test.YtfpgjkeelegdpaaGreatCM7
import Derived.ShutString
import Derived.ChangeOld
import Derived.Below
section
set_option linter.unusedVariables false
set_option linter.unusedSimpArgs false
set_option maxHeartbeats 4000000
set_option maxRecDepth 100000
namespace Go.Ax
open Go.Proofs
/-- What a number says. -/
def tdK (X : Nat → Int) (i : Nat) : Nat := (modS (X i) 1048576).toNat
def tdN (most : Int) : Nat := (1 + modS most 64).toNat
def tdAt (n : Nat) (X : Nat → Int) : Nat → TdS
  | 0 => td0 n
  | i + 1 => tdStep n (tdAt n X i) (tdK X i)
def c38g (z : Int × Int) : Option (List Prop × Nat × (Nat → Int × Int)) → Option (List Prop × AV)
  | some (ob, n, X) => some (c38f n X z ob)
  | none => none
theorem c38_eq {a : AV} {z1 z2 : Int} : c38 [a, .agg [i64 z1, i64 z2]] = c38g (z1, z2) (roP a) := by
  show (match roP a with
    | some (ob, n, X) => some (c38f n X (z1, z2) ob)
    | none => none) = _
  unfold c38g
  cases roP a <;> rfl
theorem c38g_some {z : Int × Int} {ob : List Prop} {n : Nat} {X : Nat → Int × Int} : c38g z (some (ob, n, X)) = some ((n ≤ 100000) :: ob, bo (decide (z ∈ lP n X))) := (rfl)
attribute [go_sem] c38_eq c38g_some
abbrev tdA (K : Nat) (t : TdS) : AV := .agg [.bx K 0, .own K 2 t.live.length 2, .own K 3 t.given.length 2, bo true]
def tdF (K : Nat) (t : TdS) : Fam := slF K { t.s with tl := famR [⟨t.live.length, 2, 64, lsF t.live, none⟩, ⟨t.given.length, 2, 64, lsF t.given, none⟩] noRows }
def F34f (most : Int) : Option (List Prop × Nat × (Nat → Int)) → Option (List Prop × (Nat → AV) × (Nat → Option Fam))
  | some (ob, k, X) => some ((k ≤ 1000) :: inR most :: (∀ i, inR (X i)) :: ob, fun K => tdA K (tdAt (tdN most) X k), fun K => some (tdF K (tdAt (tdN most) X k)))
  | none => none
def F34 : List AV → Option (List Prop × (Nat → AV) × (Nat → Option Fam))
  | [.v (.int .i64 most), nums] => F34f most (roI nums)
  | _ => none
noncomputable def mN34 : MCon := mcKU F34
theorem mN34_eq : mN34 = mcKU F34 := (rfl)
attribute [go_sem] mN34_eq
end Go.Ax
end

section
/-
  The laws' tables: what is in them.
-/
set_option linter.unusedVariables false
set_option linter.unusedSimpArgs false
set_option maxHeartbeats 4000000
set_option maxRecDepth 100000
namespace Go.Ax
open Go.Proofs
theorem F34_eq {most : Int} {n : Nat} {g : Nat → List AV} : F34 [i64 most, .ro n 1 g] = some ((n ≤ 1000) :: inR most :: (∀ i, inR (gx g 0 i)) :: [ints n g], fun K => tdA K (tdAt (tdN most) (gx g 0) n), fun K => some (tdF K (tdAt (tdN most) (gx g 0) n))) := (rfl)
theorem tdF_eq {K : Nat} {t : TdS} : tdF K t = famR [⟨1, 2, 100, fun _ => [u64 t.s.x, .own K 1 t.s.n 1], none⟩, ⟨t.s.n, 1, 3, fun i => [i64 (t.s.G i)], none⟩] (famR [⟨t.live.length, 2, 64, lsF t.live, none⟩, ⟨t.given.length, 2, 64, lsF t.given, none⟩] noRows) := (rfl)
theorem famNK_td {K : Nat} {t : TdS} : famNK K (tdF K t) = True := eq_true fun f j hj c hc => by
  match f with
  | 0 =>
    have hc : c ∈ [u64 t.s.x, .own K 1 t.s.n 1] := hc
    simp only [List.mem_cons, List.not_mem_nil, or_false] at hc
    rcases hc with rfl | rfl
    · trivial
    · rfl
  | 1 =>
    have hc : c ∈ [i64 (t.s.G j)] := hc
    simp only [List.mem_cons, List.not_mem_nil, or_false] at hc
    subst hc; trivial
  | 2 =>
    have hc : c ∈ lsF t.live j := hc
    simp only [lsF, List.mem_cons, List.not_mem_nil, or_false] at hc
    rcases hc with rfl | rfl <;> trivial
  | 3 =>
    have hc : c ∈ lsF t.given j := hc
    simp only [lsF, List.mem_cons, List.not_mem_nil, or_false] at hc
    rcases hc with rfl | rfl <;> trivial
  | f + 4 => have hj : j < 0 := hj; omega
theorem famNK_td' {K : Nat} {t : TdS} : famNK K (famR [⟨1, 2, 100, fun _ => [u64 t.s.x, .own K 1 t.s.n 1], none⟩, ⟨t.s.n, 1, 3, fun i => [i64 (t.s.G i)], none⟩] (famR [⟨t.live.length, 2, 64, lsF t.live, none⟩, ⟨t.given.length, 2, 64, lsF t.given, none⟩] noRows)) = True := famNK_td
theorem tlOK_td {t : TdS} : tlOK (famR [⟨t.live.length, 2, 64, lsF t.live, none⟩, ⟨t.given.length, 2, 64, lsF t.given, none⟩] noRows) = True := eq_true fun f => match f with
  | 0 => ⟨rfl, fun j hj c hc => by
    have hc : c ∈ lsF t.live j := hc
    simp only [lsF, List.mem_cons, List.not_mem_nil, or_false] at hc
    rcases hc with rfl | rfl <;> rfl⟩
  | 1 => ⟨rfl, fun j hj c hc => by
    have hc : c ∈ lsF t.given j := hc
    simp only [lsF, List.mem_cons, List.not_mem_nil, or_false] at hc
    rcases hc with rfl | rfl <;> rfl⟩
  | f + 2 => ⟨rfl, fun j hj => by have hj : j < 0 := hj; omega⟩
theorem c15_eq : c15 [] = some ([], bo true) := (rfl)
attribute [go_sem] F34_eq tdF_eq famNK_td' tlOK_td c15_eq
/-! ### What is in the list of all handles -/
end Go.Ax
end

section
/-
  The laws' tables: Copy, Take, Free.
-/
set_option linter.unusedVariables false
set_option linter.unusedSimpArgs false
set_option maxHeartbeats 4000000
set_option maxRecDepth 100000
namespace Go.Ax
open Go.Proofs
theorem F42_eq {x : Int} {n : Nat} {g : Nat → List AV} : F42 [.rop [u64 x, .ro n 1 g]] = some ([0 < n, n ≤ 64, ints n g], fun k => .bx k 0, fun k => some (slF k ⟨x, n, gx g 0, noRows⟩)) := (rfl)
theorem c43_eq {a b : AV} : c43 [a, b] = c43f (roP a) (roP b) := (rfl)
theorem c43f_some {o1 o2 : List Prop} {n m : Nat} {X Y : Nat → Int × Int} : c43f (some (o1, n, X)) (some (o2, m, Y)) = some ((n ≤ 100000) :: (o1 ++ o2), bo (decide (lP n X = lP m Y))) := (rfl)
theorem famNK_S' {key : Nat} {x : Int} {n : Nat} {X : Nat → Int} : famNK key (famR [⟨1, 2, 100, fun _ => [u64 x, .own key 1 n 1], none⟩, ⟨n, 1, 3, fun i => [i64 (X i)], none⟩] noRows) = True := famNK_S
theorem famR_n2 {x y z : Row} {l : List Row} {T0 : Fam} : famR [x, y] (famR (z :: l) T0) 2 = z := (rfl)
theorem famR_n3 {x y z u : Row} {l : List Row} {T0 : Fam} : famR [x, y] (famR (z :: u :: l) T0) 3 = u := (rfl)
attribute [go_sem] famR_n2 famR_n3 F42_eq c43_eq c43f_some famNK_S' tlOK_no
theorem slOK_tk {s : SlS} (h : slOK s) : slOK (tkS s) := by
  obtain ⟨⟨h0, h1⟩, ⟨h2, h3⟩, h4⟩ := h
  have hle : tkI s ≤ s.n := lst_le s.n
  unfold tkS
  split
  · rename_i hlt
    refine ⟨⟨?_, ?_⟩, ⟨h2, h3⟩, fun i hi => ?_⟩
    · show 0 ≤ setX _ _
      unfold setX; omega
    · show setX _ _ < _
      unfold setX
      have := setN_lt (a := s.x.toNat) (k := tkI s) (by omega) (by omega)
      rw [Int.toNat_natCast]; omega
    · show 0 ≤ upI _ _ _ i
      unfold upI
      have := h4 i hi
      have := h4 _ hlt
      split <;> omega
  · exact ⟨⟨h0, h1⟩, ⟨h2, h3⟩, h4⟩
theorem slOK_fr {s : SlS} {a g : Int} (h : slOK s) : slOK (frS s a g) := by
  obtain ⟨⟨h0, h1⟩, ⟨h2, h3⟩, h4⟩ := h
  unfold frS
  split
  · refine ⟨⟨?_, ?_⟩, ⟨h2, h3⟩, h4⟩
    · show 0 ≤ clrX _ _
      unfold clrX; omega
    · show clrX _ _ < _
      unfold clrX
      have := clrN_lt (a := s.x.toNat) (k := 2 ^ a.toNat) (by omega)
      omega
  · exact ⟨⟨h0, h1⟩, ⟨h2, h3⟩, h4⟩
end Go.Ax
end

section
/-
  A table of the program's against the reference's: alike.
-/
set_option linter.unusedVariables false
set_option linter.unusedSimpArgs false
set_option maxHeartbeats 4000000
set_option maxRecDepth 100000
namespace Go.Ax
open Go.Proofs
/-- The reference's table is ars the program's. -/
structure Alk (s : SlS) (r : RtS) : Prop where
  ok : slOK s
  n : r.n = s.n
  hi : ∀ j, s.n ≤ j → s.x.toNat.testBit j = false
  bit : ∀ j, j < s.n → r.T j = s.x.toNat.testBit j
  gen : ∀ j, j < s.n → r.G j = s.G j
  ts : s.tl = noRows
  tr : r.tl = noRows
theorem lst_congr {p q : Nat → Bool} : ∀ {n}, (∀ j, j < n → p j = q j) → lst p n = lst q n
  | 0, _ => rfl
  | n + 1, h => by
    unfold lst
    rw [lst_congr (n := n) fun j hj => h j (by omega), h n (by omega)]
theorem Alk.tkJ {s : SlS} {r : RtS} (h : Alk s r) : tkJ r = tkI s := by
  unfold Ax.tkJ tkI
  rw [h.n]
  refine lst_congr fun j hj => ?_
  unfold mayR mayT
  rw [h.bit j hj, h.gen j hj]
theorem Alk.tkH {s : SlS} {r : RtS} (h : Alk s r) : rkH r = tkH s := by
  unfold rkH Ax.tkH
  rw [h.tkJ, h.n]
  split
  · rename_i hl
    rw [h.gen _ hl]
  · rfl
theorem Alk.tkE {s : SlS} {r : RtS} (h : Alk s r) : rkE r = tkE s := by
  unfold rkE Ax.tkE
  rw [h.tkJ, h.n]
theorem Alk.tkS {s : SlS} {r : RtS} (h : Alk s r) : Alk (tkS s) (rkS r) := by
  have hsl := slOK_tk h.ok
  unfold rkS
  unfold Ax.tkS at hsl ⊢
  rw [h.tkJ, h.n]
  split
  · rename_i hl
    rw [if_pos hl] at hsl
    have hx := h.ok.1
    refine ⟨hsl, rfl, fun j hj => ?_, fun j hj => ?_, fun j hj => ?_, h.ts, h.tr⟩
    · show (setX _ _).toNat.testBit j = false
      rw [setX_bit, h.hi j hj]
      have hj : s.n ≤ j := hj
      rw [decide_eq_false (by omega)]; rfl
    · show upB r.T (tkI s) true j = (setX _ _).toNat.testBit j
      rw [setX_bit]
      unfold upB
      split
      · rename_i e
        rw [e]; simp
      · rename_i e
        rw [decide_eq_false e, h.bit j hj]; simp
    · show upI r.G (tkI s) (r.G (tkI s) + 1) j = upI s.G (tkI s) (s.G (tkI s) + 1) j
      unfold upI
      rw [h.gen _ hl]
      split
      · rfl
      · exact h.gen j hj
  · exact h
theorem Alk.at {s : SlS} {r : RtS} (h : Alk s r) (a : Int) : rtOk r.n r.T a = atOk s.x s.n a := by
  unfold rtOk atOk
  rw [h.n]
  by_cases hb : 0 ≤ a ∧ a < (s.n : Int)
  · rw [decide_eq_true hb, h.bit a.toNat (by omega)]
  · rw [decide_eq_false hb]; rfl
theorem Alk.has {s : SlS} {r : RtS} (h : Alk s r) (a g : Int) : rsI r a g = hasI s a g := by
  unfold rsI hasI
  rw [h.at]
  cases hb : atOk s.x s.n a with
  | false => rfl
  | true =>
    unfold atOk at hb
    rw [Bool.and_eq_true, decide_eq_true_iff] at hb
    rw [h.gen a.toNat (by omega)]
theorem Alk.frS {s : SlS} {r : RtS} (h : Alk s r) (a g : Int) : Alk (frS s a g) (rrS r a g) := by
  have hsl := slOK_fr (a := a) (g := g) h.ok
  unfold rrS
  unfold Ax.frS at hsl ⊢
  rw [h.has]
  split
  · rename_i hl
    rw [if_pos hl] at hsl
    have hx := h.ok.1
    have hb : 0 ≤ a ∧ a < (s.n : Int) := by
      unfold hasI atOk at hl
      rw [Bool.and_eq_true, Bool.and_eq_true, decide_eq_true_iff] at hl
      exact hl.1.1
    obtain ⟨k, rfl⟩ : ∃ k : Nat, a = k := ⟨a.toNat, by omega⟩
    have hn := h.ok.2.1.2
    have hcb : ∀ q, (clrX s.x (k : Int)).toNat.testBit q = (s.x.toNat.testBit q && decide (q ≠ k)) := fun q => clrX_bit (by omega) hx
    refine ⟨hsl, h.n, fun j hj => ?_, fun j hj => ?_, h.gen, h.ts, h.tr⟩
    · show (clrX _ _).toNat.testBit j = false
      rw [hcb, h.hi j hj]; rfl
    · show upB r.T (Int.toNat (k : Int)) false j = (clrX _ _).toNat.testBit j
      rw [hcb, Int.toNat_natCast]
      unfold upB
      split
      · rename_i e
        rw [e]; simp
      · rename_i e
        have hj : j < s.n := hj
        rw [h.bit j hj, decide_eq_true e]; simp
  · exact h
end Go.Ax
end

section
/-
  A table of the program's against the reference's: acts.
-/
set_option linter.unusedVariables false
set_option linter.unusedSimpArgs false
set_option maxHeartbeats 4000000
set_option maxRecDepth 100000
namespace Go.Ax
open Go.Proofs
section
variable {P : Program} {G : Ctx} {H : Hots} {f : FuncId} {fn : Func} {X Y : Type} {O : Obj X} {Q : Obj Y}
/-- A contract of a function that uses two objects up. -/
def mcDf (O : Obj X) (Q : Obj Y) (K K' : Nat) (x : X) (y : Y) : Option (List Prop × AV) → Option Eff
  | some (ob, v) => some ⟨(K ≠ K') :: O.ok x :: Q.ok y :: ob, v, .many [(K, dead), (K', dead)] none⟩
  | none => none
noncomputable def mcDe (O : Obj X) (Q : Obj Y) (F : X → Y → List AV → Option (List Prop × AV)) (K K' : Nat) (rest : List AV) : Option Fam → Option Fam → Option Eff
  | some a, some b => match O.dec K a, Q.dec K' b with
    | some x, some y => mcDf O Q K K' x y (F x y rest)
    | _, _ => none
  | _, _ => none
noncomputable def mcD (O : Obj X) (Q : Obj Y) (F : X → Y → List AV → Option (List Prop × AV)) : MCon := fun key m es => match es with
  | .bx K 0 :: .bx K' 0 :: rest => mcDe O Q F K K' rest (look m K) (look m K')
  | _ => none
def DOK (P : Program) (G : Ctx) (H : Hots) (fn : Func) (O : Obj X) (Q : Obj Y) (F : X → Y → List AV → Option (List Prop × AV)) : Prop :=
  ∀ x y rest ob v, F x y rest = some (ob, v) → O.ok x → Q.ok y → (∀ p ∈ ob, p) → clean 3 v = true ∧ (∀ a ∈ rest, clean 3 a = true) ∧ funcOK P H fn (rest.length + 2) = true ∧
    bodyM P G H fn (.bx 0 0 :: .bx 1 0 :: rest) [(1, Q.fm 1 y), (0, O.fm 0 x)] 2 fun a _ => a = v
theorem MConOK.mcD (hG : CtxOK P G) (hf : P.funcs[f]? = some fn) {F : X → Y → List AV → Option (List Prop × AV)} (h : DOK P G H fn O Q F) : MConOK P f (mcD O Q F) := by
  refine MConOK.of (H := H) hG hf fun key m es e hc hob => ?_
  unfold Ax.mcD at hc
  split at hc
  · rename_i K K' rest
    unfold mcDe at hc
    split at hc
    · rename_i fa fb hl hl2
      split at hc
      · rename_i x y hx hy
        obtain rfl := Obj.dec_some hx
        obtain rfl := Obj.dec_some hy
        unfold mcDf at hc
        split at hc
        · rename_i ob v hF
          cases hc
          have hne : K ≠ K' := hob _ (by simp)
          have hok : O.ok x := hob _ (by simp)
          have hok' : Q.ok y := hob _ (by simp)
          obtain ⟨hv, h1, h3, h4⟩ := h _ _ _ _ _ hF hok hok' fun p hp => hob p (by simp [hp])
          obtain ⟨a1, a2⟩ := cleans_ren (θ := thE [K, K']) (g := lowG 2) (B := lowB 2) h1
          refine ⟨[K, K'], [(1, Q.fm 1 y), (0, O.fm 0 x)], .bx 0 0 :: .bx 1 0 :: rest, ⟨by simp [hne], by rw [List.map_cons, List.map_cons, a1]; rfl, fun a ha => ?_, fun j hj => ?_, fun q z hq => ?_⟩, h3, h4.mono fun a m1 hN => ?_⟩
          · rcases List.mem_cons.1 ha with rfl | ha
            · exact (by show (0 : Nat) < 2; omega)
            · rcases List.mem_cons.1 ha with rfl | ha
              · exact (by show (1 : Nat) < 2; omega)
              · exact a2 a ha
          · match j, hj with
            | 0, _ => exact ⟨_, _, (by simp [look]), hl, fun f => ⟨O.gn _ _ hok _, O.ren x hok _ _ _ 0 K (fun _ => rfl) (fun _ => (by show (0 : Nat) < 2; omega)) f⟩⟩
            | 1, _ => exact ⟨_, _, (by simp [look]), hl2, fun f => ⟨Q.gn _ _ hok' _, Q.ren y hok' _ _ _ 1 K' (fun _ => rfl) (fun _ => (by show (1 : Nat) < 2; omega)) f⟩⟩
            | j + 2, hj => simp at hj; omega
          · by_cases e : q = 0
            · subst e; simp
            · by_cases e1 : q = 1
              · subst e1; simp
              · simp [look, Ne.symm e, Ne.symm e1] at hq
          · subst hN
            obtain ⟨k1, k2⟩ := clean_ren (θ := thL [K, K'] key fun _ _ => 0) (g := newG 2 (fun _ => none) fun _ _ => 0) (B := newB 2 fun _ => none) 3 a hv
            refine ⟨fun _ => none, fun _ _ => 0, [dead, dead], none, rfl, ⟨fun f r g h => by simp at h, k1.symm, k2, rfl, fun j hj => .inl ?_, fun _ => rfl⟩⟩
            match j, hj with
            | 0, _ => rfl
            | 1, _ => rfl
            | j + 2, hj => simp at hj; omega
        · cases hc
      · cases hc
    · cases hc
  · cases hc
end
end Go.Ax
end

section
/-
  Two sweeps and the reference's at a loop's head.
-/
set_option linter.unusedVariables false
set_option linter.unusedSimpArgs false
set_option maxHeartbeats 4000000
set_option maxRecDepth 100000
namespace Go.Ax
open Go.Proofs
theorem famNK_qN {key : Nat} {l : List En} : famNK key (qN key l) = True := eq_true fun f j hj c hc => by
  match f with
  | 0 =>
    have hc : c ∈ [bo true, AV.own key 1 l.length 5] := hc
    simp only [List.mem_cons, List.not_mem_nil, or_false] at hc
    rcases hc with rfl | rfl
    · trivial
    · rfl
  | 1 =>
    have hc : c ∈ enF l j := hc
    simp only [enF, enC, List.mem_cons, List.not_mem_nil, or_false] at hc
    rcases hc with rfl | rfl | rfl | rfl | rfl <;> trivial
  | f + 2 => have hj : j < 0 := hj; omega
structure PwS where
  i : Nat
  L : Ents
  l : List En
  L' : Ents
  l' : List En
structure PwI (k : Nat) (p : PwS) : Prop where
  i : p.i ≤ k
  a : RelW p.L p.l
  b : RelW p.L' p.l'
abbrev pwL (N : Nat) (p : PwS) : Slots := [(7, i64 p.i), (3, .bx N 0), (4, .bx (N + 1) 0), (5, .bx (N + 3) 0), (6, .bx (N + 4) 0)]
noncomputable abbrev pwR (N : Nat) (p : PwS) : Mem := [(N, swF N ⟨p.L, noRows⟩), (N + 1, qS (N + 2) p.l.length), (N + 2, qE p.l), (N + 3, swF (N + 3) ⟨p.L', noRows⟩), (N + 4, qS (N + 5) p.l'.length), (N + 5, qE p.l')]
/-- Where a reference lies. -/
def enAt (m : Mem) (kr : Nat) (l : List En) : Option (Nat × Nat) → Prop
  | some (ke, ge) => (∃ y, look m kr = some y ∧ y 0 = ⟨1, 2, 121, fun _ => [bo true, .own ke ge l.length 5], none⟩) ∧ ∃ z, look m ke = some z ∧ z ge = ⟨l.length, 5, 130, enF l, none⟩
  | none => l = [] ∧ ∃ y, look m kr = some y ∧ y 0 = ⟨1, 2, 121, fun _ => [bo true, .v (.slice none 0 0)], none⟩
/-- The alias at the loop's head. -/
def thW (N kw kr : Nat) (ea : Option (Nat × Nat)) (kv kq : Nat) (za : Option (Nat × Nat)) : Alias := fun r f => if r < N then some (r, f) else if r = N then some (kw, f) else if r = N + 3 then some (kv, f) else if f ≠ 0 then none else if r = N + 1 then some (kr, 0) else if r = N + 2 then ea else if r = N + 4 then some (kq, 0) else if r = N + 5 then za else none
section
variable {N kw kr kv kq : Nat} {ea za : Option (Nat × Nat)}
theorem thW_W {f : Nat} : thW N kw kr ea kv kq za N f = some (kw, f) := by simp [thW]
theorem thW_V {f : Nat} : thW N kw kr ea kv kq za (N + 3) f = some (kv, f) := by simp [thW]; omega
theorem thW_R : thW N kw kr ea kv kq za (N + 1) 0 = some (kr, 0) := by simp [thW]; omega
theorem thW_E : thW N kw kr ea kv kq za (N + 2) 0 = ea := by simp [thW]; omega
theorem thW_Q : thW N kw kr ea kv kq za (N + 4) 0 = some (kq, 0) := by simp [thW]; omega
theorem thW_Z : thW N kw kr ea kv kq za (N + 5) 0 = za := by simp [thW]; omega
theorem thW_n {r f : Nat} (h : r = N + 1 ∨ r = N + 2 ∨ r = N + 4 ∨ r = N + 5) : thW N kw kr ea kv kq za r (f + 1) = none := by
  unfold thW
  rw [if_neg (by omega), if_neg (by omega), if_neg (by omega), if_pos (by omega)]
theorem fitA_sw {M r k : Nat} {θ : Alias} {m : Mem} {L : Ents} (hθ : ∀ f, θ r f = some (k, f)) (hr : r < M) (hl : look m k = some (swF k ⟨L, noRows⟩)) : ∀ f, match θ r f with
    | some (k, g) => ∃ y, look m k = some y ∧ fitRowA N M θ (swF r ⟨L, noRows⟩ f) (y g)
    | none => (swF r ⟨L, noRows⟩ f).n = 0 ∧ (swF r ⟨L, noRows⟩ f).g = none := fun f => by
  rw [hθ]
  refine ⟨_, hl, ?_⟩
  match f with
  | 0 => exact ⟨rfl, rfl, rfl, rfl, rfl, fun j _ => ⟨⟨hr, by rw [hθ]⟩, trivial⟩⟩
  | 1 => exact ⟨rfl, rfl, rfl, rfl, rfl, fun j hj => by have hj : j < 0 := hj; omega⟩
  | f + 2 => exact ⟨rfl, rfl, rfl, rfl, rfl, fun j hj => by have hj : j < 0 := hj; omega⟩
theorem fitA_qS {M r e k : Nat} {θ : Alias} {m : Mem} {l : List En} {ea : Option (Nat × Nat)} (h0 : θ r 0 = some (k, 0)) (h1 : ∀ f, θ r (f + 1) = none) (h2 : θ e 0 = ea) (he : e < M) (h : enAt m k l ea) : ∀ f, match θ r f with
    | some (k, g) => ∃ y, look m k = some y ∧ fitRowA N M θ (qS e l.length f) (y g)
    | none => (qS e l.length f).n = 0 ∧ (qS e l.length f).g = none := fun f => by
  match f with
  | f + 1 => rw [h1]; exact ⟨rfl, rfl⟩
  | 0 =>
    rw [h0]
    match ea, h2, h with
    | some (ke, ge), h2, ⟨⟨y, h3, h4⟩, _⟩ =>
      refine ⟨y, h3, ?_⟩
      rw [h4]
      exact ⟨rfl, rfl, rfl, rfl, rfl, fun j _ => ⟨⟨rfl, trivial⟩, ⟨he, by rw [h2]⟩, trivial⟩⟩
    | none, h2, ⟨h5, y, h3, h4⟩ =>
      subst h5
      refine ⟨y, h3, ?_⟩
      rw [h4]
      exact ⟨rfl, rfl, rfl, rfl, rfl, fun j _ => ⟨⟨rfl, trivial⟩, ⟨he, by rw [h2]; exact ⟨rfl, rfl⟩⟩, trivial⟩⟩
theorem fitA_qE {M e k : Nat} {θ : Alias} {m : Mem} {l : List En} {ea : Option (Nat × Nat)} (h1 : ∀ f, θ e (f + 1) = none) (h2 : θ e 0 = ea) (h : enAt m k l ea) : ∀ f, match θ e f with
    | some (k, g) => ∃ y, look m k = some y ∧ fitRowA N M θ (qE l f) (y g)
    | none => (qE l f).n = 0 ∧ (qE l f).g = none := fun f => by
  match f with
  | f + 1 => rw [h1]; exact ⟨rfl, rfl⟩
  | 0 =>
    rw [h2]
    match ea, h with
    | some (ke, ge), ⟨_, z, h3, h4⟩ =>
      refine ⟨z, h3, ?_⟩
      rw [h4]
      exact ⟨rfl, rfl, rfl, rfl, rfl, fun j _ => ⟨⟨rfl, trivial⟩, ⟨rfl, trivial⟩, ⟨rfl, trivial⟩, ⟨rfl, trivial⟩, ⟨rfl, trivial⟩, trivial⟩⟩
    | none, ⟨h5, _⟩ =>
      subst h5
      exact ⟨rfl, rfl⟩
/-- The places are different ones. -/
def plcsW (kw kr : Nat) (ea : Option (Nat × Nat)) (kv kq : Nat) (za : Option (Nat × Nat)) : Prop :=
  kw ≠ kv ∧ kr ≠ kw ∧ kr ≠ kv ∧ kq ≠ kw ∧ kq ≠ kv ∧ kr ≠ kq ∧
  (∀ e g, ea = some (e, g) → e ≠ kw ∧ e ≠ kv ∧ (e, g) ≠ (kr, 0) ∧ (e, g) ≠ (kq, 0)) ∧ (∀ e g, za = some (e, g) → e ≠ kw ∧ e ≠ kv ∧ (e, g) ≠ (kr, 0) ∧ (e, g) ≠ (kq, 0)) ∧ ∀ e, ea = some e → za ≠ some e
theorem pwGood {p : PwS} (h : plcsW kw kr ea kv kq za) : goodA N 6 (thW N kw kr ea kv kq za) (pwR N p) [] := by
  obtain ⟨h1, h2, h3, h4, h5, h6, h7, h8, h9⟩ := h
  refine ⟨fun r f hr => by simp [thW, hr], fun e he => ?_, fun r f r' f' q g hr hr' e1 e2 => ?_⟩
  · simp only [List.mem_cons, List.not_mem_nil, or_false] at he
    rcases he with rfl | rfl | rfl | rfl | rfl | rfl <;> dsimp only <;> omega
  · have c : ∀ r, r ∈ (pwR N p).map (·.1) ∨ r ∈ ([] : List Nat) → r = N ∨ r = N + 3 ∨ r = N + 1 ∨ r = N + 2 ∨ r = N + 4 ∨ r = N + 5 := fun r h => by
      simp only [List.map_cons, List.map_nil, List.mem_cons, List.not_mem_nil, or_false] at h
      omega
    have c1 : ∀ r f, (r ∈ (pwR N p).map (·.1) ∨ r ∈ ([] : List Nat)) → thW N kw kr ea kv kq za r f = some (q, g) → (r = N ∧ q = kw ∧ f = g) ∨ (r = N + 3 ∧ q = kv ∧ f = g) ∨ (r = N + 1 ∧ f = 0 ∧ (q, g) = (kr, 0)) ∨ (r = N + 2 ∧ f = 0 ∧ ea = some (q, g)) ∨ (r = N + 4 ∧ f = 0 ∧ (q, g) = (kq, 0)) ∨ (r = N + 5 ∧ f = 0 ∧ za = some (q, g)) := fun r f hr he => by
      rcases c r hr with rfl | rfl | hr2
      · rw [thW_W] at he; cases he; exact .inl ⟨rfl, rfl, rfl⟩
      · rw [thW_V] at he; cases he; exact .inr (.inl ⟨rfl, rfl, rfl⟩)
      · match f with
        | f + 1 => rw [thW_n hr2] at he; cases he
        | 0 =>
          rcases hr2 with rfl | rfl | rfl | rfl
          · rw [thW_R] at he; cases he; exact .inr (.inr (.inl ⟨rfl, rfl, rfl⟩))
          · rw [thW_E] at he; exact .inr (.inr (.inr (.inl ⟨rfl, rfl, he⟩)))
          · rw [thW_Q] at he; cases he; exact .inr (.inr (.inr (.inr (.inl ⟨rfl, rfl, rfl⟩))))
          · rw [thW_Z] at he; exact .inr (.inr (.inr (.inr (.inr ⟨rfl, rfl, he⟩))))
    have d1 := c1 r f hr e1
    have d2 := c1 r' f' hr' e2
    have h7 := h7 q g
    have h8 := h8 q g
    have h9 := h9 (q, g)
    simp only [Prod.mk.injEq, ne_eq] at d1 d2 h7 h8 h9
    rcases d1 with ⟨a1, a2, a3⟩ | ⟨a1, a2, a3⟩ | ⟨a1, a2, a3⟩ | ⟨a1, a2, a3⟩ | ⟨a1, a2, a3⟩ | ⟨a1, a2, a3⟩ <;> rcases d2 with ⟨b1, b2, b3⟩ | ⟨b1, b2, b3⟩ | ⟨b1, b2, b3⟩ | ⟨b1, b2, b3⟩ | ⟨b1, b2, b3⟩ | ⟨b1, b2, b3⟩ <;> first | exact ⟨by omega, by omega⟩ | (exfalso; simp_all) | (exfalso; simp_all; omega)
theorem pwFit {W : List Nat} {t : Slots} {m : Mem} {p : PwS} (hW : 7 ∈ W ∧ 3 ∈ W ∧ 4 ∈ W ∧ 5 ∈ W ∧ 6 ∈ W)
    (t7 : slot t 7 = i64 p.i) (t3 : slot t 3 = .bx kw 0) (t4 : slot t 4 = .bx kr 0) (t5 : slot t 5 = .bx kv 0) (t6 : slot t 6 = .bx kq 0)
    (m0 : look m kw = some (swF kw ⟨p.L, noRows⟩)) (m1 : enAt m kr p.l ea) (m2 : look m kv = some (swF kv ⟨p.L', noRows⟩)) (m3 : enAt m kq p.l' za)
    (hd : plcsW kw kr ea kv kq za) : ∃ θ, fitSlotsA N (N + 6) θ W t (pwL N p) ∧ fitRowsA N (N + 6) θ m (pwR N p) ∧ goodA N 6 θ (pwR N p) [] := by
  obtain ⟨w1, w2, w3, w4, w5⟩ := hW
  refine ⟨thW N kw kr ea kv kq za, ?_, ?_, pwGood hd⟩
  · refine ⟨w1, ⟨t7, trivial⟩, w2, ⟨by omega, by rw [thW_W]; exact ⟨rfl, t3⟩⟩, w3, ⟨by omega, by rw [thW_R]; exact ⟨rfl, t4⟩⟩, w4, ⟨by omega, by rw [thW_V]; exact ⟨rfl, t5⟩⟩, w5, ⟨by omega, by rw [thW_Q]; exact ⟨rfl, t6⟩⟩, trivial⟩
  · exact ⟨fitA_sw (fun f => thW_W) (by omega) m0, fitA_qS thW_R (fun f => thW_n (by simp)) thW_E (by omega) m1, fitA_qE (fun f => thW_n (by simp)) thW_E m1, fitA_sw (fun f => thW_V) (by omega) m2, fitA_qS thW_Q (fun f => thW_n (by simp)) thW_Z (by omega) m3, fitA_qE (fun f => thW_n (by simp)) thW_Z m3, trivial⟩
theorem fit3 {A B C : Alias → Prop} : (∃ θ, A θ ∧ B θ ∧ C θ) → ∃ θ, A θ ∧ B θ ∧ True ∧ C θ := fun ⟨θ, a, b, c⟩ => ⟨θ, a, b, trivial, c⟩
end
end Go.Ax
end

section
/-
  The frame of a law: its arguments ars abstract values, and what they read ars behind the call.
-/
set_option linter.unusedSimpArgs false
set_option linter.unusedVariables false
namespace Go.Ax
open Go.ChangeShapes Go.WideShapes Go.ChangeAt Go.RowKit

/-- What an argument is. -/
inductive ShV where
  | int (k : IntKind)
  | bool
  | agg (es : List Sh)
  | slice (sz : Nat) (es : List Sh)

def shV (P : Program) (t : TypeId) : Option ShV :=
  match P.underlying t with
  | some .bool => some .bool
  | some (.int k) => some (.int k)
  | some (.slice _) => match shT P 6 t with
    | some [.slice sz es] => some (.slice sz es)
    | _ => none
  | some (.struct _) => (shT P 6 t).map .agg
  | some (.array _ _) => (shT P 6 t).map .agg
  | _ => none

def fitV : ShV → AV → Prop
  | .int k, a => ∃ n, a = .v (.int k n) ∧ (Lit.int k n).wf = true
  | .bool, a => ∃ b, a = .v (.bool b)
  | .agg es, a => ∃ l, a = .agg l ∧ fitS es l
  | .slice sz es, a => ∃ (n : Nat) (get : Nat → List AV), a = .ro n sz get ∧ n ≤ maxLen ∧ ∀ i, fitS es (get i)

def shVs (P : Program) : List TypeId → Option (List ShV)
  | [] => some []
  | t :: ts => match shV P t, shVs P ts with
    | some s, some r => some (s :: r)
    | _, _ => none
def fitVs : List ShV → List AV → Prop
  | [], l => l = []
  | s :: ss, l => ∃ a r, l = a :: r ∧ fitV s a ∧ fitVs ss r

section
variable {H : Type} {enc : TypeId × Value → H} {P : Program} {w : World} {spare : Nat → Bool} {held : Bool} {base : Nat}

theorem okWide_agg_struct {t : TypeId} {fs : Array Field} {v : Value} (ht : P.underlying t = some (.struct fs)) (h : Value.okWide P w .any base t v) : ∃ cs, v = .agg cs := by
  obtain ⟨cs, h, _⟩ := okWide_struct ht h
  exact ⟨cs, h⟩
theorem trod_agg_array {t e : TypeId} {n : Nat} {v : Value} {x : DataW H} {ps : List MemPlace} (ht : P.underlying t = some (.array n e)) (h : Value.okWide P w .any base t v) : ∃ cs, v = .agg cs := by
  cases v <;> simp [Value.okWide, Value.ok, ht] at h <;> exact ⟨_, rfl⟩

theorem arg_read {t : TypeId} {s : ShV} {v : Value} {x : DataW H} {ps : List MemPlace} (hs : shV P t = some s) (ho : Value.okWide P w .any base t v) (h : DataW.Trod enc P w 0 spare held t v x ps) : ∃ a, fitV s a ∧ R w (.ext (All w)) a v := by
  unfold shV at hs
  split at hs
  · rename_i hu
    cases hs
    obtain ⟨b, rfl⟩ := okWide_bool hu ho
    exact ⟨_, ⟨b, rfl⟩, .v⟩
  · rename_i k hu
    cases hs
    obtain ⟨n, rfl, _, _, hw⟩ := open_int hu ho h
    exact ⟨_, ⟨n, rfl, hw⟩, .v⟩
  · rename_i e hu
    split at hs
    · rename_i sz es he
      cases hs
      obtain ⟨a, len, cap, rfl⟩ := okWide_slice hu ho
      obtain ⟨n, get, h1, h2, h3⟩ := slice_read he h
      exact ⟨_, ⟨n, get, rfl, h1, h2⟩, h3⟩
    · cases hs
  · rename_i fs hu
    obtain ⟨es, he, rfl⟩ := Option.map_eq_some_iff.1 hs
    obtain ⟨cs, rfl⟩ := okWide_agg_struct hu ho
    obtain ⟨l, h1, h2⟩ := agg_read he h
    exact ⟨_, ⟨l, rfl, h1⟩, h2⟩
  · rename_i n e hu
    obtain ⟨es, he, rfl⟩ := Option.map_eq_some_iff.1 hs
    obtain ⟨cs, rfl⟩ := trod_agg_array (x := x) (ps := ps) hu ho
    obtain ⟨l, h1, h2⟩ := agg_read he h
    exact ⟨_, ⟨l, rfl, h1⟩, h2⟩
  · cases hs

theorem args_read : ∀ {ts : List TypeId} {ss : List ShV} {vs : List Value} {ds : List (DataW H)} {ps : List MemPlace}, shVs P ts = some ss → (∀ (j : Nat) t v, ts[j]? = some t → vs[j]? = some v → Value.okWide P w .any base t v) →
    DataW.TrodAll enc P w 0 spare held ts vs ds ps → ∃ l, fitVs ss l ∧ Rs w (.ext (All w)) l vs
  | [], ss, vs, ds, ps, hs, ho, h => by
    simp only [shVs, Option.some.injEq] at hs
    subst hs
    obtain ⟨rfl, rfl, rfl⟩ := trodAll_nil h
    exact ⟨[], rfl, .nil⟩
  | t :: ts, ss, vs, ds, ps, hs, ho, h => by
    simp only [shVs] at hs
    split at hs
    · rename_i s r h1 h2
      cases hs
      obtain ⟨v, vs', d, ds', p, q, rfl, rfl, rfl, h3, h4⟩ := trodAll_cons h
      obtain ⟨a, a1, a2⟩ := arg_read h1 (ho 0 t v rfl rfl) h3
      obtain ⟨l, b1, b2⟩ := args_read h2 (fun j t v hj hv => ho (j + 1) t v (by simpa using hj) (by simpa using hv)) h4
      exact ⟨a :: l, ⟨a, l, rfl, a1, b1⟩, Rs.cons a2 b2⟩
    · cases hs

/-- Types that may be read whole. -/
def readOK (P : Program) (ts : List TypeId) : Bool := ts.all fun t => P.readableRec t && decide (t < P.types.size)

theorem args_stay {W W' : World} (hl : laidOutB P = true) (hb : Below W.heap.size W W') : ∀ {ts : List TypeId} {vs : List Value} {ds : List (DataW H)} {ps : List MemPlace}, readOK P ts = true →
    DataW.TrodAll enc P W 0 (fun _ => true) true ts vs ds ps → ∃ ps, DataW.TrodAll enc P W' 0 (fun b => decide (b < W.heap.size)) true ts vs ds ps
  | [], vs, ds, ps, _, h => by
    obtain ⟨rfl, rfl, rfl⟩ := trodAll_nil h
    exact ⟨[], rfl⟩
  | t :: ts, vs, ds, ps, hr, h => by
    obtain ⟨v, vs', d, ds', p, q, rfl, rfl, rfl, h3, h4⟩ := trodAll_cons h
    simp only [readOK, List.all_cons, Bool.and_eq_true, decide_eq_true_eq] at hr
    obtain ⟨q', h5⟩ := args_stay hl hb (by simpa [readOK] using hr.2) h4
    refine ⟨_, trodAll_cons_mk (Below.trod hl hr.1.1 hr.1.2 h3 hb ?_) h5⟩
    obtain ⟨m, hm⟩ := h3
    exact DataW.trod_lt m _ _ _ hm
end
end Go.Ax
end

section
/-
  Laws about tables and sweeps: their arguments.
-/
set_option linter.unusedVariables false
set_option linter.unusedSimpArgs false
set_option maxHeartbeats 4000000
set_option maxRecDepth 100000
namespace Go.Ax
open Go.Proofs Go.ChangeShapes Go.WideShapes Go.ChangeAt Go.RowKit
theorem rowS {l : List AV} (h : fitS [.int .i64, .int .i64, .int .i64, .int .i64, .int .i64, .int .i64] l) : l = [i64 (gi l 0), i64 (gi l 1), i64 (gi l 2), i64 (gi l 3), i64 (gi l 4), i64 (gi l 5)] ∧ inR (gi l 0) ∧ inR (gi l 1) ∧ inR (gi l 2) ∧ inR (gi l 3) ∧ inR (gi l 4) ∧ inR (gi l 5) := by
  obtain ⟨_, _, rfl, ⟨x0, rfl, k0⟩, _, _, rfl, ⟨x1, rfl, k1⟩, _, _, rfl, ⟨x2, rfl, k2⟩, _, _, rfl, ⟨x3, rfl, k3⟩, _, _, rfl, ⟨x4, rfl, k4⟩, _, _, rfl, ⟨x5, rfl, k5⟩, rfl⟩ := h
  exact ⟨rfl, wf_i64 k0, wf_i64 k1, wf_i64 k2, wf_i64 k3, wf_i64 k4, wf_i64 k5⟩
theorem rowsS {get : Nat → List AV} (h : ∀ i, fitS [.int .i64, .int .i64, .int .i64, .int .i64, .int .i64, .int .i64] (get i)) : get = (fun i => [i64 (gx get 0 i), i64 (gx get 1 i), i64 (gx get 2 i), i64 (gx get 3 i), i64 (gx get 4 i), i64 (gx get 5 i)]) ∧ ∀ i, inR (gx get 0 i) ∧ inR (gx get 1 i) ∧ inR (gx get 2 i) ∧ inR (gx get 3 i) ∧ inR (gx get 4 i) ∧ inR (gx get 5 i) :=
  ⟨funext fun i => (rowS (h i)).1, fun i => (rowS (h i)).2⟩
end Go.Ax
end
