/-
  The program's table of slots, ars an object; what writes it.
-/
import Derived.Test.YtfpgjkeelegdpaaGreatCM4
import Derived.Shelf.SlIterI.Nil
import Derived.Shelf.SortM.Plain
import Derived.Shelf.SortM.SortNone
import Derived.Shelf.SlSortCmp.NoneTotal
import Derived.Ground.GgzProg
import Derived.Ground.SlgmProg
import Derived.Ground.SlsfProg
import Derived.Test.YtfpgjkeelegdpaaGreatProg
section
set_option linter.unusedVariables false
set_option linter.unusedSimpArgs false
set_option maxHeartbeats 4000000
set_option maxRecDepth 100000
namespace Go.Ax
open Go.Proofs
/-- Rows that speak of nothing of our own. -/
def tlOK (t : Fam) : Prop := ∀ f, (t f).g = none ∧ ∀ j, j < (t f).n → ∀ c ∈ (t f).get j, cleanC c = true
theorem tlOK_no : tlOK noRows = True := eq_true fun f => ⟨rfl, fun j hj => by have hj : j < 0 := hj; omega⟩
theorem rowRen_tl {t : Fam} (h : tlOK t) {θ : Nat → Nat → Nat × Nat} {g : Nat → Nat → Prop} {B : Nat → Prop} (f : Nat) : rowRen θ g B (t f) (t f) := rowRen_clean' (.refl _) (h f).2
structure SlS where
  x : Int
  n : Nat
  G : Nat → Int
  tl : Fam
def slF (K : Nat) (s : SlS) : Fam := famR [⟨1, 2, 100, fun _ => [u64 s.x, .own K 1 s.n 1], none⟩, ⟨s.n, 1, 3, fun i => [i64 (s.G i)], none⟩] s.tl
theorem slF_inj {K : Nat} {s t : SlS} (h : slF K s = slF K t) : s = t := by
  obtain ⟨x, n, G, tl⟩ := s
  obtain ⟨x', n', G', tl'⟩ := t
  have h0 := congrFun h 0
  have h1 := congrFun h 1
  simp only [slF, famR_0, famR_1, Row.mk.injEq, true_and, and_true] at h0 h1
  have e0 := congrFun h0 0
  simp at e0
  obtain ⟨rfl, h2⟩ := h1
  have e1 : G = G' := by
    funext i
    have := congrFun h2 i
    simpa using this
  have e2 : tl = tl' := by
    funext f
    exact congrFun h (f + 2)
  obtain rfl := e0.1
  rw [e1, e2]
theorem slF_ren {s : SlS} (h : tlOK s.tl) {θ : Nat → Nat → Nat × Nat} {g : Nat → Nat → Prop} {B : Nat → Prop} {i K : Nat} (hθ : ∀ f, θ i f = (K, f)) (hg : ∀ f, g i f) (f : Nat) : rowRen θ g B (slF i s f) (slF K s f) := by
  match f with
  | 0 =>
    refine ⟨rfl, rfl, rfl, rfl, fun j hj => ⟨?_, fun c hc => ?_⟩⟩
    · show [u64 s.x, AV.own K 1 s.n 1] = [u64 s.x, AV.own (θ i 1).1 (θ i 1).2 s.n 1]
      rw [hθ]
    · have hc : c ∈ [u64 s.x, AV.own i 1 s.n 1] := hc
      simp only [List.mem_cons, List.not_mem_nil, or_false] at hc
      rcases hc with rfl | rfl
      · trivial
      · exact hg 1
  | 1 =>
    refine ⟨rfl, rfl, rfl, rfl, fun j hj => ⟨rfl, fun c hc => ?_⟩⟩
    have hc : c ∈ [i64 (s.G j)] := hc
    simp only [List.mem_cons, List.not_mem_nil, or_false] at hc
    subst hc
    trivial
  | f + 2 => exact rowRen_tl h f
def oS : Obj SlS where
  fm := slF
  ok s := tlOK s.tl
  inj _ _ _ h := slF_inj h
  ren _ h _ _ _ _ _ h1 h2 f := slF_ren h h1 h2 f
  gn K s h f := match f with
    | 0 => rfl
    | 1 => rfl
    | f + 2 => (h f).1
theorem oS_fm {K : Nat} {s : SlS} : oS.fm K s = slF K s := (rfl)
def mkF (x' : Int → Int → Int) : OFun SlS := fun s rest => match rest with
  | [.v (.int .i64 i)] => some ([0 ≤ s.x, s.x < 18446744073709551616, 0 ≤ i, i < 64], fun _ => .tup [], some { s with x := x' s.x i }, fun _ => none)
  | _ => none
def setX (x i : Int) : Int := ((x.toNat ||| 2 ^ i.toNat : Nat) : Int)
def clrX (x i : Int) : Int := ((clrN x.toNat (2 ^ i.toNat) : Nat) : Int)
theorem at_some {K : Nat} {m : Mem} {x : SlS} : oS.at K m (some x) = (look m K = some (slF K x)) := (rfl)
theorem setX_nat {a k : Nat} (hk : k < 64) (ha : a < 18446744073709551616) {z1 z2 z3 : Int} (h1 : z1 = IntKind.u64.wrap (k : Int)) (h2 : z2 = IntKind.u64.wrap (1 * 2 ^ min z1.toNat 64)) : ¬ z1 < 0 ∧ z2 = ((2 ^ k : Nat) : Int) ∧ 2 ^ k < 18446744073709551616 := by
  have e1 : z1 = (k : Int) := by rw [h1]; exact wrap_u (by unfold inU; omega)
  subst e1
  have hp : 2 ^ k < 18446744073709551616 := (Nat.pow_lt_pow_right (by omega : 1 < 2) hk : 2 ^ k < 2 ^ 64)
  refine ⟨by omega, ?_, hp⟩
  rw [h2, Int.toNat_natCast, Nat.min_eq_left (by omega), Int.one_mul]
  have : ((2 : Int) ^ k) = ((2 ^ k : Nat) : Int) := by simp
  rw [this]
  generalize 2 ^ k = p at hp
  exact wrap_u (by unfold inU; omega)
noncomputable def m89 : MCon := mcO oS (mkF setX)
theorem mon89 : MConOK Tryz.prog 89 m89 := MConOK.mcO (G := []) (H := []) .nil Tryz.func89 fun s rest ob v x' nw hF hok hok' hob => by
  unfold mkF at hF
  split at hF
  · rename_i i
    cases hF
    have h0 : 0 ≤ s.x := hob _ (by simp)
    have h1 : s.x < 18446744073709551616 := hob _ (by simp)
    have h2 : 0 ≤ i := hob _ (by simp)
    have h3 : i < 64 := hob _ (by simp)
    refine ⟨by simp [clean], by kernel_rfl, fun key => bodyM_go (rs := []) rfl rfl ?_⟩
    simp only [oS_fm, slF, go_sem]
    obtain ⟨x, n, X, tl⟩ := s
    obtain ⟨k, rfl⟩ : ∃ k : Nat, i = k := ⟨i.toNat, by omega⟩
    have h0 : 0 ≤ x := h0
    have h1 : x < 18446744073709551616 := h1
    obtain ⟨a, rfl⟩ : ∃ a : Nat, x = a := ⟨x.toNat, by omega⟩
    intro z1 e1
    have hk := fun z2 e2 => setX_nat (z3 := 0) (by omega : k < 64) (by omega : a < _) e1 (z2 := z2) e2
    refine ⟨(hk _ rfl).1, fun z2 e2 z3 e3 => ?_⟩
    obtain ⟨_, rfl, hp⟩ := hk z2 e2
    have e : z3 = setX a k := by
      rw [e3, orI_nat (by omega) hp]
      rfl
    subst e
    exact ⟨rfl, newP_none rfl⟩
  · cases hF
noncomputable def m92 : MCon := mcO oS (mkF clrX)
theorem mon92 : MConOK Tryz.prog 92 m92 := MConOK.mcO (G := []) (H := []) .nil Tryz.func92 fun s rest ob v x' nw hF hok hok' hob => by
  unfold mkF at hF
  split at hF
  · rename_i i
    cases hF
    have h0 : 0 ≤ s.x := hob _ (by simp)
    have h1 : s.x < 18446744073709551616 := hob _ (by simp)
    have h2 : 0 ≤ i := hob _ (by simp)
    have h3 : i < 64 := hob _ (by simp)
    refine ⟨by simp [clean], by kernel_rfl, fun key => bodyM_go (rs := []) rfl rfl ?_⟩
    simp only [oS_fm, slF, go_sem]
    obtain ⟨x, n, X, tl⟩ := s
    obtain ⟨k, rfl⟩ : ∃ k : Nat, i = k := ⟨i.toNat, by omega⟩
    have h0 : 0 ≤ x := h0
    have h1 : x < 18446744073709551616 := h1
    obtain ⟨a, rfl⟩ : ∃ a : Nat, x = a := ⟨x.toNat, by omega⟩
    intro z1 e1
    have hk := fun z2 e2 => setX_nat (z3 := 0) (by omega : k < 64) (by omega : a < _) e1 (z2 := z2) e2
    refine ⟨(hk _ rfl).1, fun z2 e2 z3 e3 => ?_⟩
    obtain ⟨_, rfl, hp⟩ := hk z2 e2
    have e : z3 = clrX a k := by
      rw [e3, andNotI_nat (by omega) hp]
      rfl
    subst e
    exact ⟨rfl, newP_none rfl⟩
  · cases hF
end Go.Ax
end

section
/-
  The program's table of slots: Take, Free.
-/
set_option linter.unusedVariables false
set_option linter.unusedSimpArgs false
set_option maxHeartbeats 4000000
set_option maxRecDepth 100000
namespace Go.Ax
open Go.Proofs
/-- The least number below n with a property; n if there is none. -/
def lst (p : Nat → Bool) : Nat → Nat
  | 0 => 0
  | n + 1 => if lst p n < n then lst p n else if p n = true then n else n + 1
theorem lst_le {p : Nat → Bool} : ∀ n, lst p n ≤ n
  | 0 => Nat.le_refl _
  | n + 1 => by
    have := lst_le (p := p) n
    unfold lst
    repeat' split
    all_goals omega
theorem lst_no {p : Nat → Bool} : ∀ {n i}, i < lst p n → p i = false
  | 0, i, h => by simp [lst] at h
  | n + 1, i, h => by
    unfold lst at h
    split at h
    · exact lst_no h
    · rename_i hn
      have he : lst p n = n := by have := lst_le (p := p) n; omega
      split at h
      · exact lst_no (n := n) (by omega)
      · rename_i hp
        by_cases e : i = n
        · subst e; simpa using hp
        · exact lst_no (n := n) (by omega)
theorem lst_yes {p : Nat → Bool} : ∀ {n}, lst p n < n → p (lst p n) = true
  | n + 1, h => by
    unfold lst at h ⊢
    split at h
    · rename_i hn; rw [if_pos hn]; exact lst_yes hn
    · rename_i hn
      rw [if_neg hn]
      split at h
      · rename_i hp; rw [if_pos hp]; exact hp
      · omega
theorem lst_eq {p : Nat → Bool} {n i : Nat} (h : ∀ j, j < i → p j = false) (hi : i < n) (hp : p i = true) : lst p n = i := by
  rcases Nat.lt_trichotomy (lst p n) i with h1 | h1 | h1
  · have := lst_yes (p := p) (n := n) (by omega)
    rw [h _ h1] at this; cases this
  · exact h1
  · rw [lst_no h1] at hp; cases hp
theorem lst_full {p : Nat → Bool} {n : Nat} (h : ∀ j, j < n → p j = false) : lst p n = n := by
  have := lst_le (p := p) n
  by_cases h1 : lst p n < n
  · have := lst_yes h1
    rw [h _ h1] at this; cases this
  · omega
/-- May the slot be taken? -/
def mayT (x : Int) (X : Nat → Int) (i : Nat) : Bool := !x.toNat.testBit i && decide (X i < 2147483647)
theorem mcOe_S {F : OFun SlS} {K key : Nat} {rest : List AV} {x : Int} {n : Nat} {X : Nat → Int} {tl : Fam} : mcOe oS F K key rest (some (famR [⟨1, 2, 100, fun _ => [u64 x, .own K 1 n 1], none⟩, ⟨n, 1, 3, fun i => [i64 (X i)], none⟩] tl)) = mcOf oS K key ⟨x, n, X, tl⟩ (F ⟨x, n, X, tl⟩ rest) := mcOe_fm (O := oS) (x := ⟨x, n, X, tl⟩)
theorem fam_S {K : Nat} {s : SlS} : oS.fam K (some s) = famR [⟨1, 2, 100, fun _ => [u64 s.x, .own K 1 s.n 1], none⟩, ⟨s.n, 1, 3, fun i => [i64 (s.G i)], none⟩] s.tl := (rfl)
theorem ok_S {s : SlS} : oS.ok s = tlOK s.tl := (rfl)
theorem okO_S {s : SlS} : oS.okO (some s) = tlOK s.tl := (rfl)
attribute [go_sem] mcO_eq mcOe_S mcOf_some fam_S ok_S okO_S
def upI (X : Nat → Int) (i : Nat) (v : Int) : Nat → Int := fun j => if j = i then v else X j
def tkI (s : SlS) : Nat := lst (mayT s.x s.G) s.n
def tkH (s : SlS) : Int × Int := if tkI s < s.n then ((tkI s : Int), s.G (tkI s) + 1) else (0, 0)
def tkE (s : SlS) : Int := if tkI s < s.n then 0 else 10
def tkS (s : SlS) : SlS := if tkI s < s.n then ⟨setX s.x (tkI s : Nat), s.n, upI s.G (tkI s) (s.G (tkI s) + 1), s.tl⟩ else s
def slOK (s : SlS) : Prop := (0 ≤ s.x ∧ s.x < 18446744073709551616) ∧ (0 < s.n ∧ s.n ≤ 64) ∧ ∀ i, i < s.n → 0 ≤ s.G i
def F40 : OFun SlS := fun s rest => match rest with
  | [] => some ([slOK s], fun _ => .tup [haA (tkH s).1 (tkH s).2, i64 (tkE s)], some (tkS s), fun _ => none)
  | _ => none
noncomputable def m40 : MCon := mcO oS F40
theorem mon40 : MConOK Tryz.prog 40 m40 := MConOK.mcO (G := [(87, c87), (88, c88), (89, .wr m89)]) (H := []) (.cons con87 (.cons con88 (.mcons mon89 .nil))) Tryz.func40 fun s rest ob v x' nw hF hok hok' hob => by
  unfold F40 at hF
  split at hF
  · cases hF
    obtain ⟨⟨h0, h1⟩, ⟨h2, h3⟩, h4⟩ : slOK s := hob _ (by simp)
    clear hok' hob
    refine ⟨by simp, by kernel_rfl, fun key => bodyM_go (rs := [.cell 2 64, .tmp 3]) rfl rfl ?_⟩
    obtain ⟨x, n, X, tl⟩ := s
    dsimp only at h0 h1 h2 h3 h4
    simp only [oS_fm, slF, go_sem, c87, c88, m89]
    intro z hz
    have hz : z = false := by rw [hz]; exact beq_false_of_ne (by omega)
    subst hz
    simp only [Bool.false_eq_true, false_imp_iff, true_imp_iff, true_and]
    refine loopN_go (fun (i : Nat) => i ≤ n ∧ ∀ j, j < i → mayT x X j = false) (fun i => n - i) (fun i => [(14, i64 i), (3, i64 0)]) (fun i => []) [0, 1] [15, 16, 17, 18, 4, 5, 19, 20, 21, 22, 23, 24, 25, 26, 27, 28, 29, 30, 31, 32, 33, 34, 35, 36, 37, 38, 39, 40, 41, 42, 43, 44, 45, 46, 3, 47, 14] 0 0 (by kernel_rfl) ⟨Nat.zero_le _, fun j hj => by omega⟩ ⟨[], ?_, ?_, ?_, ?_⟩ ?_
    · simp only [go_sem]
    · simp only [go_sem]
    · simp only [go_sem]
    · simp [goodNames, asg]
    rintro i ⟨hi, hj⟩
    have htl : tlOK tl := hok
    simp only [go_sem, c87, c88, m89, mkF, oS_fm, slF, htl]
    have lt_of : (i : Int) < n → i < n := fun h => by omega
    refine ⟨fun h => ⟨by omega, h, lt_of h, fun z hz => ⟨h0, h1, by omega, by omega, fun ht => ⟨h0, h1, by omega, by omega, by omega, h, by omega, fun z1 k1 => ⟨by omega, h, by omega, fun z2 k2 => ?_⟩⟩, fun hf z1 k1 => ?_⟩⟩, fun h => ?_⟩
    · have hp : mayT x X i = true := by
        unfold mayT
        rw [← hz, ht.1, decide_eq_true ht.2]; rfl
      have hlt : i < n := by omega
      have e : tkI ⟨x, n, X, tl⟩ = i := lst_eq hj hlt hp
      have hx := h4 i hlt
      have k1 : z1 = X i + 1 := by rw [k1]; exact wrap_in (by unfold inR; omega)
      have k2 : z2 = X i + 1 := by rw [k2]; exact wrap_in (by unfold inR; omega)
      subst k1 k2
      simp only [tkS, tkH, tkE, e, hlt, if_true]
      refine ⟨?_, newP_none rfl⟩
      rw [at_some]
      have : (fun j => if j = i then [i64 (X i + 1)] else [i64 (X j)]) = fun j => [i64 (upI X i (X i + 1) j)] := by
        funext j
        unfold upI
        split <;> rfl
      simp only [go_sem, slF, this]
    · have hp : mayT x X i = false := by
        unfold mayT
        rw [← hz]; exact hf
      refine ⟨i + 1, ⟨by omega, fun j hj2 => ?_⟩, by omega, [], by rw [k1, wrap_in (by unfold inR; omega)]; omega, by simp [goodNames, asg]⟩
      by_cases e : j = i
      · subst e; exact hp
      · exact hj j (by omega)
    · have e : tkI ⟨x, n, X, tl⟩ = n := by
        unfold tkI
        exact lst_full fun j hj2 => hj j (by have hj2 : j < n := hj2; omega)
      have hn : ¬ n < n := Nat.lt_irrefl _
      simp only [tkS, tkH, tkE, e, hn, if_false]
      exact ⟨rfl, newP_none rfl⟩
  · cases hF
/-- A table that is made. -/
theorem newS {key N r1 r2 x : _} {n : Nat} {X : Nat → Int} {m1 : Mem} {v : Nat → AV} (hv : ∀ θ r, renA θ 3 (v r) = v (θ r 0).1) (hk : ∀ G B r, B r → kg G B 3 (v r)) (h1 : look m1 r1 = some (fam1 100 2 [u64 x, .own r2 0 n 1] none)) (h2 : look m1 r2 = some (famN n 1 3 (fun i => [i64 (X i)]) none)) (hne : r1 ≠ r2) (N1 : N ≤ r1) (N2 : N ≤ r2) : NewP key N (v r1) m1 (v key) (some (slF key ⟨x, n, X, noRows⟩)) := by
  have ix1 : ixP [(r1, 0), (r2, 0)] r1 0 = 0 := by simp [ixP]
  have ix2 : ixP [(r1, 0), (r2, 0)] r2 0 = 1 := by simp [ixP, hne]
  refine newP_list [(r1, 0), (r2, 0)] (by simp [hne]) (by simp [N1, N2]) (hk _ _ _ (.inr rfl)) (fun ks hks => ?_) (fun ks hks f r g hf => ?_) (fun f hf => ?_)
  · rw [hv]
    simp only [thL]
    rw [if_neg (by omega)]
  · match f, hf with
    | 0, hf =>
      cases hf
      refine ⟨_, h1, ⟨rfl, rfl, rfl, rfl, fun j hj => ⟨?_, fun c hc => ?_⟩⟩, by simp [fam1]⟩
      · show [u64 x, AV.own key 1 n 1] = [u64 x, AV.own (thL ks key (ixP [(r1, 0), (r2, 0)]) r2 0).1 (thL ks key (ixP [(r1, 0), (r2, 0)]) r2 0).2 n 1]
        simp only [thL]
        rw [if_neg (by omega), ix2]
      · have hc : c ∈ [u64 x, AV.own r2 0 n 1] := hc
        simp only [List.mem_cons, List.not_mem_nil, or_false] at hc
        rcases hc with rfl | rfl
        · trivial
        · exact .inr (by rw [ix2]; rfl)
    | 1, hf =>
      cases hf
      refine ⟨_, h2, ⟨rfl, rfl, rfl, rfl, fun j hj => ⟨rfl, fun c hc => ?_⟩⟩, by simp [famN]⟩
      have hc : c ∈ [i64 (X j)] := hc
      simp only [List.mem_cons, List.not_mem_nil, or_false] at hc
      subst hc; trivial
    | f + 2, hf => simp at hf
  · match f, hf with
    | f + 2, _ => rfl
def hasI (s : SlS) (a g : Int) : Bool := atOk s.x s.n a && (s.G a.toNat == g)
def frS (s : SlS) (a g : Int) : SlS := if hasI s a g = true then ⟨clrX s.x a, s.n, s.G, s.tl⟩ else s
def F44 : OFun SlS := fun s rest => match rest with
  | [.agg [.v (.int .i64 a), .v (.int .i64 g)]] => some ([slOK s], fun _ => i64 (if hasI s a g = true then 0 else 9), some (frS s a g), fun _ => none)
  | _ => none
noncomputable def m44 : MCon := mcO oS F44
theorem mon44 : MConOK Tryz.prog 44 m44 := MConOK.mcO (G := [(87, c87), (60, k60), (92, .wr m92)]) (H := [(5, ⟨[(5, .call)], []⟩)]) (.cons con87 (.cons con60 (.mcons mon92 .nil))) Tryz.func44 fun s rest ob v x' nw hF hok hok' hob => by
  unfold F44 at hF
  split at hF
  · rename_i a g
    cases hF
    obtain ⟨⟨h0, h1⟩, ⟨h2, h3⟩, h4⟩ : slOK s := hob _ (by simp)
    clear hok' hob
    refine ⟨by simp [clean, cleanCs, cleanC], by kernel_rfl, fun key => bodyM_go (rs := [.tmp 4]) rfl rfl ?_⟩
    obtain ⟨x, n, X, tl⟩ := s
    dsimp only at h0 h1 h2 h3 h4
    have htl : tlOK tl := hok
    simp only [oS_fm, slF, go_sem, c87, k60, m92, mkF, htl, F60]
    intro z hz
    have hz : z = false := by rw [hz]; exact beq_false_of_ne (by omega)
    subst hz
    simp only [Bool.false_eq_true, false_imp_iff, true_imp_iff, true_and]
    intro z hz
    have e : hasI ⟨x, n, X, tl⟩ a g = z := hz.symm
    refine ⟨h0, h1, h2, h3, fun hf => ?_, fun ht => ?_⟩
    · simp only [frS, e, hf, Bool.false_eq_true, if_false]
      exact ⟨rfl, newP_none rfl⟩
    · have hb : 0 ≤ a ∧ a < n := by
        have : atOk x n a = true := by
          rw [ht] at hz; exact (Bool.and_eq_true _ _ ▸ hz.symm).1
        unfold atOk at this
        rw [Bool.and_eq_true, decide_eq_true_iff] at this
        exact this.1
      refine ⟨h0, h1, hb.1, by omega, ?_⟩
      simp only [frS, e, ht, if_true]
      exact ⟨rfl, newP_none rfl⟩
  · cases hF
noncomputable def F45 : List AV → Option (List Prop × (Nat → AV) × (Nat → Option Fam))
  | [.v (.int .i64 n)] => if 1 ≤ n ∧ n ≤ 64 then some ([], fun k => .tup [.bx k 0, i64 0], fun k => some (slF k ⟨0, n.toNat, fun _ => 0, noRows⟩)) else some ([], fun _ => .tup [.v (.pointer none), i64 3], fun _ => none)
  | _ => none
noncomputable def m45 : MCon := mcK F45
theorem mon45 : MConOK Tryz.prog 45 m45 := MConOK.mcK (G := []) (H := []) .nil Tryz.func45 fun es ob v nw hF hob => by
  unfold F45 at hF
  split at hF
  · rename_i n
    refine ⟨by simp [clean], by kernel_rfl, fun key => bodyM_go (rs := [.tmp 2, .tmp 3]) rfl rfl ?_⟩
    simp only [go_sem]
    refine ⟨fun h => ?_, fun h => ?_⟩
    · rw [if_neg (by omega)] at hF
      cases hF
      exact newP_none rfl
    · rw [if_pos (by omega)] at hF
      cases hF
      have hb : bytesT Tryz.prog 3 = 8 := by kernel_rfl
      have hN := newS (key := key) (N := 0) (v := fun k => .tup [.bx k 0, i64 0]) (x := 0) (n := n.toNat) (X := fun _ => 0) (r1 := 11) (r2 := 9) (m1 := [(11, fam1 100 2 [u64 0, .own 9 0 n.toNat 1] none), (9, famN n.toNat 1 3 (fun x => [i64 0]) none)]) (fun _ _ => rfl) (fun G B r hr c hc => by
        simp only [List.mem_cons, List.not_mem_nil, or_false] at hc
        rcases hc with rfl | rfl
        · exact hr
        · trivial) rfl rfl (by decide) (Nat.zero_le _) (Nat.zero_le _)
      exact ⟨by omega, by omega, by rw [hb]; omega, hN⟩
  · cases hF
end Go.Ax
end

section
/-
  Makers that are handed rows of our own: they see them ars memory to read.
-/
set_option linter.unusedSimpArgs false
set_option linter.unusedVariables false
namespace Go.Ax

/-- All rows in it are those of one key; nothing else of memory is in it. -/
def nk (key : Nat) : Nat → AV → Prop
  | _, .v _ => True
  | _, .any => True
  | _, .bx r _ => r = key
  | _, .ptr r _ _ _ _ => r = key
  | _, .own r _ _ _ => r = key
  | _, .mp r _ => r = key
  | d + 1, .agg cs => ∀ c ∈ cs, nk key d c
  | d + 1, .tup cs => ∀ c ∈ cs, nk key d c
  | _, _ => False
def famNK (key : Nat) (y : Fam) : Prop := ∀ f, ∀ j, j < (y f).n → ∀ c ∈ (y f).get j, nk key 1 c
def okN (key : Nat) : Option Fam → Prop
  | some y => famNK key y
  | none => True
theorem R.nk {w : World} {ρ ρ' : Env} {key : Nat} (hd : ρ'.dom key) (hb : ∀ f, ρ'.blk key f = ρ.blk key f) (hc : ∀ f, ρ'.cap key f = ρ.cap key f) : ∀ (d : Nat) {a : AV} {x : Value}, nk key d a → R w ρ a x → R w ρ' a x
  | d, .v y, x, _, h => by cases h; exact .v
  | d, .any, x, _, h => .any
  | d, .bx r k, x, hk, h => by
    obtain rfl : r = key := by cases d <;> exact hk
    cases h with | bx _ => rw [← hb]; exact .bx hd
  | d, .ptr r f i sz k, x, hk, h => by
    obtain rfl : r = key := by cases d <;> exact hk
    cases h with | ptr _ => rw [← hb]; exact .ptr hd
  | d, .own r f n sz, x, hk, h => by
    obtain rfl : r = key := by cases d <;> exact hk
    cases h with | own _ hn ha => rw [← hc] at hn ha ⊢; rw [← hb] at ha; exact .own hd hn ha
  | d, .mp r f, x, hk, h => by
    obtain rfl : r = key := by cases d <;> exact hk
    cases h with | mp _ hcap => rw [← hb]; exact .mp hd (by rw [hc]; exact hcap)
  | d + 1, .agg cs, x, hk, h => by
    cases h with | agg hl hh => exact .agg hl fun i a y h1 h2 => R.nk hd hb hc d (hk a (List.mem_of_getElem? h1)) (hh i a y h1 h2)
  | d + 1, .tup cs, x, hk, h => by
    cases h with | tup hl hh => exact .tup hl fun i a y h1 h2 => R.nk hd hb hc d (hk a (List.mem_of_getElem? h1)) (hh i a y h1 h2)
  | 0, .agg _, _, hk, _ => hk.elim
  | 0, .tup _, _, hk, _ => hk.elim
  | 0, .ro _ _ _, _, hk, _ => hk.elim
  | 0, .rop _, _, hk, _ => hk.elim
  | 0, .vw _ _ _ _ _, _, hk, _ => hk.elim
  | 0, .fn _ _, _, hk, _ => hk.elim
  | 0, .iface _ _, _, hk, _ => hk.elim
  | 0, .cond _ _, _, hk, _ => hk.elim
  | 0, .rm _ _, _, hk, _ => hk.elim
  | d + 1, .ro _ _ _, _, hk, _ => hk.elim
  | d + 1, .rop _, _, hk, _ => hk.elim
  | d + 1, .vw _ _ _ _ _, _, hk, _ => hk.elim
  | d + 1, .fn _ _, _, hk, _ => hk.elim
  | d + 1, .iface _ _, _, hk, _ => hk.elim
  | d + 1, .cond _ _, _, hk, _ => hk.elim
  | d + 1, .rm _ _, _, hk, _ => hk.elim

section
variable {P : Program} {f : FuncId}
noncomputable def mcKU (F : List AV → Option (List Prop × (Nat → AV) × (Nat → Option Fam))) : MCon := fun key m es => match F (es.map (purU 3 m)) with
  | some (ob, v, nw) => some ⟨es.flatMap (pgs 3 m) ++ nk key 3 (v key) :: okN key (nw key) :: ob, v key, .many [] (nw key)⟩
  | none => none
/-- What a maker may lean on of what its caller has. -/
def vwJ (ρ : Env) (m : Mem) (b : Nat) : Prop := ρ.imm b ∨ ∃ r x f, look m r = some x ∧ (x f).g ≠ some false ∧ 0 < ρ.cap r f ∧ b = ρ.blk r f
theorem view_rel {w0 : Base} {w : World} {ρ : Env} {m : Mem} {D : Nat → Prop} (hR : Rel w0 ρ m D w) : Rel w0 (.ext (vwJ ρ m)) [] (fun _ => False) w := by
  refine ⟨hR.below, fun b hb => ?_, fun r hr => hr.elim, fun r x hx => by simp [look] at hx, fun r x f hx => by simp [look] at hx, fun r x f r' x' f' hx => by simp [look] at hx, fun p hp => ?_, fun p hp => ⟨.inl (hR.kept p hp).1, (hR.kept p hp).2⟩⟩
  · have hb : vwJ ρ m b := hb
    rcases hb with hb | ⟨r, x, f, h1, h2, h3, hbe⟩
    · exact hR.imm2 b hb
    · rw [hbe]; exact ⟨hR.lt h1 h2 h3, .inr ((hR.row r x f h1 h2).2.blk h3).1⟩
  · obtain ⟨p1, p2, p3, p4⟩ := hR.fix p hp
    refine ⟨p1, fun r x f hx => by simp [look] at hx, fun hb => ?_, p4⟩
    have hb : vwJ ρ m p.1 := hb
    rcases hb with hb | ⟨r, x, f, h1, h2, h3, e⟩
    · exact p3 hb
    · exact p2 r x f h1 h2 h3 e.symm
theorem view_post {w0 : Base} {w w' : World} {ρ : Env} {m : Mem} {D : Nat → Prop} {key : Nat} {v : AV} {nw : Option Fam} {ob ob' : List Prop} {val : Value} (hR : Rel w0 ρ m D w) (hk : ¬ D key) (hnv : nk key 3 v) (hny : okN key nw)
    (hp : Post w0 (.ext (vwJ ρ m)) [] (fun _ => False) key ⟨ob, v, .many [] nw⟩ w val w') : Post w0 ρ m D key ⟨ob', v, .many [] nw⟩ w val w' := by
  obtain ⟨J, hJ⟩ : ∃ J : Nat → Prop, J = vwJ ρ m := ⟨_, rfl⟩
  rw [← hJ] at hp
  obtain ⟨ρ3, r1, r2, r3, r4⟩ := hp
  have hJi : ∀ b, ρ.imm b → J b := fun b hb => by rw [hJ]; exact .inl hb
  have hJr : ∀ r x f, look m r = some x → (x f).g ≠ some false → 0 < ρ.cap r f → J (ρ.blk r f) := fun r x f h1 h2 h3 => by rw [hJ]; exact .inr ⟨r, x, f, h1, h2, h3, rfl⟩
  have hkd : ¬ ρ.dom key := fun hd => hk (hR.dom _ hd)
  have hkl : look m key = none := by
    cases hl : look m key with
    | none => rfl
    | some y => exact absurd (hR.key _ _ hl) hk
  obtain ⟨ρ4, h4⟩ : ∃ ρ4 : Env, ρ4 = { dom := fun r => ρ.dom r ∨ r = key, blk := fun r f => if r = key then ρ3.blk key f else ρ.blk r f, cap := fun r f => if r = key then ρ3.cap key f else ρ.cap r f, imm := ρ.imm } := ⟨_, rfl⟩
  have kd : ρ4.dom key := by rw [h4]; exact .inr rfl
  have kb : ∀ f, ρ4.blk key f = ρ3.blk key f := fun f => by rw [h4]; simp
  have kc : ∀ f, ρ4.cap key f = ρ3.cap key f := fun f => by rw [h4]; simp
  have ob_ : ∀ r f, r ≠ key → ρ4.blk r f = ρ.blk r f := fun r f hr => by rw [h4]; simp [hr]
  have oc : ∀ r f, r ≠ key → ρ4.cap r f = ρ.cap r f := fun r f hr => by rw [h4]; simp [hr]
  have im : ρ4.imm = ρ.imm := by rw [h4]
  have hle : ρ.le ρ4 := ⟨fun r hr => by rw [h4]; exact .inl hr, fun r f hr => ob_ r f (fun e => hkd (e ▸ hr)), fun r f hr => oc r f (fun e => hkd (e ▸ hr)), fun b hb => by rw [im]; exact hb⟩
  have hsame : Same ρ.imm w w' := fun b hb => r4 b (hJi b hb)
  have j3 : ∀ b, J b → ρ3.imm b := fun b hb => r3.imm b hb
  have hlook : ∀ r x, look (Upd.app key m (.many [] nw)) r = some x → (r = key ∧ nw = some x) ∨ (r ≠ key ∧ look m r = some x) := fun r x hx => by
    unfold Upd.app at hx
    cases hn : nw with
    | none =>
      rw [hn] at hx
      have hx : look m r = some x := hx
      exact .inr ⟨fun e => (by rw [e, hkl] at hx; cases hx), hx⟩
    | some y =>
      rw [hn] at hx
      have hx : look (insRow key y m) r = some x := hx
      rw [look_ins hkl] at hx
      split at hx
      · rename_i e; cases hx; exact .inl ⟨e.symm, rfl⟩
      · rename_i e; exact .inr ⟨Ne.symm e, hx⟩
  have hl3 : ∀ y, nw = some y → look (Upd.app key [] (.many [] nw)) key = some y := fun y hy => by
    rw [hy]
    show look (insRow key y []) key = some y
    simp [insRow, look]
  refine ⟨ρ4, r1.nk kd kb kc 3 hnv, ⟨r2.below, fun b hb => ?_, fun r hr => ?_, fun r x hx => ?_, fun r x f hx hg => ?_, fun r x f r' x' f' hx hx' hg hg' hc hc' e => ?_, fun p hp => ?_, fun p hp => ?_⟩, hle, hsame⟩
  · rw [im] at hb
    exact ⟨(r2.imm2 b (j3 b (hJi b hb))).1, (hR.imm2 b hb).2⟩
  · rw [h4] at hr
    exact hr.imp (hR.dom r) id
  · rcases hlook r x hx with ⟨e, _⟩ | ⟨_, h⟩
    · exact .inr e
    · exact .inl (hR.key r x h)
  · rcases hlook r x hx with ⟨e, hy⟩ | ⟨hne, h⟩
    · subst e
      obtain ⟨_, q⟩ := r2.row r x f (hl3 x hy) hg
      rw [hy] at hny
      refine ⟨kd, by rw [kc]; exact q.n_le, fun hc => ?_, q.len, fun i k c v h1 h2 h3 => ?_⟩
      · rw [kc] at hc
        obtain ⟨b1, b2, o, b3, b4⟩ := q.blk hc
        rw [kb, kc, im]
        exact ⟨b1, fun hb => b2 (j3 _ (hJi _ hb)), o, b3, b4⟩
      · rw [kb] at h3
        exact (q.rel i k c v h1 h2 h3).nk kd kb kc 1 (hny f i h1 c (List.mem_of_getElem? h2))
    · obtain ⟨hd, q⟩ := hR.row r x f h hg
      exact ⟨hle.dom r hd, q.mono hd hle (fun b _ hb => by rw [im] at hb; exact hb) hsame (fun hc => r4 _ (hJr r x f h hg hc))⟩
  · rcases hlook r x hx with ⟨e1, hy⟩ | ⟨hne, h1⟩ <;> rcases hlook r' x' hx' with ⟨e2, hy'⟩ | ⟨hne', h1'⟩
    · subst e1; subst e2
      rw [kc] at hc hc'
      rw [kb, kb] at e
      exact r2.sep r' x f r' x' f' (hl3 x hy) (hl3 x' hy') hg hg' hc hc' e
    · exfalso
      subst e1
      rw [kc] at hc
      rw [oc _ _ hne'] at hc'
      rw [kb, ob_ _ _ hne'] at e
      refine r2.not_imm (hl3 x hy) hg hc ?_
      rw [e]
      exact j3 _ (hJr r' x' f' h1' hg' hc')
    · exfalso
      subst e2
      rw [kc] at hc'
      rw [oc _ _ hne] at hc
      rw [kb, ob_ _ _ hne] at e
      refine r2.not_imm (hl3 x' hy') hg' hc' ?_
      rw [← e]
      exact j3 _ (hJr r x f h1 hg hc)
    · rw [oc _ _ hne] at hc
      rw [oc _ _ hne'] at hc'
      rw [ob_ _ _ hne, ob_ _ _ hne'] at e
      exact hR.sep r x f r' x' f' h1 h1' hg hg' hc hc' e
  · obtain ⟨p1, p2, p3, p4⟩ := hR.fix p hp
    obtain ⟨q1, q2, q3, q4⟩ := r2.fix p hp
    refine ⟨p1, fun r x f hx hg hc e => ?_, by rw [im]; exact p3, q4⟩
    rcases hlook r x hx with ⟨e1, hy⟩ | ⟨hne, h1⟩
    · subst e1
      rw [kc] at hc
      rw [kb] at e
      exact q2 r x f (hl3 x hy) hg hc e
    · rw [oc _ _ hne] at hc
      rw [ob_ _ _ hne] at e
      exact p2 r x f h1 hg hc e
  · rw [im]
    exact ⟨(hR.kept p hp).1, (r2.kept p hp).2⟩
theorem view_conv {F0 : List AV → Option (List Prop × (Nat → AV) × (Nat → Option Fam))} (h : ∀ es ob v nw, F0 es = some (ob, v, nw) → (∀ p ∈ ob, p) → ∃ F es' ob', MConOK P f (mcK F) ∧ (∀ w I vs, Rs w (.ext I) es vs → Rs w (.ext I) es' vs) ∧ F es' = some (ob', v, nw) ∧ ∀ p ∈ ob', p) : MConOK P f (mcKU F0) := by
  intro w0 ρ m m' D w key aas vs e hR hk hm hRs hc hob _
  unfold Ax.mcKU at hc
  split at hc
  · rename_i ob v nw hF
    cases hc
    have hs' : Rs w (.ext (vwJ ρ m)) (aas.map (purU 3 m')) vs := purUs_sound (J := vwJ ρ m) (hR.sub hm fun _ h => h) (fun b hb => .inl hb) (fun r x f h1 h2 h3 => .inr ⟨r, x, f, hm _ _ h1, h2, h3, rfl⟩) (fun p hp => hob p (List.mem_append_left _ hp)) hRs
    obtain ⟨F, es', ob', h, hcv, hFe, hob'⟩ := h _ _ _ _ hF fun p hp => hob p (List.mem_append_right _ (by simp [hp]))
    have hnv : nk key 3 (v key) := hob _ (List.mem_append_right _ (by simp))
    have hny : okN key (nw key) := hob _ (List.mem_append_right _ (by simp))
    exact (h w0 (.ext (vwJ ρ m)) [] [] (fun _ => False) w key es' vs ⟨ob', v key, .many [] (nw key)⟩ (view_rel hR) (fun h => h) (fun _ _ h => h) (hcv _ _ _ hs') (by unfold Ax.mcK; rw [hFe]) hob' ⟨_, _, rfl⟩).mono fun val w' hp => view_post hR hk hnv hny hp
  · cases hc
variable {G : Ctx} {H : Hots} {fn : Func}
open Classical in
/-- The body is walked on other names of the same values. -/
theorem MConOK.mkU (hG : CtxOK P G) (hf : P.funcs[f]? = some fn) {F0 : List AV → Option (List Prop × (Nat → AV) × (Nat → Option Fam))} (h : ∀ es ob v nw, F0 es = some (ob, v, nw) → (∀ p ∈ ob, p) → ∃ es', (∀ w I vs, Rs w (.ext I) es vs → Rs w (.ext I) es' vs) ∧ (∀ a ∈ es', clean 3 a = true) ∧ funcOK P H fn es'.length = true ∧ ∀ key, bodyM P G H fn es' [] 0 fun a m1 => NewP key 0 a m1 (v key) (nw key)) : MConOK P f (Ax.mcKU F0) := by
  refine view_conv fun es ob v nw hF hob => ?_
  obtain ⟨es', h1, h2, h3, h4⟩ := h es ob v nw hF hob
  refine ⟨fun l => if l = es' then some ([], v, nw) else none, es', [], MConOK.mcK (H := H) hG hf fun l ob2 v2 nw2 h5 _ => ?_, h1, if_pos rfl, fun p hp => by simp at hp⟩
  split at h5
  · rename_i e
    subst e
    cases h5
    exact ⟨h2, h3, h4⟩
  · cases h5
end
end Go.Ax
end

section
/-
  The program's table of slots: Copy.
-/
set_option linter.unusedVariables false
set_option linter.unusedSimpArgs false
set_option maxHeartbeats 4000000
set_option maxRecDepth 100000
namespace Go.Ax
open Go.Proofs
def mcUf (key : Nat) (ps : List Prop) : Option (List Prop × (Nat → AV) × (Nat → Option Fam)) → Option Eff
  | some (ob, v, nw) => some ⟨ps ++ nk key 3 (v key) :: okN key (nw key) :: ob, v key, .many [] (nw key)⟩
  | none => none
theorem mcKU_eq {F : List AV → Option (List Prop × (Nat → AV) × (Nat → Option Fam))} {key : Nat} {m : Mem} {es : List AV} : mcKU F key m es = mcUf key (pgsL 3 m es) (F (purUL 3 m es)) := by
  rw [← purUL_eq, ← pgsL_eq]
  unfold mcKU mcUf
  split <;> rename_i h <;> first | rw [h] | rfl
theorem mcUf_some {key : Nat} {ps ob : List Prop} {v : Nat → AV} {nw : Nat → Option Fam} : mcUf key ps (some (ob, v, nw)) = some ⟨ps ++ nk key 3 (v key) :: okN key (nw key) :: ob, v key, .many [] (nw key)⟩ := (rfl)
theorem okN_some {key : Nat} {y : Fam} : okN key (some y) = famNK key y := (rfl)
theorem okN_none {key : Nat} : okN key none = True := (rfl)
theorem nk_v {key d : Nat} {x : Value} : nk key d (.v x) = True := by cases d <;> rfl
theorem nk_bx {key d r k : Nat} : nk key d (.bx r k) = (r = key) := by cases d <;> rfl
theorem nk_own {key d r f n sz : Nat} : nk key d (.own r f n sz) = (r = key) := by cases d <;> rfl
def nkL (key d : Nat) : List AV → Prop
  | [] => True
  | a :: l => nk key d a ∧ nkL key d l
theorem nkL_eq {key d : Nat} : ∀ {l : List AV}, (∀ c ∈ l, nk key d c) = nkL key d l
  | [] => by simp [nkL]
  | a :: l => by rw [nkL, ← nkL_eq]; simp
theorem nkL_nil {key d : Nat} : nkL key d [] = True := (rfl)
theorem nkL_cons {key d : Nat} {a : AV} {l : List AV} : nkL key d (a :: l) = (nk key d a ∧ nkL key d l) := (rfl)
theorem nk_tup {key d : Nat} {l : List AV} : nk key (d + 1) (.tup l) = nkL key d l := by rw [← nkL_eq]; rfl
theorem nk_agg {key d : Nat} {l : List AV} : nk key (d + 1) (.agg l) = nkL key d l := by rw [← nkL_eq]; rfl
theorem famNK_ints {key n sz : Nat} {ty : TypeId} {X : Nat → Int} {g : Option Bool} : famNK key (famN n sz ty (fun i => [i64 (X i)]) g) = True := eq_true fun f j hj c hc => by
  match f with
  | 0 =>
    have hc : c ∈ [i64 (X j)] := hc
    simp only [List.mem_cons, List.not_mem_nil, or_false] at hc
    subst hc; trivial
  | f + 1 => have hj : j < 0 := hj; omega
theorem famNK_S {key : Nat} {x : Int} {n : Nat} {X : Nat → Int} : famNK key (slF key ⟨x, n, X, noRows⟩) = True := eq_true fun f j hj c hc => by
  match f with
  | 0 =>
    have hc : c ∈ [u64 x, .own key 1 n 1] := hc
    simp only [List.mem_cons, List.not_mem_nil, or_false] at hc
    rcases hc with rfl | rfl
    · trivial
    · rfl
  | 1 =>
    have hc : c ∈ [i64 (X j)] := hc
    simp only [List.mem_cons, List.not_mem_nil, or_false] at hc
    subst hc; trivial
  | f + 2 => have hj : j < 0 := hj; omega
attribute [go_sem] mcKU_eq mcUf_some okN_some okN_none nk_v nk_bx nk_own nkL_nil nkL_cons nk_tup nk_agg famNK_ints famNK_S
theorem newN {key N r n sz : Nat} {ty : TypeId} {get get' : Nat → List AV} {m1 : Mem} (h : look m1 r = some (famN n sz ty get none)) (hN : N ≤ r) (hc : ∀ j, j < n → get' j = get j ∧ ∀ c ∈ get j, clean 3 c = true) : NewP key N (.own r 0 n sz) m1 (.own key 0 n sz) (some (famN n sz ty get' none)) := by
  refine newP_list [(r, 0)] (by simp) (by simp [hN]) (.inr (by simp [ixP, sgP])) (fun ks hks => ?_) (fun ks hks f r' g hf => ?_) (fun f hf => ?_)
  · show AV.own key 0 n sz = AV.own (thL ks key (ixP [(r, 0)]) r 0).1 (thL ks key (ixP [(r, 0)]) r 0).2 n sz
    simp only [thL]
    rw [if_neg (by omega)]
    simp [ixP]
  · match f, hf with
    | 0, hf =>
      cases hf
      refine ⟨_, h, ⟨rfl, rfl, rfl, rfl, fun j hj => ?_⟩, by simp [famN]⟩
      obtain ⟨h1, h2⟩ := hc j hj
      obtain ⟨k1, k2⟩ := cleans_ren (θ := thL ks key (ixP [(r, 0)])) (g := newG N (sgP [(r, 0)]) (ixP [(r, 0)])) (B := newB N (sgP [(r, 0)])) h2
      exact ⟨by show get' j = (get j).map _; rw [h1, k1], k2⟩
    | f + 1, hf => simp at hf
  · match f, hf with
    | f + 1, _ => rfl
def F91 : List AV → Option (List Prop × (Nat → AV) × (Nat → Option Fam))
  | [.ro n 1 g] => some ([0 < n, n ≤ 64, ints n g], fun k => .own k 0 n 1, fun k => some (famN n 1 3 (fun i => [i64 (gx g 0 i)]) none))
  | _ => none
noncomputable def mN91 : MCon := mcKU F91
theorem mN91_eq : mN91 = mcKU F91 := (rfl)
attribute [go_sem] mN91_eq
theorem mon91 : MConOK Tryz.prog 91 mN91 := MConOK.mkU (G := []) (H := []) .nil Tryz.func91 fun es ob v nw hF hob => by
  unfold F91 at hF
  split at hF
  · rename_i n g
    cases hF
    have h2 : 0 < n := hob _ (by simp)
    have h3 : ints n g := hob _ (by simp)
    refine ⟨[.ro n 1 fun i => [i64 (gx g 0 i)]], fun w I vs hR => ?_, by simp [clean], by kernel_rfl, fun key => bodyM_go (rs := [.tmp 2]) rfl rfl ?_⟩
    · obtain ⟨y, ys, rfl, k1, k2⟩ := hR.inv
      exact .cons (ro_alike (fun i hi => h3 i hi) k1) k2
    simp only [go_sem, h2]
    have h64 : n ≤ 64 := hob _ (by simp)
    have hb : bytesT Tryz.prog 3 = 8 := by kernel_rfl
    rw [hb, Nat.zero_add]
    exact ⟨okCells_all fun i => rfl, by omega, by omega, newN rfl (Nat.zero_le _) fun j hj => ⟨rfl, fun c hc => by
      have hc : c ∈ [i64 (gi (g j) 0)] := hc
      simp only [List.mem_cons, List.not_mem_nil, or_false] at hc
      subst hc; rfl⟩⟩
  · cases hF
def F42 : List AV → Option (List Prop × (Nat → AV) × (Nat → Option Fam))
  | [.rop [.v (.int .u64 x), .ro n 1 g]] => some ([0 < n, n ≤ 64, ints n g], fun k => .bx k 0, fun k => some (slF k ⟨x, n, gx g 0, noRows⟩))
  | _ => none
noncomputable def mN42 : MCon := mcKU F42
theorem mN42_eq : mN42 = mcKU F42 := (rfl)
attribute [go_sem] mN42_eq
theorem mon42 : MConOK Tryz.prog 42 mN42 := MConOK.mkU (G := [(87, c87), (91, .wr mN91)]) (H := []) (.cons con87 (.mcons mon91 .nil)) Tryz.func42 fun es ob v nw hF hob => by
  unfold F42 at hF
  split at hF
  · rename_i x n g
    cases hF
    have h2 : 0 < n := hob _ (by simp)
    have h64 : n ≤ 64 := hob _ (by simp)
    have h3 : ints n g := hob _ (by simp)
    refine ⟨[slR x n (gx g 0)], fun w I vs hR => ?_, by simp [clean], by kernel_rfl, fun key => bodyM_go (rs := [.tmp 2]) rfl rfl ?_⟩
    · obtain ⟨y, ys, rfl, k1, k2⟩ := hR.inv
      exact .cons (R_slots h3 k1) k2
    simp only [go_sem, c87, F91, h2, ints_can, gx_int]
    intro z hz
    refine ⟨fun h => ?_, fun _ => ⟨h64, newS (v := fun k => .bx k 0) (X := fun i => gi (g i) 0) (r2 := 11) (fun _ _ => rfl) (fun G B r hr => hr) rfl rfl (by decide) (Nat.zero_le _) (Nat.zero_le _)⟩⟩
    rw [h] at hz
    have : n = 0 := by simpa using hz.symm
    omega
  · cases hF
end Go.Ax
end

section
/-
  The program's sweep, ars an object; what writes it.
-/
set_option linter.unusedVariables false
set_option linter.unusedSimpArgs false
set_option maxHeartbeats 4000000
set_option maxRecDepth 100000
namespace Go.Ax
open Go.Proofs
structure SwS where
  L : Ents
  tl : Fam
noncomputable def swF (K : Nat) (s : SwS) : Fam := famR [⟨1, 1, 103, fun _ => [.mp K 1], none⟩, mapR 4 s.L] s.tl
theorem swF_inj {K : Nat} {s t : SwS} (h : swF K s = swF K t) : s = t := by
  obtain ⟨L, tl⟩ := s
  obtain ⟨L', tl'⟩ := t
  have h1 := congrFun h 1
  simp only [swF, famR_1, mapR, Row.mk.injEq, true_and, and_true] at h1
  obtain rfl := mapTy_inj h1
  have e2 : tl = tl' := by
    funext f
    exact congrFun h (f + 2)
  rw [e2]
theorem swF_ren {s : SwS} (h : tlOK s.tl) {θ : Nat → Nat → Nat × Nat} {g : Nat → Nat → Prop} {B : Nat → Prop} {i K : Nat} (hθ : ∀ f, θ i f = (K, f)) (hg : ∀ f, g i f) (f : Nat) : rowRen θ g B (swF i s f) (swF K s f) := by
  match f with
  | 0 =>
    refine ⟨rfl, rfl, rfl, rfl, fun j hj => ⟨?_, fun c hc => ?_⟩⟩
    · show [AV.mp K 1] = [AV.mp (θ i 1).1 (θ i 1).2]
      rw [hθ]
    · have hc : c ∈ [AV.mp i 1] := hc
      simp only [List.mem_cons, List.not_mem_nil, or_false] at hc
      subst hc
      exact hg 1
  | 1 => exact ⟨rfl, rfl, rfl, rfl, fun j hj => by have hj : j < 0 := hj; omega⟩
  | f + 2 => exact rowRen_tl h f
noncomputable def oW : Obj SwS where
  fm := swF
  ok s := tlOK s.tl
  inj _ _ _ h := swF_inj h
  ren _ h _ _ _ _ _ h1 h2 f := swF_ren h h1 h2 f
  gn K s h f := match f with
    | 0 => rfl
    | 1 => rfl
    | f + 2 => (h f).1
theorem oW_fm {K : Nat} {s : SwS} : oW.fm K s = swF K s := (rfl)
theorem at_W {K : Nat} {m : Mem} {x : SwS} : oW.at K m (some x) = (look m K = some (swF K x)) := (rfl)
theorem mcOe_W {F : OFun SwS} {K key : Nat} {rest : List AV} {L : Ents} {tl : Fam} : mcOe oW F K key rest (some (famR [⟨1, 1, 103, fun _ => [.mp K 1], none⟩, mapR 4 L] tl)) = mcOf oW K key ⟨L, tl⟩ (F ⟨L, tl⟩ rest) := mcOe_fm (O := oW) (x := ⟨L, tl⟩)
theorem fam_W {K : Nat} {s : SwS} : oW.fam K (some s) = famR [⟨1, 1, 103, fun _ => [.mp K 1], none⟩, mapR 4 s.L] s.tl := (rfl)
theorem ok_W {s : SwS} : oW.ok s = tlOK s.tl := (rfl)
theorem okO_W {s : SwS} : oW.okO (some s) = tlOK s.tl := (rfl)
attribute [go_sem] mcOe_W fam_W ok_W okO_W tlOK_no
def putE (L : Ents) (i a b c d : Int) : Int := if i < 0 ∨ 2147483647 < i then 3 else if checkBoxS a b c d ≠ 0 then checkBoxS a b c d else if (memSel L i).isSome = true then 11 else if 256 ≤ (L.length : Int) then 10 else 0
def movE (L : Ents) (i a b c d : Int) : Int := if i < 0 ∨ 2147483647 < i then 3 else if checkBoxS a b c d ≠ 0 then checkBoxS a b c d else if (memSel L i).isSome = true then 0 else 9
def drpE (L : Ents) (i : Int) : Int := if i < 0 ∨ 2147483647 < i then 3 else if (memSel L i).isSome = true then 0 else 9
def putW (s : SwS) (i a b c d : Int) : SwS := if putE s.L i a b c d = 0 then ⟨memPut s.L i [a, b, c, d], s.tl⟩ else s
def movW (s : SwS) (i a b c d : Int) : SwS := if movE s.L i a b c d = 0 then ⟨memPut s.L i [a, b, c, d], s.tl⟩ else s
def drpW (s : SwS) (i : Int) : SwS := if drpE s.L i = 0 then ⟨memDel s.L i, s.tl⟩ else s
def F19 : OFun SwS := fun s rest => match rest with
  | [.v (.int .i64 i), .agg [.v (.int .i64 a), .v (.int .i64 b), .v (.int .i64 c), .v (.int .i64 d)]] => some ([inR a, inR b, inR c, inR d], fun _ => i64 (putE s.L i a b c d), some (putW s i a b c d), fun _ => none)
  | _ => none
noncomputable def m19 : MCon := mcO oW F19
theorem mon19 : MConOK Tryz.prog 19 m19 := MConOK.mcO (G := [(63, c63), (64, c64)]) (H := []) (.cons con63 (.cons con64 .nil)) Tryz.func19 fun s rest ob v x' nw hF hok hok' hob => by
  unfold F19 at hF
  split at hF
  · rename_i i a b c d
    cases hF
    have ha : inR a := hob _ (by simp)
    have hb : inR b := hob _ (by simp)
    have hc : inR c := hob _ (by simp)
    have hd : inR d := hob _ (by simp)
    clear hok' hob
    refine ⟨by simp [clean, cleanCs, cleanC], by kernel_rfl, fun key => bodyM_go (rs := [.tmp 6]) rfl rfl ?_⟩
    obtain ⟨L, tl⟩ := s
    have htl : tlOK tl := hok
    simp only [oW_fm, swF, go_sem, c63, c64, ha, hb, hc, hd]
    have fin : ∀ (e : Int) (m1 : Mem), putE L i a b c d = e → look m1 0 = some (swF 0 ⟨if e = 0 then memPut L i [a, b, c, d] else L, tl⟩) → oW.at 0 m1 (some (putW ⟨L, tl⟩ i a b c d)) ∧ NewP key 1 (i64 e) m1 (i64 (putE L i a b c d)) none := fun e m1 he hl => by
      refine ⟨?_, by rw [he]; exact newP_none rfl⟩
      rw [at_W, hl]
      unfold putW
      dsimp only
      rw [he]
      split <;> rfl
    intro z hz
    refine ⟨fun hn => ?_, fun h0 => ?_⟩
    · have hn : z ≠ 0 := by simpa using hn
      have hr : i < 0 ∨ 2147483647 < i := Classical.byContradiction fun h => hn (by rw [hz, if_neg h])
      refine fin z _ (by unfold putE; rw [if_pos hr, hz, if_pos hr]) ?_
      rw [if_neg hn]; rfl
    have h0 : z = 0 := by simpa using h0
    have hr : ¬ (i < 0 ∨ 2147483647 < i) := fun h => by rw [hz, if_pos h] at h0; cases h0
    intro z2 hz2
    refine ⟨fun hn => ?_, fun h2 => ?_⟩
    · have hn : z2 ≠ 0 := by simpa using hn
      refine fin z2 _ (by unfold putE; rw [if_neg hr, if_pos (by rw [← hz2]; exact hn), hz2]) ?_
      rw [if_neg hn]; rfl
    have h2 : ¬ checkBoxS a b c d ≠ 0 := fun h => by
      rw [← hz2] at h
      exact h (by simpa using h2)
    refine ⟨fun h3 => fin 11 _ (by unfold putE; rw [if_neg hr, if_neg h2, if_pos h3]) rfl, fun h3 => ?_⟩
    have h3 : ¬ (memSel L i).isSome = true := by rw [h3]; decide
    refine ⟨fun h4 => fin 10 _ (by unfold putE; rw [if_neg hr, if_neg h2, if_neg h3, if_pos h4]) rfl, fun h4 => ?_⟩
    refine ⟨by omega, by omega, fin 0 _ (by unfold putE; rw [if_neg hr, if_neg h2, if_neg h3, if_neg h4]) rfl⟩
  · cases hF
def F17 : OFun SwS := fun s rest => match rest with
  | [.v (.int .i64 i), .agg [.v (.int .i64 a), .v (.int .i64 b), .v (.int .i64 c), .v (.int .i64 d)]] => some ([inR a, inR b, inR c, inR d], fun _ => i64 (movE s.L i a b c d), some (movW s i a b c d), fun _ => none)
  | _ => none
noncomputable def m17 : MCon := mcO oW F17
def F18 : OFun SwS := fun s rest => match rest with
  | [.v (.int .i64 i)] => some ([], fun _ => i64 (drpE s.L i), some (drpW s i), fun _ => none)
  | _ => none
noncomputable def m18 : MCon := mcO oW F18
theorem famNK_W {key : Nat} {L : Ents} : famNK key (swF key ⟨L, noRows⟩) = True := eq_true fun f j hj c hc => by
  match f with
  | 0 =>
    have hc : c ∈ [AV.mp key 1] := hc
    simp only [List.mem_cons, List.not_mem_nil, or_false] at hc
    subst hc; rfl
  | 1 => have hj : j < 0 := hj; omega
  | f + 2 => have hj : j < 0 := hj; omega
attribute [go_sem] famNK_W
theorem newW {key N r1 r2 : Nat} {L : Ents} {m1 : Mem} {v : Nat → AV} (hv : ∀ θ r, renA θ 3 (v r) = v (θ r 0).1) (hk : ∀ G B r, B r → kg G B 3 (v r)) (h1 : look m1 r1 = some (fam1 103 1 [.mp r2 0] none)) (h2 : look m1 r2 = some (famMap 4 L none)) (hne : r1 ≠ r2) (N1 : N ≤ r1) (N2 : N ≤ r2) : NewP key N (v r1) m1 (v key) (some (swF key ⟨L, noRows⟩)) := by
  have ix1 : ixP [(r1, 0), (r2, 0)] r1 0 = 0 := by simp [ixP]
  have ix2 : ixP [(r1, 0), (r2, 0)] r2 0 = 1 := by simp [ixP, hne]
  refine newP_list [(r1, 0), (r2, 0)] (by simp [hne]) (by simp [N1, N2]) (hk _ _ _ (.inr rfl)) (fun ks hks => ?_) (fun ks hks f r g hf => ?_) (fun f hf => ?_)
  · rw [hv]
    simp only [thL]
    rw [if_neg (by omega)]
  · match f, hf with
    | 0, hf =>
      cases hf
      refine ⟨_, h1, ⟨rfl, rfl, rfl, rfl, fun j hj => ⟨?_, fun c hc => ?_⟩⟩, by simp [fam1]⟩
      · show [AV.mp key 1] = [AV.mp (thL ks key (ixP [(r1, 0), (r2, 0)]) r2 0).1 (thL ks key (ixP [(r1, 0), (r2, 0)]) r2 0).2]
        simp only [thL]
        rw [if_neg (by omega), ix2]
      · have hc : c ∈ [AV.mp r2 0] := hc
        simp only [List.mem_cons, List.not_mem_nil, or_false] at hc
        subst hc
        exact .inr (by rw [ix2]; rfl)
    | 1, hf =>
      cases hf
      exact ⟨_, h2, ⟨rfl, rfl, rfl, rfl, fun j hj => by have hj : j < 0 := hj; omega⟩, by simp [famMap]⟩
    | f + 2, hf => simp at hf
  · match f, hf with
    | f + 2, _ => rfl
noncomputable def F28 : List AV → Option (List Prop × (Nat → AV) × (Nat → Option Fam))
  | [] => some ([], fun k => .bx k 0, fun k => some (swF k ⟨[], noRows⟩))
  | _ => none
noncomputable def mN28 : MCon := mcKU F28
theorem mN28_eq : mN28 = mcKU F28 := (rfl)
attribute [go_sem] mN28_eq
theorem mon28 : MConOK Tryz.prog 28 mN28 := MConOK.mkU (G := []) (H := []) .nil Tryz.func28 fun es ob v nw hF hob => by
  unfold F28 at hF
  split at hF
  · cases hF
    refine ⟨[], fun w I vs hR => hR, by simp, by kernel_rfl, fun key => bodyM_go (rs := [.tmp 0]) rfl rfl ?_⟩
    simp only [go_sem]
    exact newW (v := fun k => .bx k 0) (r2 := 1) (fun _ _ => rfl) (fun G B r hr => hr) rfl rfl (by decide) (Nat.zero_le _) (Nat.zero_le _)
  · cases hF
end Go.Ax
end

section
/-
  The reference's table of slots: what only reads it.
-/
set_option linter.unusedVariables false
set_option linter.unusedSimpArgs false
set_option maxHeartbeats 4000000
set_option maxRecDepth 100000
namespace Go.Ax
open Go.Proofs
/-- Truth values, one a cell. -/
def gz : List AV → Bool
  | [.v (.bool b)] => b
  | _ => false
def bools (n : Nat) (h : Nat → List AV) : Prop := ∀ i, i < n → h i = [bo (gz (h i))]
theorem bools_can {n : Nat} {T : Nat → Bool} : bools n (fun i => [bo (T i)]) = True := eq_true fun _ _ => rfl
theorem gz_bool {b : Bool} : gz [bo b] = b := (rfl)
abbrev rtR (n : Nat) (G : Nat → Int) (T : Nat → Bool) : AV := .rop [.ro n 1 fun i => [i64 (G i)], .ro n 1 fun i => [bo (T i)]]
def cRe (n m : Nat) (g h : Nat → List AV) : Option (List Prop × AV) → Option (List Prop × AV)
  | some (ob, r) => some ((m = n) :: ints n g :: bools n h :: ob, r)
  | none => none
theorem cRe_some {n m : Nat} {g h : Nat → List AV} {ob : List Prop} {r : AV} : cRe n m g h (some (ob, r)) = some ((m = n) :: ints n g :: bools n h :: ob, r) := (rfl)
def cRt (F : Nat → (Nat → Int) → (Nat → Bool) → List AV → Option (List Prop × AV)) : Con
  | .rop [.ro n 1 g, .ro m 1 h] :: rest => cRe n m g h (F n (gx g 0) (fun i => gz (h i)) rest)
  | _ => none
theorem cRt_eq {F : Nat → (Nat → Int) → (Nat → Bool) → List AV → Option (List Prop × AV)} {n m : Nat} {g h : Nat → List AV} {rest : List AV} : cRt F (.rop [.ro n 1 g, .ro m 1 h] :: rest) = cRe n m g h (F n (gx g 0) (fun i => gz (h i)) rest) := (rfl)
theorem R_rslots {w : World} {ρ : Env} {n : Nat} {g h : Nat → List AV} {v : Value} (h1 : ints n g) (h2 : bools n h) (hR : R w ρ (.rop [.ro n 1 g, .ro n 1 h]) v) : R w ρ (rtR n (gx g 0) fun i => gz (h i)) v := by
  refine R_ropc (cs := [.ro n 1 g, .ro n 1 h]) rfl (fun k c c' y k1 k2 k3 => ?_) hR
  match k, k1, k2 with
  | 0, k1, k2 => cases k1; cases k2; exact ro_alike (fun i hi => h1 i hi) k3
  | 1, k1, k2 => cases k1; cases k2; exact ro_alike (fun i hi => h2 i hi) k3
  | k + 2, k1, k2 => simp at k1
theorem ConOK.cRt {P : Program} {G : Ctx} {H : Hots} (hG : CtxOK P G) {f : FuncId} {fn : Func} (hf : P.funcs[f]? = some fn) {F : Nat → (Nat → Int) → (Nat → Bool) → List AV → Option (List Prop × AV)}
    (h : ∀ n X T rest ob r, F n X T rest = some (ob, r) → (∀ p ∈ ob, p) → funcOK P H fn (rest.length + 1) = true ∧ fnVC P G H fn (rtR n X T :: rest) (alk r)) : ConOK P f (Ax.cRt F) :=
  ConOK.goR (G := G) (H := H) hG hf fun l ob rr hc hob => by
    unfold Ax.cRt at hc
    split at hc
    · rename_i n g m k rest
      unfold cRe at hc
      split at hc
      · rename_i ob' r' hF
        cases hc
        have hm : m = n := hob _ (by simp)
        subst hm
        obtain ⟨h1, h2⟩ := h m (gx g 0) (fun i => gz (k i)) rest ob' rr hF fun p hp => hob p (by simp [hp])
        refine ⟨rtR m (gx g 0) (fun i => gz (k i)) :: rest, fun w I vs hR => ?_, h1, h2⟩
        obtain ⟨y, ys, rfl, k1, k2⟩ := hR.inv
        exact .cons (R_rslots (hob _ (by simp)) (hob _ (by simp)) k1) k2
      · cases hc
    · cases hc
attribute [go_sem] cRt_eq cRe_some bools_can gz_bool
theorem alk_of {r r' : AV} (h : r' = r) : alk r r' := by subst h; exact alk_refl
theorem dec0 {n : Nat} : decide (0 < (n : Int)) = decide (0 < n) := decide_eq_decide.2 (by omega)
def F124 : Nat → (Nat → Int) → (Nat → Bool) → List AV → Option (List Prop × AV)
  | n, _, _, [] => some ([], bo (decide (0 < n)))
  | _, _, _, _ => none
def k124 : Con := cRt F124
theorem con124 : ConOK Tryz.prog 124 k124 := ConOK.cRt (G := []) (H := []) .nil Tryz.func124 fun n X T rest ob r hF hob => by
  unfold F124 at hF
  split at hF
  · cases hF
    refine ⟨by kernel_rfl, fnVC_go (rs := [.tmp 2]) rfl rfl ?_⟩
    simp only [go_sem]
    rw [dec0]
    exact alk_refl
  · cases hF
def F95 : Nat → (Nat → Int) → (Nat → Bool) → List AV → Option (List Prop × AV)
  | n, _, _, [] => some ([], i64 n)
  | _, _, _, _ => none
def k95 : Con := cRt F95
theorem con95 : ConOK Tryz.prog 95 k95 := ConOK.cRt (G := [(124, k124)]) (H := []) (.cons con124 .nil) Tryz.func95 fun n X T rest ob r hF hob => by
  unfold F95 at hF
  split at hF
  · cases hF
    refine ⟨by kernel_rfl, fnVC_go (rs := [.tmp 2]) rfl rfl ?_⟩
    simp only [go_sem, k124, F124]
    intro z hz
    refine ⟨fun h => alk_of ?_, fun h => alk_refl⟩
    rw [h] at hz
    have : n = 0 := by
      have := of_decide_eq_false hz.symm
      omega
    subst this; rfl
  · cases hF
/-- Is the slot taken? -/
def rtOk (n : Nat) (T : Nat → Bool) (i : Int) : Bool := decide (0 ≤ i ∧ i < n) && T i.toNat
def F96 : Nat → (Nat → Int) → (Nat → Bool) → List AV → Option (List Prop × AV)
  | n, X, T, [.v (.int .i64 i)] => some ([0 < n], .tup [haA (if rtOk n T i = true then i else 0) (if rtOk n T i = true then X i.toNat else 0), bo (rtOk n T i)])
  | _, _, _, _ => none
def k96 : Con := cRt F96
theorem con96 : ConOK Tryz.prog 96 k96 := ConOK.cRt (G := [(124, k124)]) (H := []) (.cons con124 .nil) Tryz.func96 fun n X T rest ob r hF hob => by
  unfold F96 at hF
  split at hF
  · rename_i i
    cases hF
    have h2 : 0 < n := hob _ (by simp)
    refine ⟨by kernel_rfl, fnVC_go (rs := [.cell 4 64, .tmp 5]) rfl rfl ?_⟩
    simp only [go_sem, k124, F124, h2]
    intro z hz
    subst hz
    refine ⟨fun h => by omega, fun h => by omega, fun h => alk_of ?_, fun h => ⟨by omega, by omega, alk_of ?_⟩⟩
    · have : rtOk n T i = false := by
        unfold rtOk
        rcases h with ((h | h) | h) | h
        · cases h
        · rw [decide_eq_false (by omega)]; rfl
        · rw [decide_eq_false (by omega)]; rfl
        · rw [h, Bool.and_false]
      rw [this]; rfl
    · have : rtOk n T i = true := by
        unfold rtOk
        rw [h.2, decide_eq_true (by omega)]; rfl
      rw [this]; rfl
  · cases hF
def F97 : Nat → (Nat → Int) → (Nat → Bool) → List AV → Option (List Prop × AV)
  | n, X, T, [.v (.int .i64 i)] => some ([0 < n], i64 (if 0 ≤ i ∧ i < n then X i.toNat else 0))
  | _, _, _, _ => none
def k97 : Con := cRt F97
theorem con97 : ConOK Tryz.prog 97 k97 := ConOK.cRt (G := [(124, k124)]) (H := []) (.cons con124 .nil) Tryz.func97 fun n X T rest ob r hF hob => by
  unfold F97 at hF
  split at hF
  · rename_i i
    cases hF
    have h2 : 0 < n := hob _ (by simp)
    refine ⟨by kernel_rfl, fnVC_go (rs := [.tmp 4]) rfl rfl ?_⟩
    simp only [go_sem, k124, F124, h2]
    intro z hz
    subst hz
    refine ⟨fun h => alk_of ?_, fun h => ?_⟩
    · rw [if_neg]
      rcases h with (h | h) | h
      · cases h
      · omega
      · omega
    · have : 0 ≤ i ∧ i < (n : Int) := by omega
      exact ⟨this.1, this.2, alk_of (by rw [if_pos this])⟩
  · cases hF
def F98 : Nat → (Nat → Int) → (Nat → Bool) → List AV → Option (List Prop × AV)
  | n, X, T, [.agg [.v (.int .i64 s), .v (.int .i64 g)]] => some ([0 < n], bo (rtOk n T s && (X s.toNat == g)))
  | _, _, _, _ => none
def k98 : Con := cRt F98
theorem con98 : ConOK Tryz.prog 98 k98 := ConOK.cRt (G := [(124, k124)]) (H := []) (.cons con124 .nil) Tryz.func98 fun n X T rest ob r hF hob => by
  unfold F98 at hF
  split at hF
  · rename_i s g
    cases hF
    have h2 : 0 < n := hob _ (by simp)
    refine ⟨by kernel_rfl, fnVC_go (rs := [.tmp 4]) rfl rfl ?_⟩
    simp only [go_sem, k124, F124, h2]
    intro z hz
    subst hz
    refine ⟨fun h => by omega, fun h => by omega, fun h => by omega, fun h => by omega, alk_of ?_⟩
    unfold rtOk
    rw [Bool.true_and, Bool.decide_and]
  · cases hF
/-- The handles of the slots below i that are taken. -/
def rtL (n : Nat) (X : Nat → Int) (T : Nat → Bool) : Nat → List (Int × Int)
  | 0 => []
  | i + 1 => rtL n X T i ++ (if rtOk n T i = true then [((i : Int), X i)] else [])
theorem rtL_le {n : Nat} {X : Nat → Int} {T : Nat → Bool} : ∀ i, (rtL n X T i).length ≤ i
  | 0 => Nat.le_refl _
  | i + 1 => by
    simp only [rtL, List.length_append]
    have := rtL_le (n := n) (X := X) (T := T) i
    split <;> simp <;> omega
def F93 : Nat → (Nat → Int) → (Nat → Bool) → List AV → Option (List Prop × AV)
  | n, X, T, [] => some ([0 < n, n ≤ 64], lsA (rtL n X T n))
  | _, _, _, _ => none
def k93 : Con := cRt F93
theorem con93 : ConOK Tryz.prog 93 k93 := ConOK.cRt (G := [(95, k95), (96, k96)]) (H := []) (.cons con95 (.cons con96 .nil)) Tryz.func93 fun n X T rest ob r hF hob => by
  unfold F93 at hF
  split at hF
  · cases hF
    have h2 : 0 < n := hob _ (by simp)
    have h3 : n ≤ 64 := hob _ (by simp)
    refine ⟨by kernel_rfl, fnVC_go (rs := [.tmp 2]) rfl rfl ?_⟩
    simp only [go_sem, k95, k96]
    refine loopN_go (fun (i : Nat) => i ≤ n) (fun i => n - i) (fun i => [(4, i64 i), (3, .own 3 0 (rtL n X T i).length 2)]) (fun i => [(3, famN (rtL n X T i).length 2 64 (lsF (rtL n X T i)) none)]) [] [7, 8, 9, 10, 14, 15, 16, 13, 17, 18, 5, 6, 19, 20, 21, 22, 23, 3, 11, 12, 4] 1 0 (by kernel_rfl) (Nat.zero_le _) ⟨[(3, none)], ?_, ?_, ?_, ?_⟩ ?_
    · simp only [go_sem]; simp [rtL]
    · simp only [go_sem]; simp [rtL]
    · simp only [go_sem]
    · simp [goodNames, asg]
    intro i hi
    simp only [go_sem, k95, k96, F95, F96, h2, h3]
    have hle := rtL_le (n := n) (X := X) (T := T) i
    intro zz hzz
    subst hzz
    have eT : (fun i => T i) = T := rfl
    rw [eT]
    refine ⟨fun h z hz => ⟨fun ht => ⟨?_, by omega, fun z1 k1 => ⟨i + 1, by omega, by omega, [(3, some 21)], ?_⟩⟩, fun hf z1 k1 => ⟨i + 1, by omega, by omega, [(3, some 3)], ?_⟩⟩, fun h => ?_⟩
    · have hb : bytesT Tryz.prog 64 = 16 := by kernel_rfl
      rw [hb]; omega
    · rw [ht] at hz
      have e : rtL n X T (i + 1) = rtL n X T i ++ [((i : Int), X i)] := by simp only [rtL]; rw [← hz]; rfl
      rw [e, List.length_append, List.length_singleton, if_pos hz.symm, if_pos hz.symm]
      simp only [go_sem]
      refine ⟨by rw [k1, wrap_in (by unfold inR; omega)]; omega, fun q hq => ?_, by simp [goodNames, asg]⟩
      rw [lsF_push hq]
      exact fitL_clean rfl
    · rw [hf] at hz
      have e : rtL n X T (i + 1) = rtL n X T i := by simp only [rtL]; rw [← hz]; simp
      rw [e]
      simp only [go_sem]
      exact ⟨by rw [k1, wrap_in (by unfold inR; omega)]; omega, fun q hq => fitL_clean rfl, by simp [goodNames, asg]⟩
    · have e : i = n := by omega
      subst e
      exact alk_ro fun j hj => by simp only [lsF, go_sem]
  · cases hF
def F94 : Nat → (Nat → Int) → (Nat → Bool) → List AV → Option (List Prop × AV)
  | n, X, T, [] => some ([0 < n, n ≤ 64], i64 (rtL n X T n).length)
  | _, _, _, _ => none
def k94 : Con := cRt F94
theorem con94 : ConOK Tryz.prog 94 k94 := ConOK.cRt (G := [(93, k93)]) (H := []) (.cons con93 .nil) Tryz.func94 fun n X T rest ob r hF hob => by
  unfold F94 at hF
  split at hF
  · cases hF
    have h2 : 0 < n := hob _ (by simp)
    have h3 : n ≤ 64 := hob _ (by simp)
    refine ⟨by kernel_rfl, fnVC_go (rs := [.tmp 2]) rfl rfl ?_⟩
    simp only [go_sem, k93, F93, h2, h3]
    exact alk_refl
  · cases hF
end Go.Ax
end

section
/-
  The reference's table of slots, ars an object; what makes and writes it.
-/
set_option linter.unusedVariables false
set_option linter.unusedSimpArgs false
set_option maxHeartbeats 4000000
set_option maxRecDepth 100000
namespace Go.Ax
open Go.Proofs
structure RtS where
  n : Nat
  G : Nat → Int
  T : Nat → Bool
  tl : Fam
def rtF (K : Nat) (s : RtS) : Fam := famR [⟨1, 2, 125, fun _ => [.own K 1 s.n 1, .own K 2 s.n 1], none⟩, ⟨s.n, 1, 3, fun i => [i64 (s.G i)], none⟩, ⟨s.n, 1, 4, fun i => [bo (s.T i)], none⟩] s.tl
theorem rtF_eq {K : Nat} {s : RtS} : rtF K s = famR [⟨1, 2, 125, fun _ => [.own K 1 s.n 1, .own K 2 s.n 1], none⟩, ⟨s.n, 1, 3, fun i => [i64 (s.G i)], none⟩, ⟨s.n, 1, 4, fun i => [bo (s.T i)], none⟩] s.tl := (rfl)
theorem rtF_inj {K : Nat} {s t : RtS} (h : rtF K s = rtF K t) : s = t := by
  obtain ⟨n, G, T, tl⟩ := s
  obtain ⟨n', G', T', tl'⟩ := t
  have h1 := congrFun h 1
  have h2 := congrFun h 2
  simp only [rtF, famR_1, famR_2, Row.mk.injEq, true_and, and_true] at h1 h2
  obtain ⟨rfl, h1⟩ := h1
  have e1 : G = G' := by
    funext i
    have := congrFun h1 i
    simpa using this
  have e2 : T = T' := by
    funext i
    have := congrFun h2.2 i
    simpa using this
  have e3 : tl = tl' := by
    funext f
    exact congrFun h (f + 3)
  rw [e1, e2, e3]
theorem rtF_ren {s : RtS} (h : tlOK s.tl) {θ : Nat → Nat → Nat × Nat} {g : Nat → Nat → Prop} {B : Nat → Prop} {i K : Nat} (hθ : ∀ f, θ i f = (K, f)) (hg : ∀ f, g i f) (f : Nat) : rowRen θ g B (rtF i s f) (rtF K s f) := by
  match f with
  | 0 =>
    refine ⟨rfl, rfl, rfl, rfl, fun j hj => ⟨?_, fun c hc => ?_⟩⟩
    · show [AV.own K 1 s.n 1, AV.own K 2 s.n 1] = [AV.own (θ i 1).1 (θ i 1).2 s.n 1, AV.own (θ i 2).1 (θ i 2).2 s.n 1]
      rw [hθ, hθ]
    · have hc : c ∈ [AV.own i 1 s.n 1, AV.own i 2 s.n 1] := hc
      simp only [List.mem_cons, List.not_mem_nil, or_false] at hc
      rcases hc with rfl | rfl
      · exact hg 1
      · exact hg 2
  | 1 =>
    refine ⟨rfl, rfl, rfl, rfl, fun j hj => ⟨rfl, fun c hc => ?_⟩⟩
    have hc : c ∈ [i64 (s.G j)] := hc
    simp only [List.mem_cons, List.not_mem_nil, or_false] at hc
    subst hc
    trivial
  | 2 =>
    refine ⟨rfl, rfl, rfl, rfl, fun j hj => ⟨rfl, fun c hc => ?_⟩⟩
    have hc : c ∈ [bo (s.T j)] := hc
    simp only [List.mem_cons, List.not_mem_nil, or_false] at hc
    subst hc
    trivial
  | f + 3 => exact rowRen_tl h f
def oR : Obj RtS where
  fm := rtF
  ok s := tlOK s.tl
  inj _ _ _ h := rtF_inj h
  ren _ h _ _ _ _ _ h1 h2 f := rtF_ren h h1 h2 f
  gn K s h f := match f with
    | 0 => rfl
    | 1 => rfl
    | 2 => rfl
    | f + 3 => (h f).1
theorem oR_fm {K : Nat} {s : RtS} : oR.fm K s = rtF K s := (rfl)
theorem at_R {K : Nat} {m : Mem} {x : RtS} : oR.at K m (some x) = (look m K = some (rtF K x)) := (rfl)
theorem mcOe_R {F : OFun RtS} {K key : Nat} {rest : List AV} {n : Nat} {X : Nat → Int} {T : Nat → Bool} {tl : Fam} : mcOe oR F K key rest (some (famR [⟨1, 2, 125, fun _ => [.own K 1 n 1, .own K 2 n 1], none⟩, ⟨n, 1, 3, fun i => [i64 (X i)], none⟩, ⟨n, 1, 4, fun i => [bo (T i)], none⟩] tl)) = mcOf oR K key ⟨n, X, T, tl⟩ (F ⟨n, X, T, tl⟩ rest) := mcOe_fm (O := oR) (x := ⟨n, X, T, tl⟩)
theorem fam_R {K : Nat} {s : RtS} : oR.fam K (some s) = famR [⟨1, 2, 125, fun _ => [.own K 1 s.n 1, .own K 2 s.n 1], none⟩, ⟨s.n, 1, 3, fun i => [i64 (s.G i)], none⟩, ⟨s.n, 1, 4, fun i => [bo (s.T i)], none⟩] s.tl := (rfl)
theorem ok_R {s : RtS} : oR.ok s = tlOK s.tl := (rfl)
theorem okO_R {s : RtS} : oR.okO (some s) = tlOK s.tl := (rfl)
attribute [go_sem] mcOe_R fam_R ok_R okO_R
/-- May the slot be taken? -/
def mayR (T : Nat → Bool) (X : Nat → Int) (i : Nat) : Bool := !T i && decide (X i < 2147483647)
def upB (T : Nat → Bool) (i : Nat) (v : Bool) : Nat → Bool := fun j => if j = i then v else T j
def tkJ (s : RtS) : Nat := lst (mayR s.T s.G) s.n
def rkH (s : RtS) : Int × Int := if tkJ s < s.n then ((tkJ s : Int), s.G (tkJ s) + 1) else (0, 0)
def rkE (s : RtS) : Int := if tkJ s < s.n then 0 else 10
def rkS (s : RtS) : RtS := if tkJ s < s.n then ⟨s.n, upI s.G (tkJ s) (s.G (tkJ s) + 1), upB s.T (tkJ s) true, s.tl⟩ else s
def rtOK (s : RtS) : Prop := (0 < s.n ∧ s.n ≤ 64) ∧ ∀ i, i < s.n → 0 ≤ s.G i
def F100 : OFun RtS := fun s rest => match rest with
  | [] => some ([rtOK s], fun _ => .tup [haA (rkH s).1 (rkH s).2, i64 (rkE s)], some (rkS s), fun _ => none)
  | _ => none
noncomputable def m100 : MCon := mcO oR F100
theorem mon100 : MConOK Tryz.prog 100 m100 := MConOK.mcO (G := [(124, k124)]) (H := []) (.cons con124 .nil) Tryz.func100 fun s rest ob v x' nw hF hok hok' hob => by
  unfold F100 at hF
  split at hF
  · cases hF
    obtain ⟨⟨h2, h3⟩, h4⟩ : rtOK s := hob _ (by simp)
    clear hok' hob
    refine ⟨by simp, by kernel_rfl, fun key => bodyM_go (rs := [.cell 2 64, .tmp 3]) rfl rfl ?_⟩
    obtain ⟨n, X, T, tl⟩ := s
    dsimp only at h2 h3 h4
    simp only [oR_fm, rtF, go_sem, k124, F124]
    have htl : tlOK tl := hok
    intro z hz
    have hz : z = true := by rw [hz]; exact decide_eq_true h2
    subst hz
    simp only [Bool.true_eq_false, false_imp_iff, true_imp_iff, true_and]
    refine loopN_go (fun (i : Nat) => i ≤ n ∧ ∀ j, j < i → mayR T X j = false) (fun i => n - i) (fun i => [(4, i64 i)]) (fun i => []) [0, 1] [9, 10, 11, 12, 13, 14, 15, 18, 19, 20, 21, 22, 23, 24, 25, 26, 27, 28, 29, 30, 31, 32, 33, 34, 35, 36, 37, 38, 39, 40, 41, 42, 43, 44, 45, 46, 47, 48, 49, 50, 51, 52, 53, 54, 55, 56, 57, 58, 59, 3, 16, 17, 4] 0 0 (by kernel_rfl) ⟨Nat.zero_le _, fun j hj => by omega⟩ ⟨[], ?_, ?_, ?_, ?_⟩ ?_
    · simp only [go_sem]
    · simp only [go_sem]
    · simp only [go_sem]
    · simp [goodNames, asg]
    rintro i ⟨hi, hj⟩
    simp only [go_sem, k124, F124, htl]
    refine ⟨fun h => ⟨by omega, h, by omega, fun _ => by omega, fun _ => by omega, fun _ => by omega, fun _ => trivial, fun ht => ⟨by omega, h, by omega, fun z2 k2 => ⟨by omega, h, by omega, by omega, h, by omega, by omega, h, by omega, ?_⟩⟩, fun hf z k1 => ?_⟩, fun h => ?_⟩
    · have hp : mayR T X i = true := by
        unfold mayR
        rw [ht.1, decide_eq_true ht.2]; rfl
      have hlt : i < n := by omega
      have e : tkJ ⟨n, X, T, tl⟩ = i := lst_eq hj hlt hp
      have hx := h4 i hlt
      have k2 : z2 = X i + 1 := by rw [k2]; exact wrap_in (by unfold inR; omega)
      subst k2
      simp only [rkS, rkH, rkE, e, hlt, if_true]
      refine ⟨?_, newP_none rfl⟩
      rw [at_R]
      have e1 : (fun j => if j = i then [i64 (X i + 1)] else [i64 (X j)]) = fun j => [i64 (upI X i (X i + 1) j)] := by
        funext j
        unfold upI
        split <;> rfl
      have e2 : (fun j => if j = i then [bo true] else [bo (T j)]) = fun j => [bo (upB T i true j)] := by
        funext j
        unfold upB
        split <;> rfl
      simp only [go_sem, rtF, e1, e2]
    · have hp : mayR T X i = false := hf
      refine ⟨i + 1, ⟨by omega, fun j hj2 => ?_⟩, by omega, [], by rw [k1, wrap_in (by unfold inR; omega)]; omega, by simp [goodNames, asg]⟩
      by_cases e : j = i
      · subst e; exact hp
      · exact hj j (by omega)
    · have e : tkJ ⟨n, X, T, tl⟩ = n := by
        unfold tkJ
        exact lst_full fun j hj2 => hj j (by have hj2 : j < n := hj2; omega)
      have hn : ¬ n < n := Nat.lt_irrefl _
      simp only [rkS, rkH, rkE, e, hn, if_false]
      exact ⟨rfl, newP_none rfl⟩
  · cases hF
def rsI (s : RtS) (a g : Int) : Bool := rtOk s.n s.T a && (s.G a.toNat == g)
def rrS (s : RtS) (a g : Int) : RtS := if rsI s a g = true then ⟨s.n, s.G, upB s.T a.toNat false, s.tl⟩ else s
def F101 : OFun RtS := fun s rest => match rest with
  | [.agg [.v (.int .i64 a), .v (.int .i64 g)]] => some ([rtOK s], fun _ => i64 (if rsI s a g = true then 0 else 9), some (rrS s a g), fun _ => none)
  | _ => none
noncomputable def m101 : MCon := mcO oR F101
theorem mon101 : MConOK Tryz.prog 101 m101 := MConOK.mcO (G := [(124, k124), (98, k98)]) (H := [(5, ⟨[(7, .slot 0)], []⟩)]) (.cons con124 (.cons con98 .nil)) Tryz.func101 fun s rest ob v x' nw hF hok hok' hob => by
  unfold F101 at hF
  split at hF
  · rename_i a g
    cases hF
    obtain ⟨⟨h2, h3⟩, h4⟩ : rtOK s := hob _ (by simp)
    clear hok' hob
    refine ⟨by simp [clean, cleanCs, cleanC], by kernel_rfl, fun key => bodyM_go (rs := [.tmp 4]) rfl rfl ?_⟩
    obtain ⟨n, X, T, tl⟩ := s
    dsimp only at h2 h3 h4
    have htl : tlOK tl := hok
    simp only [oR_fm, rtF, go_sem, k124, k98, F124, F98, h2]
    intro z hz
    subst hz
    refine ⟨fun h => (by cases h), fun _ z1 hz1 => ?_⟩
    have e : rsI ⟨n, X, T, tl⟩ a g = z1 := hz1.symm
    refine ⟨fun hf => ?_, fun ht => ?_⟩
    · simp only [rrS, e, hf, Bool.false_eq_true, if_false]
      exact ⟨rfl, newP_none rfl⟩
    · have hb : 0 ≤ a ∧ a < n := by
        have : rtOk n T a = true := by
          rw [ht] at hz1; exact (Bool.and_eq_true _ _ ▸ hz1.symm).1
        unfold rtOk at this
        rw [Bool.and_eq_true, decide_eq_true_iff] at this
        exact this.1
      simp only [rrS, e, ht, if_true]
      refine ⟨hb.1, hb.2, by omega, ?_, newP_none rfl⟩
      rw [at_R]
      have e2 : (fun j => if j = a.toNat then [bo false] else [bo (T j)]) = fun j => [bo (upB T a.toNat false j)] := by
        funext j
        unfold upB
        split <;> rfl
      simp only [go_sem, rtF, e2]
  · cases hF
/-- A table of the reference that is made. -/
theorem newRt {key N r1 r2 r3 : Nat} {n : Nat} {X : Nat → Int} {T : Nat → Bool} {m1 : Mem} {v : Nat → AV} (hv : ∀ θ r, renA θ 3 (v r) = v (θ r 0).1) (hk : ∀ G B r, B r → kg G B 3 (v r)) (h1 : look m1 r1 = some (fam1 125 2 [.own r2 0 n 1, .own r3 0 n 1] none)) (h2 : look m1 r2 = some (famN n 1 3 (fun i => [i64 (X i)]) none)) (h3 : look m1 r3 = some (famN n 1 4 (fun i => [bo (T i)]) none)) (h12 : r1 ≠ r2) (h13 : r1 ≠ r3) (h23 : r2 ≠ r3) (N1 : N ≤ r1) (N2 : N ≤ r2) (N3 : N ≤ r3) : NewP key N (v r1) m1 (v key) (some (rtF key ⟨n, X, T, noRows⟩)) := by
  have ix1 : ixP [(r1, 0), (r2, 0), (r3, 0)] r1 0 = 0 := by simp [ixP]
  have ix2 : ixP [(r1, 0), (r2, 0), (r3, 0)] r2 0 = 1 := by simp [ixP, h12]
  have ix3 : ixP [(r1, 0), (r2, 0), (r3, 0)] r3 0 = 2 := by simp [ixP, h13, h23]
  refine newP_list [(r1, 0), (r2, 0), (r3, 0)] (by simp [h12, h13, h23]) (by simp [N1, N2, N3]) (hk _ _ _ (.inr rfl)) (fun ks hks => ?_) (fun ks hks f r g hf => ?_) (fun f hf => ?_)
  · rw [hv]
    simp only [thL]
    rw [if_neg (by omega)]
  · match f, hf with
    | 0, hf =>
      cases hf
      refine ⟨_, h1, ⟨rfl, rfl, rfl, rfl, fun j hj => ⟨?_, fun c hc => ?_⟩⟩, by simp [fam1]⟩
      · show [AV.own key 1 n 1, AV.own key 2 n 1] = [AV.own (thL ks key (ixP [(r1, 0), (r2, 0), (r3, 0)]) r2 0).1 (thL ks key (ixP [(r1, 0), (r2, 0), (r3, 0)]) r2 0).2 n 1, AV.own (thL ks key (ixP [(r1, 0), (r2, 0), (r3, 0)]) r3 0).1 (thL ks key (ixP [(r1, 0), (r2, 0), (r3, 0)]) r3 0).2 n 1]
        simp only [thL]
        rw [if_neg (by omega), if_neg (by omega), ix2, ix3]
      · have hc : c ∈ [AV.own r2 0 n 1, .own r3 0 n 1] := hc
        simp only [List.mem_cons, List.not_mem_nil, or_false] at hc
        rcases hc with rfl | rfl
        · exact .inr (by rw [ix2]; rfl)
        · exact .inr (by rw [ix3]; rfl)
    | 1, hf =>
      cases hf
      refine ⟨_, h2, ⟨rfl, rfl, rfl, rfl, fun j hj => ⟨rfl, fun c hc => ?_⟩⟩, by simp [famN]⟩
      have hc : c ∈ [i64 (X j)] := hc
      simp only [List.mem_cons, List.not_mem_nil, or_false] at hc
      subst hc; trivial
    | 2, hf =>
      cases hf
      refine ⟨_, h3, ⟨rfl, rfl, rfl, rfl, fun j hj => ⟨rfl, fun c hc => ?_⟩⟩, by simp [famN]⟩
      have hc : c ∈ [bo (T j)] := hc
      simp only [List.mem_cons, List.not_mem_nil, or_false] at hc
      subst hc; trivial
    | f + 3, hf => simp at hf
  · match f, hf with
    | f + 3, _ => rfl
noncomputable def F46 : List AV → Option (List Prop × (Nat → AV) × (Nat → Option Fam))
  | [.v (.int .i64 n)] => if 1 ≤ n ∧ n ≤ 64 then some ([], fun k => .tup [.bx k 0, i64 0], fun k => some (rtF k ⟨n.toNat, fun _ => 0, fun _ => false, noRows⟩)) else some ([], fun _ => .tup [.v (.pointer none), i64 3], fun _ => none)
  | _ => none
noncomputable def m46 : MCon := mcK F46
theorem famNK_R {key : Nat} {n : Nat} {X : Nat → Int} {T : Nat → Bool} : famNK key (rtF key ⟨n, X, T, noRows⟩) = True := eq_true fun f j hj c hc => by
  match f with
  | 0 =>
    have hc : c ∈ [AV.own key 1 n 1, .own key 2 n 1] := hc
    simp only [List.mem_cons, List.not_mem_nil, or_false] at hc
    rcases hc with rfl | rfl <;> rfl
  | 1 =>
    have hc : c ∈ [i64 (X j)] := hc
    simp only [List.mem_cons, List.not_mem_nil, or_false] at hc
    subst hc; trivial
  | 2 =>
    have hc : c ∈ [bo (T j)] := hc
    simp only [List.mem_cons, List.not_mem_nil, or_false] at hc
    subst hc; trivial
  | f + 3 => have hj : j < 0 := hj; omega
attribute [go_sem] famNK_R
noncomputable def F99 : List AV → Option (List Prop × (Nat → AV) × (Nat → Option Fam))
  | [.rop [.ro n 1 g, .ro m 1 h]] => some ([0 < n, n ≤ 64, m = n, ints n g, bools n h], fun k => .bx k 0, fun k => some (rtF k ⟨n, gx g 0, fun i => gz (h i), noRows⟩))
  | _ => none
noncomputable def mN99 : MCon := mcKU F99
theorem mN99_eq : mN99 = mcKU F99 := (rfl)
attribute [go_sem] mN99_eq
theorem mon99 : MConOK Tryz.prog 99 mN99 := MConOK.mkU (G := [(124, k124)]) (H := [(3, ⟨[(5, .made 0)], [(6, [.made 0]), (10, [.made 0])]⟩)]) (.cons con124 .nil) Tryz.func99 fun es ob v nw hF hob => by
  unfold F99 at hF
  split at hF
  · rename_i n g m h
    cases hF
    have h2 : 0 < n := hob _ (by simp)
    have h64 : n ≤ 64 := hob _ (by simp)
    have hm : m = n := hob _ (by simp)
    subst hm
    have h3 : ints m g := hob _ (by simp)
    have h4 : bools m h := hob _ (by simp)
    refine ⟨[rtR m (gx g 0) fun i => gz (h i)], fun w I vs hR => ?_, by simp [clean], by kernel_rfl, fun key => bodyM_go (rs := [.tmp 2]) rfl rfl ?_⟩
    · obtain ⟨y, ys, rfl, k1, k2⟩ := hR.inv
      exact .cons (R_rslots h3 h4 k1) k2
    simp only [go_sem, k124, h2, F124]
    have hb : bytesT Tryz.prog 3 = 8 := by kernel_rfl
    have hb4 : bytesT Tryz.prog 4 = 1 := by kernel_rfl
    intro z hz
    subst hz
    refine ⟨fun h => (by cases h), fun _ => ⟨okCells_all fun i => rfl, by rw [hb]; omega, by omega, okCells_all fun i => rfl, by rw [hb4]; omega, by omega, ?_⟩⟩
    simp only [Nat.zero_add, Nat.not_lt_zero, if_false, Nat.sub_zero]
    exact newRt (v := fun k => .bx k 0) (X := fun i => gi (g i) 0) (T := fun i => gz (h i)) (r2 := 9) (r3 := 15) (fun _ _ => rfl) (fun G B r hr => hr) rfl rfl rfl (by decide) (by decide) (by decide) (Nat.zero_le _) (Nat.zero_le _) (Nat.zero_le _)
  · cases hF
def F53 : List AV → Option (List Prop × (Nat → AV) × (Nat → Option Fam))
  | [.ro n 1 g] => some ([n ≤ 100000, ints n g], fun k => .own k 0 n 1, fun k => some (famN n 1 3 (fun i => [i64 (gx g 0 i)]) none))
  | _ => none
noncomputable def mN53 : MCon := mcKU F53
theorem mN53_eq : mN53 = mcKU F53 := (rfl)
theorem mon53 : MConOK Tryz.prog 53 mN53 := MConOK.mkU (G := []) (H := []) .nil Tryz.func53 fun es ob v nw hF hob => by
  unfold F53 at hF
  split at hF
  · rename_i n g
    cases hF
    have h2 : n ≤ 100000 := hob _ (by simp)
    have h3 : ints n g := hob _ (by simp)
    refine ⟨[.ro n 1 fun i => [i64 (gx g 0 i)]], fun w I vs hR => ?_, by simp [clean], by kernel_rfl, fun key => bodyM_go (rs := [.tmp 2]) rfl rfl ?_⟩
    · obtain ⟨y, ys, rfl, k1, k2⟩ := hR.inv
      exact .cons (ro_alike (fun i hi => h3 i hi) k1) k2
    simp only [go_sem, h2]
    have hb : bytesT Tryz.prog 3 = 8 := by kernel_rfl
    refine ⟨okCells_all fun i => rfl, by rw [hb]; omega, by omega, ?_⟩
    simp only [Nat.zero_add, Nat.not_lt_zero, if_false, Nat.sub_zero]
    exact newN rfl (Nat.zero_le _) fun j hj => ⟨rfl, fun c hc => by
      have hc : c ∈ [i64 (gi (g j) 0)] := hc
      simp only [List.mem_cons, List.not_mem_nil, or_false] at hc
      subst hc; rfl⟩
  · cases hF
def F54 : List AV → Option (List Prop × (Nat → AV) × (Nat → Option Fam))
  | [.ro n 1 g] => some ([n ≤ 100000, bools n g], fun k => .own k 0 n 1, fun k => some (famN n 1 4 (fun i => [bo (gz (g i))]) none))
  | _ => none
noncomputable def mN54 : MCon := mcKU F54
theorem mN54_eq : mN54 = mcKU F54 := (rfl)
theorem mon54 : MConOK Tryz.prog 54 mN54 := MConOK.mkU (G := []) (H := []) .nil Tryz.func54 fun es ob v nw hF hob => by
  unfold F54 at hF
  split at hF
  · rename_i n g
    cases hF
    have h2 : n ≤ 100000 := hob _ (by simp)
    have h3 : bools n g := hob _ (by simp)
    refine ⟨[.ro n 1 fun i => [bo (gz (g i))]], fun w I vs hR => ?_, by simp [clean], by kernel_rfl, fun key => bodyM_go (rs := [.tmp 2]) rfl rfl ?_⟩
    · obtain ⟨y, ys, rfl, k1, k2⟩ := hR.inv
      exact .cons (ro_alike (fun i hi => h3 i hi) k1) k2
    simp only [go_sem, h2]
    have hb : bytesT Tryz.prog 4 = 1 := by kernel_rfl
    refine ⟨okCells_all fun i => rfl, by rw [hb]; omega, by omega, ?_⟩
    simp only [Nat.zero_add, Nat.not_lt_zero, if_false, Nat.sub_zero]
    exact newN rfl (Nat.zero_le _) fun j hj => ⟨rfl, fun c hc => by
      have hc : c ∈ [bo (gz (g j))] := hc
      simp only [List.mem_cons, List.not_mem_nil, or_false] at hc
      subst hc; rfl⟩
  · cases hF
end Go.Ax
end

section
/-
  Tables that are restored: the program's, and the reference's.
-/
set_option linter.unusedVariables false
set_option linter.unusedSimpArgs false
set_option maxHeartbeats 4000000
set_option maxRecDepth 100000
namespace Go.Ax
open Go.Proofs
/-! ### A mark in a table whose generations are a row of their own -/
theorem fam1_inj {ty sz : Nat} {l l' : List AV} {g : Option Bool} (h : fam1 ty sz l g = fam1 ty sz l' g) : l = l' := by
  have h0 := congrFun h 0
  simp only [fam1, if_true, Row.mk.injEq, true_and, and_true] at h0
  exact congrFun h0 0
theorem famN_inj {n sz ty : Nat} {X X' : Nat → List AV} {g : Option Bool} (h : famN n sz ty X g = famN n sz ty X' g) : X = X' := by
  have h0 := congrFun h 0
  simp only [famN, if_true, Row.mk.injEq, true_and, and_true] at h0
  exact h0
open Classical in
noncomputable def dW (fam : Fam) : Option (Int × Nat × Nat) := if h : ∃ q : Int × Nat × Nat, fam = fam1 100 2 [u64 q.1, .own q.2.1 0 q.2.2 1] none then some (Classical.choose h) else none
theorem dW_fam {x : Int} {b n : Nat} : dW (fam1 100 2 [u64 x, .own b 0 n 1] none) = some (x, b, n) := by
  have h : ∃ q : Int × Nat × Nat, fam1 100 2 [u64 x, .own b 0 n 1] none = fam1 100 2 [u64 q.1, .own q.2.1 0 q.2.2 1] none := ⟨(x, b, n), rfl⟩
  unfold dW
  rw [dif_pos h]
  have h2 := Classical.choose_spec h
  generalize Classical.choose h = q at h2
  obtain ⟨x', b', n'⟩ := q
  have := fam1_inj h2
  simp at this
  obtain ⟨rfl, rfl, rfl⟩ := this
  rfl
theorem dW_some {fam : Fam} {x : Int} {b n : Nat} (h : dW fam = some (x, b, n)) : fam = fam1 100 2 [u64 x, .own b 0 n 1] none := by
  unfold dW at h
  split at h
  · rename_i hh
    have h2 := Classical.choose_spec hh
    have h : Classical.choose hh = (x, b, n) := Option.some.inj h
    rw [h] at h2
    exact h2
  · cases h
open Classical in
noncomputable def dG (n : Nat) (fam : Fam) : Option (Nat → Int) := if h : ∃ X : Nat → Int, fam = famN n 1 3 (fun i => [i64 (X i)]) none then some (Classical.choose h) else none
theorem dG_fam {n : Nat} {X : Nat → Int} : dG n (famN n 1 3 (fun i => [i64 (X i)]) none) = some X := by
  have h : ∃ Y : Nat → Int, famN n 1 3 (fun i => [i64 (X i)]) none = famN n 1 3 (fun i => [i64 (Y i)]) none := ⟨X, rfl⟩
  unfold dG
  rw [dif_pos h]
  have h2 := Classical.choose_spec h
  generalize Classical.choose h = Y at h2
  have h3 := famN_inj h2
  have : X = Y := by
    funext i
    have := congrFun h3 i
    simpa using this
  rw [this]
theorem dG_some {n : Nat} {fam : Fam} {X : Nat → Int} (h : dG n fam = some X) : fam = famN n 1 3 (fun i => [i64 (X i)]) none := by
  unfold dG at h
  split at h
  · rename_i hh
    have h2 := Classical.choose_spec hh
    have h : Classical.choose hh = X := Option.some.inj h
    rw [h] at h2
    exact h2
  · cases h
noncomputable def w89c (K : Nat) (i x : Int) (b n : Nat) : Option (Nat → Int) → Option Eff
  | some X => some ⟨[K ≠ b, 0 ≤ x, x < 18446744073709551616, 0 ≤ i, i < 64], .tup [], .many [(K, fam1 100 2 [u64 (setX x i), .own b 0 n 1] none), (b, famN n 1 3 (fun i => [i64 (X i)]) none)] none⟩
  | none => none
noncomputable def w89b (K : Nat) (i x : Int) (b n : Nat) : Option Fam → Option Eff
  | some fam => w89c K i x b n (dG n fam)
  | none => none
noncomputable def w89d (K : Nat) (i : Int) (m : Mem) : Option (Int × Nat × Nat) → Option Eff
  | some (x, b, n) => w89b K i x b n (look m b)
  | none => none
noncomputable def w89a (K : Nat) (i : Int) (m : Mem) : Option Fam → Option Eff
  | some fam => w89d K i m (dW fam)
  | none => none
noncomputable def m89W : MCon := fun key m es => match es with
  | [.bx K 0, .v (.int .i64 i)] => w89a K i m (look m K)
  | _ => none
theorem m89W_eq {key K : Nat} {m : Mem} {i : Int} : m89W key m [.bx K 0, i64 i] = w89a K i m (look m K) := (rfl)
theorem w89a_fam {K : Nat} {i : Int} {m : Mem} {x : Int} {b n : Nat} : w89a K i m (some (fam1 100 2 [u64 x, .own b 0 n 1] none)) = w89b K i x b n (look m b) := by
  unfold w89a
  dsimp only
  rw [dW_fam]
  rfl
theorem w89b_fam {K : Nat} {i : Int} {x : Int} {b n : Nat} {X : Nat → Int} : w89b K i x b n (some (famN n 1 3 (fun i => [i64 (X i)]) none)) = some ⟨[K ≠ b, 0 ≤ x, x < 18446744073709551616, 0 ≤ i, i < 64], .tup [], .many [(K, fam1 100 2 [u64 (setX x i), .own b 0 n 1] none), (b, famN n 1 3 (fun i => [i64 (X i)]) none)] none⟩ := by
  unfold w89b
  dsimp only
  rw [dG_fam]
  rfl
theorem row1_ren {θ : Nat → Nat → Nat × Nat} {g : Nat → Nat → Prop} {B : Nat → Prop} {x : Int} {b n : Nat} (hθ : θ 1 0 = (b, 0)) (hg : g 1 0) (f : Nat) : rowRen θ g B (fam1 100 2 [u64 x, .own 1 0 n 1] none f) (fam1 100 2 [u64 x, .own b 0 n 1] none f) := by
  by_cases hf : f = 0
  · subst hf
    refine ⟨rfl, rfl, rfl, rfl, fun j hj => ⟨?_, fun c hc => ?_⟩⟩
    · show [u64 x, AV.own b 0 n 1] = [u64 x, AV.own (θ 1 0).1 (θ 1 0).2 n 1]
      rw [hθ]
    · have hc : c ∈ [u64 x, AV.own 1 0 n 1] := hc
      simp only [List.mem_cons, List.not_mem_nil, or_false] at hc
      rcases hc with rfl | rfl
      · trivial
      · exact hg
  · unfold fam1
    rw [if_neg hf, if_neg hf]
    exact ⟨rfl, rfl, rfl, rfl, fun j hj => by have hj : j < 0 := hj; omega⟩
theorem row2_ren {θ : Nat → Nat → Nat × Nat} {g : Nat → Nat → Prop} {B : Nat → Prop} {n : Nat} {X : Nat → Int} (f : Nat) : rowRen θ g B (famN n 1 3 (fun i => [i64 (X i)]) none f) (famN n 1 3 (fun i => [i64 (X i)]) none f) := by
  refine rowRen_clean' (.refl _) fun j hj c hc => ?_
  by_cases hf : f = 0
  · subst hf
    have hc : c ∈ [i64 (X j)] := hc
    simp only [List.mem_cons, List.not_mem_nil, or_false] at hc
    subst hc; rfl
  · unfold famN at hj
    rw [if_neg hf] at hj
    have hj : j < 0 := hj
    omega
theorem mon89W : MConOK Tryz.prog 89 m89W := by
  refine MConOK.of (G := []) (H := []) .nil Tryz.func89 fun key m es e hc hob => ?_
  unfold m89W at hc
  split at hc
  · rename_i K i
    unfold w89a at hc
    split at hc
    · rename_i fam hl
      unfold w89d at hc
      split at hc
      · rename_i x b n hd
        obtain rfl := dW_some hd
        unfold w89b at hc
        split at hc
        · rename_i famb hl2
          unfold w89c at hc
          split at hc
          · rename_i X hX
            obtain rfl := dG_some hX
            cases hc
            have hne : K ≠ b := hob _ (by simp)
            have h0 : 0 ≤ x := hob _ (by simp)
            have h1 : x < 18446744073709551616 := hob _ (by simp)
            have h2 : 0 ≤ i := hob _ (by simp)
            have h3 : i < 64 := hob _ (by simp)
            refine ⟨[K, b], [(0, fam1 100 2 [u64 x, .own 1 0 n 1] none), (1, famN n 1 3 (fun i => [i64 (X i)]) none)], [.bx 0 0, i64 i], ⟨by simp [hne], rfl, fun a ha => ?_, fun j hj => ?_, fun q z hq => ?_⟩, by kernel_rfl, ?_⟩
            · simp only [List.mem_cons, List.not_mem_nil, or_false] at ha
              rcases ha with rfl | rfl
              · show (0 : Nat) < 2
                omega
              · trivial
            · match j, hj with
              | 0, _ => exact ⟨_, _, rfl, hl, fun f => ⟨by unfold fam1; split <;> rfl, row1_ren (θ := thE [K, b]) (g := lowG 2) (B := lowB 2) rfl (by show (1 : Nat) < 2; omega) f⟩⟩
              | 1, _ => exact ⟨_, _, rfl, hl2, fun f => ⟨by unfold famN; split <;> rfl, row2_ren f⟩⟩
              | j + 2, hj =>
                have hj : j + 2 < 2 := hj
                omega
            · by_cases e : q = 0
              · subst e; simp
              · by_cases e2 : q = 1
                · subst e2; simp
                · simp [look, Ne.symm e, Ne.symm e2] at hq
            · have hb : bodyM Tryz.prog [] [] Tryz.f89 [.bx 0 0, i64 i] [(0, fam1 100 2 [u64 x, .own 1 0 n 1] none), (1, famN n 1 3 (fun i => [i64 (X i)]) none)] 2 fun a m1 => a = .tup [] ∧ look m1 0 = some (fam1 100 2 [u64 (setX x i), .own 1 0 n 1] none) ∧ look m1 1 = some (famN n 1 3 (fun i => [i64 (X i)]) none) := by
                refine bodyM_go (rs := []) rfl rfl ?_
                simp only [go_sem]
                obtain ⟨k, rfl⟩ : ∃ k : Nat, i = k := ⟨i.toNat, by omega⟩
                obtain ⟨a, rfl⟩ : ∃ a : Nat, x = a := ⟨x.toNat, by omega⟩
                intro z1 e1
                have hk := fun z2 e2 => setX_nat (z3 := 0) (by omega : k < 64) (by omega : a < _) e1 (z2 := z2) e2
                refine ⟨(hk _ rfl).1, fun z2 e2 z3 e3 => ?_⟩
                obtain ⟨_, rfl, hp⟩ := hk z2 e2
                have e : z3 = setX a k := by
                  rw [e3, orI_nat (by omega) hp]
                  rfl
                rw [e]
              refine hb.mono fun a m1 ⟨q1, q2, q3⟩ => ⟨fun _ => none, fun _ _ => 0, [fam1 100 2 [u64 (setX x i), .own b 0 n 1] none, famN n 1 3 (fun i => [i64 (X i)]) none], none, rfl, ⟨fun f r g h => by simp at h, by rw [q1]; rfl, (by rw [q1]; exact fun c hc => (by cases hc)), rfl, fun j hj => ?_, fun _ => rfl⟩⟩
              match j, hj with
              | 0, _ => exact .inr ⟨_, _, q2, rfl, fun f => ⟨row1_ren (θ := thL [K, b] key fun _ _ => 0) (g := newG 2 (fun _ => none) fun _ _ => 0) (B := newB 2 fun _ => none) rfl (.inl (by omega)) f, by unfold fam1; split <;> simp⟩⟩
              | 1, _ => exact .inr ⟨_, _, q3, rfl, fun f => ⟨row2_ren f, by unfold famN; split <;> simp⟩⟩
              | j + 2, hj =>
                have hj : j + 2 < 2 := hj
                omega
          · cases hc
        · cases hc
      · cases hc
    · cases hc
  · cases hc
/-! ### Restored -/
def roB : AV → Option (List Prop × Nat × (Nat → Bool))
  | .ro n 1 g => some ([bools n g], n, fun i => gz (g i))
  | .v (.slice none 0 0) => some ([], 0, fun _ => false)
  | _ => none
def roJ : AV → Option (List Prop × Nat × (Nat → Int))
  | .ro n 1 g => some ([ints n g], n, gx g 0)
  | .v (.slice none 0 0) => some ([], 0, fun _ => 0)
  | _ => none
theorem roB_sound {a : AV} {ob : List Prop} {n : Nat} {T : Nat → Bool} {w : World} {ρ : Env} {v : Value} (h : roB a = some (ob, n, T)) (hob : ∀ p ∈ ob, p) (hR : R w ρ a v) : R w ρ (.ro n 1 fun i => [bo (T i)]) v := by
  unfold roB at h
  split at h
  · rename_i n g
    cases h
    have h1 : bools n g := hob _ (by simp)
    exact ro_alike (fun i hi => h1 i hi) hR
  · cases h; exact alk_nil w ρ v hR
  · cases h
theorem roJ_sound {a : AV} {ob : List Prop} {n : Nat} {X : Nat → Int} {w : World} {ρ : Env} {v : Value} (h : roJ a = some (ob, n, X)) (hob : ∀ p ∈ ob, p) (hR : R w ρ a v) : R w ρ (.ro n 1 fun i => [i64 (X i)]) v := by
  unfold roJ at h
  split at h
  · rename_i n g
    cases h
    have h1 : ints n g := hob _ (by simp)
    exact ro_alike (fun i hi => h1 i hi) hR
  · cases h; exact alk_nil w ρ v hR
  · cases h
def badG (G : Nat → Int) (i : Nat) : Bool := decide (G i < 0) || decide (2147483647 < G i)
def badT (G : Nat → Int) (T : Nat → Bool) (i : Nat) : Bool := T i && (G i == 0)
def rsE (n m : Nat) (G : Nat → Int) (T : Nat → Bool) : Int := if n < 1 ∨ 64 < n then 3 else if lst (badG G) n < n then 3 else if m ≠ n then 4 else if lst (badT G T) n < n then 4 else 0
def xOf (T : Nat → Bool) : Nat → Int
  | 0 => 0
  | i + 1 => if T i = true then setX (xOf T i) i else xOf T i
theorem xOf_lt {T : Nat → Bool} : ∀ {k : Nat}, k ≤ 64 → 0 ≤ xOf T k ∧ xOf T k < 18446744073709551616
  | 0, _ => ⟨Int.le_refl 0, by show (0 : Int) < _; omega⟩
  | k + 1, h => by
    have ih := xOf_lt (T := T) (k := k) (by omega)
    unfold xOf
    split
    · unfold setX
      have := setN_lt (a := (xOf T k).toNat) (k := k) (by omega) (by omega)
      rw [Int.toNat_natCast]
      omega
    · exact ih
theorem xOf_bit {T : Nat → Bool} {j : Nat} : ∀ {k : Nat}, (xOf T k).toNat.testBit j = (decide (j < k) && T j)
  | 0 => by simp [xOf]
  | k + 1 => by
    have ih := xOf_bit (T := T) (j := j) (k := k)
    unfold xOf
    have hlt : decide (j < k + 1) = (decide (j < k) || decide (j = k)) := by rw [← Bool.decide_or]; exact decide_eq_decide.2 (by omega)
    rw [hlt]
    split
    · rename_i ht
      unfold setX
      rw [Int.toNat_natCast, Int.toNat_natCast, setN_bit, ih]
      by_cases e : j = k
      · subst e; simp [ht]
      · rw [decide_eq_false e, Bool.or_false, Bool.or_false]
    · rename_i ht
      rw [ih]
      by_cases e : j = k
      · subst e
        have : T j = false := by simpa using ht
        rw [this]; simp
      · rw [decide_eq_false e, Bool.or_false]
noncomputable def F55f : Option (List Prop × Nat × (Nat → Int)) → Option (List Prop × Nat × (Nat → Bool)) → Option (List Prop × (Nat → AV) × (Nat → Option Fam))
  | some (o1, n, G), some (o2, m, T) => if rsE n m G T = 0 then some (o1 ++ o2, fun k => .tup [.bx k 0, i64 0], fun k => some (slF k ⟨xOf T n, n, G, noRows⟩)) else some (o1 ++ o2, fun _ => .tup [.v (.pointer none), i64 (rsE n m G T)], fun _ => none)
  | _, _ => none
noncomputable def F55 : List AV → Option (List Prop × (Nat → AV) × (Nat → Option Fam))
  | [a, b] => F55f (roJ a) (roB b)
  | _ => none
noncomputable def mN55 : MCon := mcKU F55
theorem mN55_eq : mN55 = mcKU F55 := (rfl)
theorem mon55 : MConOK Tryz.prog 55 mN55 := MConOK.mkU (G := [(91, .wr mN91), (89, .wr m89W)]) (H := []) (.mcons mon91 (.mcons mon89W .nil)) Tryz.func55 fun es ob v nw hF hob => by
  unfold F55 at hF
  split at hF
  · rename_i a b
    unfold F55f at hF
    split at hF
    · rename_i o1 n G o2 m T ha hb
      have hob' : ∀ p ∈ o1 ++ o2, p := by
        split at hF <;> (cases hF; exact hob)
      refine ⟨[.ro n 1 fun i => [i64 (G i)], .ro m 1 fun i => [bo (T i)]], fun w I vs hR => ?_, by simp [clean], by kernel_rfl, fun key => bodyM_go (rs := [.tmp 4, .tmp 5]) rfl rfl ?_⟩
      · obtain ⟨y, ys, rfl, k1, k2⟩ := hR.inv
        obtain ⟨y2, ys2, rfl, k3, k4⟩ := k2.inv
        exact .cons (roJ_sound ha (fun p hp => hob' p (by simp [hp])) k1) (.cons (roB_sound hb (fun p hp => hob' p (by simp [hp])) k3) k4)
      have fin : ∀ (e : Int) (m1 : Mem), rsE n m G T = e → e ≠ 0 → NewP key 0 (.tup [.v (.pointer none), i64 e]) m1 (v key) (nw key) := fun e m1 he hne => by
        rw [if_neg (by rw [he]; exact hne)] at hF
        cases hF
        rw [he]
        exact newP_none rfl
      simp only [go_sem, m89W]
      refine ⟨fun h => fin 3 _ (by unfold rsE; rw [if_pos (by omega)]) (by decide), fun h => ?_⟩
      have hn : ¬ (n < 1 ∨ 64 < n) := by omega
      refine loopN_go (fun (i : Nat) => i ≤ n ∧ ∀ j, j < i → badG G j = false) (fun i => n - i) (fun i => [(21, i64 i)]) (fun i => []) [] [22, 23, 24, 7, 25, 26, 27, 28, 29, 30, 4, 5, 31, 21] 0 0 (by kernel_rfl) ⟨Nat.zero_le _, fun j hj => by omega⟩ ⟨[], ?_, ?_, ?_, ?_⟩ ?_
      · simp only [go_sem]
      · simp only [go_sem]
      · simp only [go_sem]
      · simp [goodNames, asg]
      rintro i ⟨hi, hj⟩
      have n1 : 0 < n := by omega
      have n2 : n ≤ 64 := by omega
      simp only [go_sem, m89W, F91, n1, n2]
      refine ⟨fun h => ⟨by omega, h, fun hb => fin 3 _ ?_ (by decide), fun hb z hz => ⟨i + 1, ⟨by omega, fun j h2 => ?_⟩, by omega, [], by rw [hz, wrap_in (by unfold inR; omega)]; omega, by simp [goodNames, asg]⟩⟩, fun h => ?_⟩
      · have hb : badG G i = true := by
          unfold badG
          rw [Bool.or_eq_true, decide_eq_true_iff, decide_eq_true_iff]; exact hb
        unfold rsE
        rw [if_neg hn, if_pos]
        rw [lst_eq hj (by omega : i < n) hb]; omega
      · by_cases e : j = i
        · subst e
          unfold badG
          rw [decide_eq_false hb.1, decide_eq_false hb.2]; rfl
        · exact hj j (by omega)
      have hG : ¬ lst (badG G) n < n := by rw [lst_full fun j h2 => hj j (by omega)]; omega
      refine ⟨fun hne => fin 4 _ ?_ (by decide), fun heq => ?_⟩
      · have hne : (m : Int) ≠ n := by simpa using hne
        unfold rsE
        rw [if_neg hn, if_neg hG, if_pos (by omega)]
      have hmn : m = n := by
        have : (m : Int) = n := by simpa using heq
        omega
      subst hmn
      refine loopN_go (fun (i : Nat) => i ≤ m ∧ ∀ j, j < i → badT G T j = false) (fun i => m - i) (fun i => [(43, i64 i)]) (fun i => [(22, fam1 100 2 [u64 (xOf T i), .own 20 0 m 1] none)]) [20] [44, 45, 46, 47, 9, 10, 48, 49, 50, 51, 52, 53, 54, 4, 5, 55, 56, 57, 58, 59, 60, 43] 0 0 (by kernel_rfl) ⟨Nat.zero_le _, fun j hj => by omega⟩ ⟨[], ?_, ?_, ?_, ?_⟩ ?_
      · simp only [go_sem]
      · simp only [go_sem]
        rfl
      · simp only [go_sem]
      · simp [goodNames, asg]
      rintro k ⟨hk, hkj⟩
      simp only [go_sem, m89W, m89W_eq, w89a_fam, w89b_fam]
      have hX := xOf_lt (T := T) (k := k) (by omega)
      have hfit : ∀ (y : Nat) (x : Int), x = xOf T y → fitRows 27 27 [] [(22, fam1 100 2 [u64 x, AV.own 20 0 m 1] none), (20, famN m 1 3 (fun i => [i64 (G i)]) none)] [(22, fam1 100 2 [u64 (xOf T y), AV.own 20 0 m 1] none)] := fun y x hx => by
        simp only [go_sem]
        exact hx
      have hstep : badT G T k = false → ∀ j, j < k + 1 → badT G T j = false := fun hp j hj2 => by
        by_cases e : j = k
        · subst e; exact hp
        · exact hkj j (by omega)
      refine ⟨fun h1 => ⟨by omega, h1, fun hf z hz => ⟨k + 1, ⟨by omega, hstep (by unfold badT; rw [hf]; rfl)⟩, by omega, [], by rw [hz, wrap_in (by unfold inR; omega)]; omega, hfit _ _ (by rw [xOf, if_neg (by rw [hf]; decide)]), by simp [goodNames, asg]⟩, fun ht => ⟨by omega, h1, fun h0 => fin 4 _ ?_ (by decide), fun h0 => ⟨by decide, hX.1, hX.2, by omega, by omega, fun z hz => ⟨k + 1, ⟨by omega, hstep (by unfold badT; rw [h0, Bool.and_false])⟩, by omega, [], by rw [hz, wrap_in (by unfold inR; omega)]; omega, hfit _ _ (by rw [xOf, if_pos ht]), by simp [goodNames, asg]⟩⟩⟩⟩, fun h1 => ?_⟩
      · have hb : badT G T k = true := by unfold badT; rw [ht, h0]; rfl
        unfold rsE
        rw [if_neg hn, if_neg hG, if_neg (by simp), if_pos]
        rw [lst_eq hkj (by omega : k < m) hb]; omega
      · have e : k = m := by omega
        subst e
        have h0 : rsE k k G T = 0 := by
          unfold rsE
          rw [if_neg hn, if_neg hG, if_neg (by simp), if_neg]
          rw [lst_full fun j h2 => hkj j (by omega)]; omega
        rw [if_pos h0] at hF
        cases hF
        exact newS (v := fun k => .tup [.bx k 0, i64 0]) (X := G) (r1 := 22) (r2 := 20) (fun _ _ => rfl) (fun G B r hr c hc => by
          simp only [List.mem_cons, List.not_mem_nil, or_false] at hc
          rcases hc with rfl | rfl
          · exact hr
          · trivial) rfl rfl (by decide) (Nat.zero_le _) (Nat.zero_le _)
    · cases hF
  · cases hF
noncomputable def F56f : Option (List Prop × Nat × (Nat → Int)) → Option (List Prop × Nat × (Nat → Bool)) → Option (List Prop × (Nat → AV) × (Nat → Option Fam))
  | some (o1, n, G), some (o2, m, T) => if rsE n m G T = 0 then some (o1 ++ o2, fun k => .tup [.bx k 0, i64 0], fun k => some (rtF k ⟨n, G, T, noRows⟩)) else some (o1 ++ o2, fun _ => .tup [.v (.pointer none), i64 (rsE n m G T)], fun _ => none)
  | _, _ => none
noncomputable def F56 : List AV → Option (List Prop × (Nat → AV) × (Nat → Option Fam))
  | [a, b] => F56f (roJ a) (roB b)
  | _ => none
noncomputable def mN56 : MCon := mcKU F56
theorem mN56_eq : mN56 = mcKU F56 := (rfl)
theorem mon56 : MConOK Tryz.prog 56 mN56 := MConOK.mkU (G := []) (H := []) .nil Tryz.func56 fun es ob v nw hF hob => by
  unfold F56 at hF
  split at hF
  · rename_i a b
    unfold F56f at hF
    split at hF
    · rename_i o1 n G o2 m T ha hb
      have hob' : ∀ p ∈ o1 ++ o2, p := by
        split at hF <;> (cases hF; exact hob)
      refine ⟨[.ro n 1 fun i => [i64 (G i)], .ro m 1 fun i => [bo (T i)]], fun w I vs hR => ?_, by simp [clean], by kernel_rfl, fun key => bodyM_go (rs := [.tmp 4, .tmp 5]) rfl rfl ?_⟩
      · obtain ⟨y, ys, rfl, k1, k2⟩ := hR.inv
        obtain ⟨y2, ys2, rfl, k3, k4⟩ := k2.inv
        exact .cons (roJ_sound ha (fun p hp => hob' p (by simp [hp])) k1) (.cons (roB_sound hb (fun p hp => hob' p (by simp [hp])) k3) k4)
      have fin : ∀ (e : Int) (m1 : Mem), rsE n m G T = e → e ≠ 0 → NewP key 0 (.tup [.v (.pointer none), i64 e]) m1 (v key) (nw key) := fun e m1 he hne => by
        rw [if_neg (by rw [he]; exact hne)] at hF
        cases hF
        rw [he]
        exact newP_none rfl
      simp only [go_sem]
      refine ⟨fun h => fin 3 _ (by unfold rsE; rw [if_pos (by omega)]) (by decide), fun h => ?_⟩
      have hn : ¬ (n < 1 ∨ 64 < n) := by omega
      have n1 : 0 < n := by omega
      have n2 : n ≤ 64 := by omega
      refine loopN_go (fun (i : Nat) => i ≤ n ∧ ∀ j, j < i → badG G j = false) (fun i => n - i) (fun i => [(6, i64 i)]) (fun i => []) [] [16, 17, 18, 19, 22, 23, 24, 25, 26, 27, 28, 29, 30, 31, 32, 33, 4, 5, 20, 21, 6] 0 0 (by kernel_rfl) ⟨Nat.zero_le _, fun j hj => by omega⟩ ⟨[], ?_, ?_, ?_, ?_⟩ ?_
      · simp only [go_sem]
      · simp only [go_sem]
      · simp only [go_sem]
      · simp [goodNames, asg]
      rintro i ⟨hi, hj⟩
      simp only [go_sem]
      refine ⟨fun h => ⟨by omega, h, fun _ => by omega, fun _ => h, fun hb => fin 3 _ ?_ (by decide), fun hb z hz => ⟨i + 1, ⟨by omega, fun j h2 => ?_⟩, by omega, [], by rw [hz, wrap_in (by unfold inR; omega)]; omega, by simp [goodNames, asg]⟩⟩, fun h => ?_⟩
      · have hb : badG G i = true := by
          unfold badG
          rw [Bool.or_eq_true, decide_eq_true_iff, decide_eq_true_iff]; exact hb
        unfold rsE
        rw [if_neg hn, if_pos]
        rw [lst_eq hj (by omega : i < n) hb]; omega
      · by_cases e : j = i
        · subst e
          unfold badG
          rw [decide_eq_false hb.1, decide_eq_false hb.2]; rfl
        · exact hj j (by omega)
      have hG : ¬ lst (badG G) n < n := by rw [lst_full fun j h2 => hj j (by omega)]; omega
      refine ⟨fun hne => fin 4 _ ?_ (by decide), fun heq => ?_⟩
      · have hne : (m : Int) ≠ n := by simpa using hne
        unfold rsE
        rw [if_neg hn, if_neg hG, if_pos (by omega)]
      have hmn : m = n := by
        have : (m : Int) = n := by simpa using heq
        omega
      subst hmn
      refine loopN_go (fun (i : Nat) => i ≤ m ∧ ∀ j, j < i → badT G T j = false) (fun i => m - i) (fun i => [(7, i64 i)]) (fun i => []) [] [39, 40, 41, 42, 45, 46, 47, 48, 49, 50, 51, 52, 53, 54, 55, 4, 5, 43, 44, 7] 0 0 (by kernel_rfl) ⟨Nat.zero_le _, fun j hj => by omega⟩ ⟨[], ?_, ?_, ?_, ?_⟩ ?_
      · simp only [go_sem]
      · simp only [go_sem]
      · simp only [go_sem]
      · simp [goodNames, asg]
      rintro k ⟨hk, hkj⟩
      simp only [go_sem]
      refine ⟨fun h1 => ⟨by omega, h1, fun _ => by omega, fun _ => h1, fun hb => fin 4 _ ?_ (by decide), fun hf z hz => ⟨k + 1, ⟨by omega, fun j h2 => ?_⟩, by omega, [], by rw [hz, wrap_in (by unfold inR; omega)]; omega, by simp [goodNames, asg]⟩⟩, fun h1 => ?_⟩
      · have hb : badT G T k = true := by unfold badT; rw [hb.1, hb.2]; rfl
        unfold rsE
        rw [if_neg hn, if_neg hG, if_neg (by simp), if_pos]
        rw [lst_eq hkj (by omega : k < m) hb]; omega
      · by_cases e : j = k
        · subst e; exact hf
        · exact hkj j (by omega)
      · have e : k = m := by omega
        subst e
        have h0 : rsE k k G T = 0 := by
          unfold rsE
          rw [if_neg hn, if_neg hG, if_neg (by simp), if_neg]
          rw [lst_full fun j h2 => hkj j (by omega)]; omega
        rw [if_pos h0] at hF
        cases hF
        have hb3 : bytesT Tryz.prog 3 = 8 := by kernel_rfl
        have hb4 : bytesT Tryz.prog 4 = 1 := by kernel_rfl
        refine ⟨okCells_all fun i => rfl, by rw [hb3]; omega, by omega, okCells_all fun i => rfl, by rw [hb4]; omega, by omega, ?_⟩
        simp only [Nat.zero_add, Nat.not_lt_zero, if_false, Nat.sub_zero]
        exact newRt (v := fun k => .tup [.bx k 0, i64 0]) (X := G) (T := T) (r1 := 32) (r2 := 27) (r3 := 30) (fun _ _ => rfl) (fun G B r hr c hc => by
          simp only [List.mem_cons, List.not_mem_nil, or_false] at hc
          rcases hc with rfl | rfl
          · exact hr
          · trivial) rfl rfl rfl (by decide) (by decide) (by decide) (Nat.zero_le _) (Nat.zero_le _) (Nat.zero_le _)
    · cases hF
  · cases hF
end Go.Ax
end

section
/-
  The shelf's contracts at this program, in plain words (written by a tool of the kit's).
-/
namespace Go.Proofs
open Go.Shelf
def Tryz.keysA_ren : Go.Shelf.Ren := ⟨fun | 7 => 108 | 10 => 131 | n => n, fun | 23 => 101 | 26 => 3 | 3 => 32 | 28 => 134 | 0 => 0 | 27 => 133 | 33 => 113 | 4 => 4 | n => n, fun | n => n⟩
theorem Tryz.keysA : Go.Proofs.SlLaysZI.n7 Tryz.prog Tryz.keysA_ren := {
  mixed := by kernel_rfl
  f7 := ⟨Tryz.f108.name, by decide, Tryz.func108.trans (congrArg some (by kernel_rfl))⟩
  f10 := ⟨Tryz.f131.name, by decide, Tryz.func131.trans (congrArg some (by kernel_rfl))⟩
  t0 := Tryz.underlying0
  a0 := Tryz.isAgg0
  z0 := Tryz.sizeOf0
  v0 := Tryz.zeroValue0
  t4 := Tryz.underlying4
  a4 := Tryz.isAgg4
  z4 := Tryz.sizeOf4
  v4 := Tryz.zeroValue4
  t23 := Tryz.underlying101
  a23 := Tryz.isAgg101
  z23 := Tryz.sizeOf101
  v23 := Tryz.zeroValue101
  t26 := Tryz.underlying3
  a26 := Tryz.isAgg3
  z26 := Tryz.sizeOf3
  v26 := Tryz.zeroValue3
  t27 := Tryz.underlying133
  a27 := Tryz.isAgg133
  z27 := Tryz.sizeOf133
  v27 := Tryz.zeroValue133
  t28 := Tryz.underlying134
  a28 := Tryz.isAgg134
  z28 := Tryz.sizeOf134
  v28 := Tryz.zeroValue134
  t33 := Tryz.underlying113
  a33 := Tryz.isAgg113
  z33 := Tryz.sizeOf113
  v33 := Tryz.zeroValue113 }
def Tryz.sortedA_ren : Go.Shelf.Ren := ⟨fun | 6 => 107 | 8 => 129 | 9 => 130 | 11 => 154 | 13 => 111 | 12 => 155 | 23 => 140 | 24 => 141 | 14 => 164 | 15 => 165 | 16 => 166 | 17 => 167 | 18 => 168 | 19 => 169 | 20 => 170 | 21 => 171 | 22 => 172 | 25 => 175 | 26 => 157 | 27 => 158 | 28 => 176 | 29 => 177 | 30 => 113 | 31 => 178 | n => n, fun | 26 => 3 | 28 => 134 | 24 => 22 | 0 => 0 | 3 => 3 | 37 => 139 | 48 => 163 | 50 => 96 | 4 => 4 | 40 => 156 | 39 => 155 | 45 => 160 | 5 => 5 | 9 => 9 | 51 => 173 | 55 => 177 | 57 => 187 | 58 => 188 | 33 => 113 | n => n, fun | n => n⟩
theorem Tryz.sortedA : Go.Proofs.SlLaysZI.n6 Tryz.prog Tryz.sortedA_ren := {
  mixed := by kernel_rfl
  f6 := ⟨Tryz.f107.name, by decide, Tryz.func107.trans (congrArg some (by kernel_rfl))⟩
  f8 := ⟨Tryz.f129.name, by decide, Tryz.func129.trans (congrArg some (by kernel_rfl))⟩
  f11 := ⟨Tryz.f154.name, by decide, Tryz.func154.trans (congrArg some (by kernel_rfl))⟩
  t0 := Tryz.underlying0
  a0 := Tryz.isAgg0
  z0 := Tryz.sizeOf0
  v0 := Tryz.zeroValue0
  t24 := Tryz.underlying22
  a24 := Tryz.isAgg22
  z24 := Tryz.sizeOf22
  v24 := Tryz.zeroValue22
  t26 := Tryz.underlying3
  a26 := Tryz.isAgg3
  z26 := Tryz.sizeOf3
  v26 := Tryz.zeroValue3
  t28 := Tryz.underlying134
  a28 := Tryz.isAgg134
  z28 := Tryz.sizeOf134
  v28 := Tryz.zeroValue134
  i26 := by kernel_rfl }
def Tryz.sortA_ren : Go.Shelf.Ren := ⟨fun | 5 => 130 | 8 => 111 | 7 => 155 | 19 => 140 | 20 => 141 | 10 => 164 | 11 => 165 | 12 => 166 | 13 => 167 | 14 => 168 | 15 => 169 | 16 => 170 | 17 => 171 | 18 => 172 | 30 => 175 | 31 => 157 | 32 => 158 | 33 => 176 | 34 => 177 | 35 => 113 | 40 => 178 | n => n, fun | 23 => 22 | 25 => 3 | 3 => 3 | 32 => 139 | 22 => 22 | 0 => 0 | 44 => 163 | 46 => 96 | 4 => 4 | 36 => 156 | 35 => 155 | 41 => 160 | 5 => 5 | 9 => 9 | 53 => 173 | 57 => 177 | 63 => 187 | 64 => 188 | n => n, fun | n => n⟩
theorem Tryz.sortA : Go.Proofs.SlLaysM.n5 Tryz.prog Tryz.sortA_ren := {
  mixed := by kernel_rfl
  f5 := ⟨Tryz.f130.name, by decide, Tryz.func130.trans (congrArg some (by kernel_rfl))⟩
  f7 := ⟨Tryz.f155.name, by decide, Tryz.func155.trans (congrArg some (by kernel_rfl))⟩
  f8 := Tryz.func111.trans (congrArg some (by kernel_rfl))
  f10 := ⟨Tryz.f164.name, by decide, Tryz.func164.trans (congrArg some (by kernel_rfl))⟩
  f11 := ⟨Tryz.f165.name, by decide, Tryz.func165.trans (congrArg some (by kernel_rfl))⟩
  f12 := ⟨Tryz.f166.name, by decide, Tryz.func166.trans (congrArg some (by kernel_rfl))⟩
  f13 := ⟨Tryz.f167.name, by decide, Tryz.func167.trans (congrArg some (by kernel_rfl))⟩
  f14 := ⟨Tryz.f168.name, by decide, Tryz.func168.trans (congrArg some (by kernel_rfl))⟩
  f15 := ⟨Tryz.f169.name, by decide, Tryz.func169.trans (congrArg some (by kernel_rfl))⟩
  f16 := ⟨Tryz.f170.name, by decide, Tryz.func170.trans (congrArg some (by kernel_rfl))⟩
  f17 := ⟨Tryz.f171.name, by decide, Tryz.func171.trans (congrArg some (by kernel_rfl))⟩
  f18 := ⟨Tryz.f172.name, by decide, Tryz.func172.trans (congrArg some (by kernel_rfl))⟩
  f19 := Tryz.func140.trans (congrArg some (by kernel_rfl))
  f20 := Tryz.func141.trans (congrArg some (by kernel_rfl))
  f30 := ⟨Tryz.f175.name, by decide, Tryz.func175.trans (congrArg some (by kernel_rfl))⟩
  f31 := Tryz.func157.trans (congrArg some (by kernel_rfl))
  f32 := Tryz.func158.trans (congrArg some (by kernel_rfl))
  f33 := ⟨Tryz.f176.name, by decide, Tryz.func176.trans (congrArg some (by kernel_rfl))⟩
  f34 := ⟨Tryz.f177.name, by decide, Tryz.func177.trans (congrArg some (by kernel_rfl))⟩
  f35 := ⟨Tryz.f113.name, by decide, Tryz.func113.trans (congrArg some (by kernel_rfl))⟩
  f40 := ⟨Tryz.f178.name, by decide, Tryz.func178.trans (congrArg some (by kernel_rfl))⟩
  t0 := Tryz.underlying0
  a0 := Tryz.isAgg0
  z0 := Tryz.sizeOf0
  v0 := Tryz.zeroValue0
  t3 := Tryz.underlying3
  a3 := Tryz.isAgg3
  z3 := Tryz.sizeOf3
  v3 := Tryz.zeroValue3
  t4 := Tryz.underlying4
  a4 := Tryz.isAgg4
  z4 := Tryz.sizeOf4
  v4 := Tryz.zeroValue4
  t5 := Tryz.underlying5
  a5 := Tryz.isAgg5
  z5 := Tryz.sizeOf5
  v5 := Tryz.zeroValue5
  t9 := Tryz.underlying9
  a9 := Tryz.isAgg9
  z9 := Tryz.sizeOf9
  v9 := Tryz.zeroValue9
  t22 := Tryz.underlying22
  a22 := Tryz.isAgg22
  z22 := Tryz.sizeOf22
  v22 := Tryz.zeroValue22
  t23 := Tryz.underlying22
  a23 := Tryz.isAgg22
  z23 := Tryz.sizeOf22
  v23 := Tryz.zeroValue22
  t25 := Tryz.underlying3
  a25 := Tryz.isAgg3
  z25 := Tryz.sizeOf3
  v25 := Tryz.zeroValue3
  t32 := Tryz.underlying139
  a32 := Tryz.isAgg139
  z32 := Tryz.sizeOf139
  v32 := Tryz.zeroValue139
  t35 := Tryz.underlying155
  a35 := Tryz.isAgg155
  z35 := Tryz.sizeOf155
  v35 := Tryz.zeroValue155
  t36 := Tryz.underlying156
  a36 := Tryz.isAgg156
  z36 := Tryz.sizeOf156
  v36 := Tryz.zeroValue156
  t41 := Tryz.underlying160
  a41 := Tryz.isAgg160
  z41 := Tryz.sizeOf160
  v41 := Tryz.zeroValue160
  t44 := Tryz.underlying163
  a44 := Tryz.isAgg163
  z44 := Tryz.sizeOf163
  v44 := Tryz.zeroValue163
  t46 := Tryz.underlying96
  a46 := Tryz.isAgg96
  z46 := Tryz.sizeOf96
  v46 := Tryz.zeroValue96
  t53 := Tryz.underlying173
  a53 := Tryz.isAgg173
  z53 := Tryz.sizeOf173
  v53 := Tryz.zeroValue173
  t57 := Tryz.underlying177
  a57 := Tryz.isAgg177
  z57 := Tryz.sizeOf177
  v57 := Tryz.zeroValue177
  t63 := Tryz.underlying187
  a63 := Tryz.isAgg187
  z63 := Tryz.sizeOf187
  v63 := Tryz.zeroValue187
  t64 := Tryz.underlying188
  a64 := Tryz.isAgg188
  z64 := Tryz.sizeOf188
  v64 := Tryz.zeroValue188 }
def Tryz.sortF_ren : Go.Shelf.Ren := ⟨fun | 6 => 65 | 15 => 111 | 14 => 110 | 28 => 140 | 29 => 141 | 20 => 132 | 21 => 133 | 22 => 134 | 23 => 135 | 24 => 136 | 25 => 137 | 26 => 138 | 27 => 139 | 46 => 156 | 47 => 157 | 48 => 158 | 49 => 159 | 50 => 160 | 57 => 173 | n => n, fun | 22 => 22 | 24 => 3 | 25 => 28 | 3 => 3 | 39 => 139 | 0 => 0 | 53 => 163 | 55 => 96 | 4 => 4 | 46 => 156 | 45 => 155 | 50 => 160 | 5 => 5 | 9 => 9 | 66 => 173 | 70 => 177 | 76 => 187 | 77 => 188 | n => n, fun | n => n⟩
theorem Tryz.sortF : Go.Proofs.SlLaysF.n6 Tryz.prog Tryz.sortF_ren := {
  mixed := by kernel_rfl
  f6 := ⟨Tryz.f65.name, by decide, Tryz.func65.trans (congrArg some (by kernel_rfl))⟩
  f14 := ⟨Tryz.f110.name, by decide, Tryz.func110.trans (congrArg some (by kernel_rfl))⟩
  f15 := Tryz.func111.trans (congrArg some (by kernel_rfl))
  f20 := ⟨Tryz.f132.name, by decide, Tryz.func132.trans (congrArg some (by kernel_rfl))⟩
  f21 := ⟨Tryz.f133.name, by decide, Tryz.func133.trans (congrArg some (by kernel_rfl))⟩
  f22 := ⟨Tryz.f134.name, by decide, Tryz.func134.trans (congrArg some (by kernel_rfl))⟩
  f23 := ⟨Tryz.f135.name, by decide, Tryz.func135.trans (congrArg some (by kernel_rfl))⟩
  f24 := ⟨Tryz.f136.name, by decide, Tryz.func136.trans (congrArg some (by kernel_rfl))⟩
  f25 := ⟨Tryz.f137.name, by decide, Tryz.func137.trans (congrArg some (by kernel_rfl))⟩
  f26 := ⟨Tryz.f138.name, by decide, Tryz.func138.trans (congrArg some (by kernel_rfl))⟩
  f27 := ⟨Tryz.f139.name, by decide, Tryz.func139.trans (congrArg some (by kernel_rfl))⟩
  f28 := Tryz.func140.trans (congrArg some (by kernel_rfl))
  f29 := Tryz.func141.trans (congrArg some (by kernel_rfl))
  f46 := ⟨Tryz.f156.name, by decide, Tryz.func156.trans (congrArg some (by kernel_rfl))⟩
  f47 := Tryz.func157.trans (congrArg some (by kernel_rfl))
  f48 := Tryz.func158.trans (congrArg some (by kernel_rfl))
  f49 := ⟨Tryz.f159.name, by decide, Tryz.func159.trans (congrArg some (by kernel_rfl))⟩
  f50 := ⟨Tryz.f160.name, by decide, Tryz.func160.trans (congrArg some (by kernel_rfl))⟩
  f57 := ⟨Tryz.f173.name, by decide, Tryz.func173.trans (congrArg some (by kernel_rfl))⟩
  t0 := Tryz.underlying0
  a0 := Tryz.isAgg0
  z0 := Tryz.sizeOf0
  v0 := Tryz.zeroValue0
  t3 := Tryz.underlying3
  a3 := Tryz.isAgg3
  z3 := Tryz.sizeOf3
  v3 := Tryz.zeroValue3
  t4 := Tryz.underlying4
  a4 := Tryz.isAgg4
  z4 := Tryz.sizeOf4
  v4 := Tryz.zeroValue4
  t5 := Tryz.underlying5
  a5 := Tryz.isAgg5
  z5 := Tryz.sizeOf5
  v5 := Tryz.zeroValue5
  t9 := Tryz.underlying9
  a9 := Tryz.isAgg9
  z9 := Tryz.sizeOf9
  v9 := Tryz.zeroValue9
  t22 := Tryz.underlying22
  a22 := Tryz.isAgg22
  z22 := Tryz.sizeOf22
  v22 := Tryz.zeroValue22
  a24 := Tryz.isAgg3
  z24 := Tryz.sizeOf3
  t25 := Tryz.underlying28
  a25 := Tryz.isAgg28
  z25 := Tryz.sizeOf28
  v25 := Tryz.zeroValue28
  t39 := Tryz.underlying139
  a39 := Tryz.isAgg139
  z39 := Tryz.sizeOf139
  v39 := Tryz.zeroValue139
  t45 := Tryz.underlying155
  a45 := Tryz.isAgg155
  z45 := Tryz.sizeOf155
  v45 := Tryz.zeroValue155
  t46 := Tryz.underlying156
  a46 := Tryz.isAgg156
  z46 := Tryz.sizeOf156
  v46 := Tryz.zeroValue156
  t50 := Tryz.underlying160
  a50 := Tryz.isAgg160
  z50 := Tryz.sizeOf160
  v50 := Tryz.zeroValue160
  t53 := Tryz.underlying163
  a53 := Tryz.isAgg163
  z53 := Tryz.sizeOf163
  v53 := Tryz.zeroValue163
  t55 := Tryz.underlying96
  a55 := Tryz.isAgg96
  z55 := Tryz.sizeOf96
  v55 := Tryz.zeroValue96
  t66 := Tryz.underlying173
  a66 := Tryz.isAgg173
  z66 := Tryz.sizeOf173
  v66 := Tryz.zeroValue173
  t70 := Tryz.underlying177
  a70 := Tryz.isAgg177
  z70 := Tryz.sizeOf177
  v70 := Tryz.zeroValue177
  t76 := Tryz.underlying187
  a76 := Tryz.isAgg187
  z76 := Tryz.sizeOf187
  v76 := Tryz.zeroValue187
  t77 := Tryz.underlying188
  a77 := Tryz.isAgg188
  z77 := Tryz.sizeOf188
  v77 := Tryz.zeroValue188 }
def Tryz.sortP_ren : Go.Shelf.Ren := ⟨fun | 6 => 73 | 15 => 111 | 14 => 115 | 28 => 140 | 29 => 141 | 20 => 142 | 21 => 143 | 22 => 144 | 23 => 145 | 24 => 146 | 25 => 147 | 26 => 148 | 27 => 149 | 46 => 161 | 47 => 157 | 48 => 158 | 49 => 162 | 50 => 163 | 57 => 174 | n => n, fun | 22 => 35 | 24 => 95 | 25 => 115 | 3 => 3 | 39 => 139 | 0 => 0 | 53 => 163 | 55 => 96 | 4 => 4 | 46 => 156 | 45 => 155 | 50 => 160 | 5 => 5 | 9 => 9 | 66 => 173 | 70 => 177 | 76 => 187 | 77 => 188 | n => n, fun | n => n⟩
theorem Tryz.sortP : Go.Proofs.SlLaysF0.n6 Tryz.prog Tryz.sortP_ren := {
  mixed := by kernel_rfl
  f6 := ⟨Tryz.f73.name, by decide, Tryz.func73.trans (congrArg some (by kernel_rfl))⟩
  f14 := ⟨Tryz.f115.name, by decide, Tryz.func115.trans (congrArg some (by kernel_rfl))⟩
  f15 := Tryz.func111.trans (congrArg some (by kernel_rfl))
  f20 := ⟨Tryz.f142.name, by decide, Tryz.func142.trans (congrArg some (by kernel_rfl))⟩
  f21 := ⟨Tryz.f143.name, by decide, Tryz.func143.trans (congrArg some (by kernel_rfl))⟩
  f22 := ⟨Tryz.f144.name, by decide, Tryz.func144.trans (congrArg some (by kernel_rfl))⟩
  f23 := ⟨Tryz.f145.name, by decide, Tryz.func145.trans (congrArg some (by kernel_rfl))⟩
  f24 := ⟨Tryz.f146.name, by decide, Tryz.func146.trans (congrArg some (by kernel_rfl))⟩
  f25 := ⟨Tryz.f147.name, by decide, Tryz.func147.trans (congrArg some (by kernel_rfl))⟩
  f26 := ⟨Tryz.f148.name, by decide, Tryz.func148.trans (congrArg some (by kernel_rfl))⟩
  f27 := ⟨Tryz.f149.name, by decide, Tryz.func149.trans (congrArg some (by kernel_rfl))⟩
  f28 := Tryz.func140.trans (congrArg some (by kernel_rfl))
  f29 := Tryz.func141.trans (congrArg some (by kernel_rfl))
  f46 := ⟨Tryz.f161.name, by decide, Tryz.func161.trans (congrArg some (by kernel_rfl))⟩
  f47 := Tryz.func157.trans (congrArg some (by kernel_rfl))
  f48 := Tryz.func158.trans (congrArg some (by kernel_rfl))
  f49 := ⟨Tryz.f162.name, by decide, Tryz.func162.trans (congrArg some (by kernel_rfl))⟩
  f50 := ⟨Tryz.f163.name, by decide, Tryz.func163.trans (congrArg some (by kernel_rfl))⟩
  f57 := ⟨Tryz.f174.name, by decide, Tryz.func174.trans (congrArg some (by kernel_rfl))⟩
  t0 := Tryz.underlying0
  a0 := Tryz.isAgg0
  z0 := Tryz.sizeOf0
  v0 := Tryz.zeroValue0
  t3 := Tryz.underlying3
  a3 := Tryz.isAgg3
  z3 := Tryz.sizeOf3
  v3 := Tryz.zeroValue3
  t4 := Tryz.underlying4
  a4 := Tryz.isAgg4
  z4 := Tryz.sizeOf4
  v4 := Tryz.zeroValue4
  t5 := Tryz.underlying5
  a5 := Tryz.isAgg5
  z5 := Tryz.sizeOf5
  v5 := Tryz.zeroValue5
  t9 := Tryz.underlying9
  a9 := Tryz.isAgg9
  z9 := Tryz.sizeOf9
  v9 := Tryz.zeroValue9
  t22 := Tryz.underlying35
  a22 := Tryz.isAgg35
  z22 := Tryz.sizeOf35
  v22 := Tryz.zeroValue35
  t25 := Tryz.underlying115
  a25 := Tryz.isAgg115
  z25 := Tryz.sizeOf115
  v25 := Tryz.zeroValue115
  t39 := Tryz.underlying139
  a39 := Tryz.isAgg139
  z39 := Tryz.sizeOf139
  v39 := Tryz.zeroValue139
  t45 := Tryz.underlying155
  a45 := Tryz.isAgg155
  z45 := Tryz.sizeOf155
  v45 := Tryz.zeroValue155
  t46 := Tryz.underlying156
  a46 := Tryz.isAgg156
  z46 := Tryz.sizeOf156
  v46 := Tryz.zeroValue156
  t50 := Tryz.underlying160
  a50 := Tryz.isAgg160
  z50 := Tryz.sizeOf160
  v50 := Tryz.zeroValue160
  t53 := Tryz.underlying163
  a53 := Tryz.isAgg163
  z53 := Tryz.sizeOf163
  v53 := Tryz.zeroValue163
  t55 := Tryz.underlying96
  a55 := Tryz.isAgg96
  z55 := Tryz.sizeOf96
  v55 := Tryz.zeroValue96
  t66 := Tryz.underlying173
  a66 := Tryz.isAgg173
  z66 := Tryz.sizeOf173
  v66 := Tryz.zeroValue173
  t70 := Tryz.underlying177
  a70 := Tryz.isAgg177
  z70 := Tryz.sizeOf177
  v70 := Tryz.zeroValue177
  t76 := Tryz.underlying187
  a76 := Tryz.isAgg187
  z76 := Tryz.sizeOf187
  v76 := Tryz.zeroValue187
  t77 := Tryz.underlying188
  a77 := Tryz.isAgg188
  z77 := Tryz.sizeOf188
  v77 := Tryz.zeroValue188 }
end Go.Proofs
end
