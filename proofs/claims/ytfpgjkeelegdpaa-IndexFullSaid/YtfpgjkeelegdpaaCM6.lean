/-
  Tables that are restored: the program's, and the reference's.
-/
import Derived.Test.YtfpgjkeelegdpaaCM5
import Derived.Shelf.SlIterI.Nil
import Derived.Shelf.SortM.Plain
import Derived.Shelf.SortM.SortNone
import Derived.Shelf.SlSortCmp.NoneTotal
import Derived.Ground.GgzProg
import Derived.Ground.SlgmProg
import Derived.Ground.SlsfProg
import Derived.Test.YtfpgjkeelegdpaaProg
import Derived.Laws.Externs
import Derived.Lib.Mul64
section
set_option linter.unusedVariables false
set_option linter.unusedSimpArgs false
set_option maxHeartbeats 4000000
set_option maxRecDepth 100000
namespace Go.Ax
open Go.Proofs
/-! ### A mark in a table whose generations are a row of their own -/
theorem fam1_inj {ty sz : Nat} {l l' : List AV} {g : Option Bool} (h : fam1 ty sz l g = fam1 ty sz l' g) : l = l' := by
  have h0 := congrFun h 0
  simp only [fam1, if_true, Row.mk.injEq, true_and, and_true] at h0
  exact congrFun h0 0
theorem famN_inj {n sz ty : Nat} {X X' : Nat → List AV} {g : Option Bool} (h : famN n sz ty X g = famN n sz ty X' g) : X = X' := by
  have h0 := congrFun h 0
  simp only [famN, if_true, Row.mk.injEq, true_and, and_true] at h0
  exact h0
open Classical in
noncomputable def dW (fam : Fam) : Option (Int × Nat × Nat) := if h : ∃ q : Int × Nat × Nat, fam = fam1 88 2 [u64 q.1, .own q.2.1 0 q.2.2 1] none then some (Classical.choose h) else none
theorem dW_fam {x : Int} {b n : Nat} : dW (fam1 88 2 [u64 x, .own b 0 n 1] none) = some (x, b, n) := by
  have h : ∃ q : Int × Nat × Nat, fam1 88 2 [u64 x, .own b 0 n 1] none = fam1 88 2 [u64 q.1, .own q.2.1 0 q.2.2 1] none := ⟨(x, b, n), rfl⟩
  unfold dW
  rw [dif_pos h]
  have h2 := Classical.choose_spec h
  generalize Classical.choose h = q at h2
  obtain ⟨x', b', n'⟩ := q
  have := fam1_inj h2
  simp at this
  obtain ⟨rfl, rfl, rfl⟩ := this
  rfl
theorem dW_some {fam : Fam} {x : Int} {b n : Nat} (h : dW fam = some (x, b, n)) : fam = fam1 88 2 [u64 x, .own b 0 n 1] none := by
  unfold dW at h
  split at h
  · rename_i hh
    have h2 := Classical.choose_spec hh
    have h : Classical.choose hh = (x, b, n) := Option.some.inj h
    rw [h] at h2
    exact h2
  · cases h
open Classical in
noncomputable def dG (n : Nat) (fam : Fam) : Option (Nat → Int) := if h : ∃ X : Nat → Int, fam = famN n 1 3 (fun i => [i64 (X i)]) none then some (Classical.choose h) else none
theorem dG_fam {n : Nat} {X : Nat → Int} : dG n (famN n 1 3 (fun i => [i64 (X i)]) none) = some X := by
  have h : ∃ Y : Nat → Int, famN n 1 3 (fun i => [i64 (X i)]) none = famN n 1 3 (fun i => [i64 (Y i)]) none := ⟨X, rfl⟩
  unfold dG
  rw [dif_pos h]
  have h2 := Classical.choose_spec h
  generalize Classical.choose h = Y at h2
  have h3 := famN_inj h2
  have : X = Y := by
    funext i
    have := congrFun h3 i
    simpa using this
  rw [this]
theorem dG_some {n : Nat} {fam : Fam} {X : Nat → Int} (h : dG n fam = some X) : fam = famN n 1 3 (fun i => [i64 (X i)]) none := by
  unfold dG at h
  split at h
  · rename_i hh
    have h2 := Classical.choose_spec hh
    have h : Classical.choose hh = X := Option.some.inj h
    rw [h] at h2
    exact h2
  · cases h
noncomputable def w52c (K : Nat) (i x : Int) (b n : Nat) : Option (Nat → Int) → Option Eff
  | some X => some ⟨[K ≠ b, 0 ≤ x, x < 18446744073709551616, 0 ≤ i, i < 64], .tup [], .many [(K, fam1 88 2 [u64 (setX x i), .own b 0 n 1] none), (b, famN n 1 3 (fun i => [i64 (X i)]) none)] none⟩
  | none => none
noncomputable def w52b (K : Nat) (i x : Int) (b n : Nat) : Option Fam → Option Eff
  | some fam => w52c K i x b n (dG n fam)
  | none => none
noncomputable def w52d (K : Nat) (i : Int) (m : Mem) : Option (Int × Nat × Nat) → Option Eff
  | some (x, b, n) => w52b K i x b n (look m b)
  | none => none
noncomputable def w52a (K : Nat) (i : Int) (m : Mem) : Option Fam → Option Eff
  | some fam => w52d K i m (dW fam)
  | none => none
noncomputable def m52W : MCon := fun key m es => match es with
  | [.bx K 0, .v (.int .i64 i)] => w52a K i m (look m K)
  | _ => none
theorem m52W_eq {key K : Nat} {m : Mem} {i : Int} : m52W key m [.bx K 0, i64 i] = w52a K i m (look m K) := (rfl)
theorem w52a_fam {K : Nat} {i : Int} {m : Mem} {x : Int} {b n : Nat} : w52a K i m (some (fam1 88 2 [u64 x, .own b 0 n 1] none)) = w52b K i x b n (look m b) := by
  unfold w52a
  dsimp only
  rw [dW_fam]
  rfl
theorem w52b_fam {K : Nat} {i : Int} {x : Int} {b n : Nat} {X : Nat → Int} : w52b K i x b n (some (famN n 1 3 (fun i => [i64 (X i)]) none)) = some ⟨[K ≠ b, 0 ≤ x, x < 18446744073709551616, 0 ≤ i, i < 64], .tup [], .many [(K, fam1 88 2 [u64 (setX x i), .own b 0 n 1] none), (b, famN n 1 3 (fun i => [i64 (X i)]) none)] none⟩ := by
  unfold w52b
  dsimp only
  rw [dG_fam]
  rfl
theorem row1_ren {θ : Nat → Nat → Nat × Nat} {g : Nat → Nat → Prop} {B : Nat → Prop} {x : Int} {b n : Nat} (hθ : θ 1 0 = (b, 0)) (hg : g 1 0) (f : Nat) : rowRen θ g B (fam1 88 2 [u64 x, .own 1 0 n 1] none f) (fam1 88 2 [u64 x, .own b 0 n 1] none f) := by
  by_cases hf : f = 0
  · subst hf
    refine ⟨rfl, rfl, rfl, rfl, fun j hj => ⟨?_, fun c hc => ?_⟩⟩
    · show [u64 x, AV.own b 0 n 1] = [u64 x, AV.own (θ 1 0).1 (θ 1 0).2 n 1]
      rw [hθ]
    · have hc : c ∈ [u64 x, AV.own 1 0 n 1] := hc
      simp only [List.mem_cons, List.not_mem_nil, or_false] at hc
      rcases hc with rfl | rfl
      · trivial
      · exact hg
  · unfold fam1
    rw [if_neg hf, if_neg hf]
    exact ⟨rfl, rfl, rfl, rfl, fun j hj => by have hj : j < 0 := hj; omega⟩
theorem row2_ren {θ : Nat → Nat → Nat × Nat} {g : Nat → Nat → Prop} {B : Nat → Prop} {n : Nat} {X : Nat → Int} (f : Nat) : rowRen θ g B (famN n 1 3 (fun i => [i64 (X i)]) none f) (famN n 1 3 (fun i => [i64 (X i)]) none f) := by
  refine rowRen_clean' (.refl _) fun j hj c hc => ?_
  by_cases hf : f = 0
  · subst hf
    have hc : c ∈ [i64 (X j)] := hc
    simp only [List.mem_cons, List.not_mem_nil, or_false] at hc
    subst hc; rfl
  · unfold famN at hj
    rw [if_neg hf] at hj
    have hj : j < 0 := hj
    omega
theorem mon52W : MConOK Try.prog 52 m52W := by
  refine MConOK.of (G := []) (H := []) .nil Try.func52 fun key m es e hc hob => ?_
  unfold m52W at hc
  split at hc
  · rename_i K i
    unfold w52a at hc
    split at hc
    · rename_i fam hl
      unfold w52d at hc
      split at hc
      · rename_i x b n hd
        obtain rfl := dW_some hd
        unfold w52b at hc
        split at hc
        · rename_i famb hl2
          unfold w52c at hc
          split at hc
          · rename_i X hX
            obtain rfl := dG_some hX
            cases hc
            have hne : K ≠ b := hob _ (by simp)
            have h0 : 0 ≤ x := hob _ (by simp)
            have h1 : x < 18446744073709551616 := hob _ (by simp)
            have h2 : 0 ≤ i := hob _ (by simp)
            have h3 : i < 64 := hob _ (by simp)
            refine ⟨[K, b], [(0, fam1 88 2 [u64 x, .own 1 0 n 1] none), (1, famN n 1 3 (fun i => [i64 (X i)]) none)], [.bx 0 0, i64 i], ⟨by simp [hne], rfl, fun a ha => ?_, fun j hj => ?_, fun q z hq => ?_⟩, by kernel_rfl, ?_⟩
            · simp only [List.mem_cons, List.not_mem_nil, or_false] at ha
              rcases ha with rfl | rfl
              · show (0 : Nat) < 2
                omega
              · trivial
            · match j, hj with
              | 0, _ => exact ⟨_, _, rfl, hl, fun f => ⟨by unfold fam1; split <;> rfl, row1_ren (θ := thE [K, b]) (g := lowG 2) (B := lowB 2) rfl (by show (1 : Nat) < 2; omega) f⟩⟩
              | 1, _ => exact ⟨_, _, rfl, hl2, fun f => ⟨by unfold famN; split <;> rfl, row2_ren f⟩⟩
              | j + 2, hj =>
                have hj : j + 2 < 2 := hj
                omega
            · by_cases e : q = 0
              · subst e; simp
              · by_cases e2 : q = 1
                · subst e2; simp
                · simp [look, Ne.symm e, Ne.symm e2] at hq
            · have hb : bodyM Try.prog [] [] Try.f52 [.bx 0 0, i64 i] [(0, fam1 88 2 [u64 x, .own 1 0 n 1] none), (1, famN n 1 3 (fun i => [i64 (X i)]) none)] 2 fun a m1 => a = .tup [] ∧ look m1 0 = some (fam1 88 2 [u64 (setX x i), .own 1 0 n 1] none) ∧ look m1 1 = some (famN n 1 3 (fun i => [i64 (X i)]) none) := by
                refine bodyM_go (rs := []) rfl rfl ?_
                simp only [go_sem]
                obtain ⟨k, rfl⟩ : ∃ k : Nat, i = k := ⟨i.toNat, by omega⟩
                obtain ⟨a, rfl⟩ : ∃ a : Nat, x = a := ⟨x.toNat, by omega⟩
                intro z1 e1
                have hk := fun z2 e2 => setX_nat (z3 := 0) (by omega : k < 64) (by omega : a < _) e1 (z2 := z2) e2
                refine ⟨(hk _ rfl).1, fun z2 e2 z3 e3 => ?_⟩
                obtain ⟨_, rfl, hp⟩ := hk z2 e2
                have e : z3 = setX a k := by
                  rw [e3, orI_nat (by omega) hp]
                  rfl
                rw [e]
              refine hb.mono fun a m1 ⟨q1, q2, q3⟩ => ⟨fun _ => none, fun _ _ => 0, [fam1 88 2 [u64 (setX x i), .own b 0 n 1] none, famN n 1 3 (fun i => [i64 (X i)]) none], none, rfl, ⟨fun f r g h => by simp at h, by rw [q1]; rfl, (by rw [q1]; exact fun c hc => (by cases hc)), rfl, fun j hj => ?_, fun _ => rfl⟩⟩
              match j, hj with
              | 0, _ => exact .inr ⟨_, _, q2, rfl, fun f => ⟨row1_ren (θ := thL [K, b] key fun _ _ => 0) (g := newG 2 (fun _ => none) fun _ _ => 0) (B := newB 2 fun _ => none) rfl (.inl (by omega)) f, by unfold fam1; split <;> simp⟩⟩
              | 1, _ => exact .inr ⟨_, _, q3, rfl, fun f => ⟨row2_ren f, by unfold famN; split <;> simp⟩⟩
              | j + 2, hj =>
                have hj : j + 2 < 2 := hj
                omega
          · cases hc
        · cases hc
      · cases hc
    · cases hc
  · cases hc
/-! ### Restored -/
def roB : AV → Option (List Prop × Nat × (Nat → Bool))
  | .ro n 1 g => some ([bools n g], n, fun i => gz (g i))
  | .v (.slice none 0 0) => some ([], 0, fun _ => false)
  | _ => none
def roJ : AV → Option (List Prop × Nat × (Nat → Int))
  | .ro n 1 g => some ([ints n g], n, gx g 0)
  | .v (.slice none 0 0) => some ([], 0, fun _ => 0)
  | _ => none
theorem roB_sound {a : AV} {ob : List Prop} {n : Nat} {T : Nat → Bool} {w : World} {ρ : Env} {v : Value} (h : roB a = some (ob, n, T)) (hob : ∀ p ∈ ob, p) (hR : R w ρ a v) : R w ρ (.ro n 1 fun i => [bo (T i)]) v := by
  unfold roB at h
  split at h
  · rename_i n g
    cases h
    have h1 : bools n g := hob _ (by simp)
    exact ro_alike (fun i hi => h1 i hi) hR
  · cases h; exact alk_nil w ρ v hR
  · cases h
theorem roJ_sound {a : AV} {ob : List Prop} {n : Nat} {X : Nat → Int} {w : World} {ρ : Env} {v : Value} (h : roJ a = some (ob, n, X)) (hob : ∀ p ∈ ob, p) (hR : R w ρ a v) : R w ρ (.ro n 1 fun i => [i64 (X i)]) v := by
  unfold roJ at h
  split at h
  · rename_i n g
    cases h
    have h1 : ints n g := hob _ (by simp)
    exact ro_alike (fun i hi => h1 i hi) hR
  · cases h; exact alk_nil w ρ v hR
  · cases h
def badG (G : Nat → Int) (i : Nat) : Bool := decide (G i < 0) || decide (2147483647 < G i)
def badT (G : Nat → Int) (T : Nat → Bool) (i : Nat) : Bool := T i && (G i == 0)
def rsE (n m : Nat) (G : Nat → Int) (T : Nat → Bool) : Int := if n < 1 ∨ 64 < n then 3 else if lst (badG G) n < n then 3 else if m ≠ n then 4 else if lst (badT G T) n < n then 4 else 0
def xOf (T : Nat → Bool) : Nat → Int
  | 0 => 0
  | i + 1 => if T i = true then setX (xOf T i) i else xOf T i
theorem xOf_lt {T : Nat → Bool} : ∀ {k : Nat}, k ≤ 64 → 0 ≤ xOf T k ∧ xOf T k < 18446744073709551616
  | 0, _ => ⟨Int.le_refl 0, by show (0 : Int) < _; omega⟩
  | k + 1, h => by
    have ih := xOf_lt (T := T) (k := k) (by omega)
    unfold xOf
    split
    · unfold setX
      have := setN_lt (a := (xOf T k).toNat) (k := k) (by omega) (by omega)
      rw [Int.toNat_natCast]
      omega
    · exact ih
theorem xOf_bit {T : Nat → Bool} {j : Nat} : ∀ {k : Nat}, (xOf T k).toNat.testBit j = (decide (j < k) && T j)
  | 0 => by simp [xOf]
  | k + 1 => by
    have ih := xOf_bit (T := T) (j := j) (k := k)
    unfold xOf
    have hlt : decide (j < k + 1) = (decide (j < k) || decide (j = k)) := by rw [← Bool.decide_or]; exact decide_eq_decide.2 (by omega)
    rw [hlt]
    split
    · rename_i ht
      unfold setX
      rw [Int.toNat_natCast, Int.toNat_natCast, setN_bit, ih]
      by_cases e : j = k
      · subst e; simp [ht]
      · rw [decide_eq_false e, Bool.or_false, Bool.or_false]
    · rename_i ht
      rw [ih]
      by_cases e : j = k
      · subst e
        have : T j = false := by simpa using ht
        rw [this]; simp
      · rw [decide_eq_false e, Bool.or_false]
noncomputable def F23f : Option (List Prop × Nat × (Nat → Int)) → Option (List Prop × Nat × (Nat → Bool)) → Option (List Prop × (Nat → AV) × (Nat → Option Fam))
  | some (o1, n, G), some (o2, m, T) => if rsE n m G T = 0 then some (o1 ++ o2, fun k => .tup [.bx k 0, i64 0], fun k => some (slF k ⟨xOf T n, n, G, noRows⟩)) else some (o1 ++ o2, fun _ => .tup [.v (.pointer none), i64 (rsE n m G T)], fun _ => none)
  | _, _ => none
noncomputable def F23 : List AV → Option (List Prop × (Nat → AV) × (Nat → Option Fam))
  | [a, b] => F23f (roJ a) (roB b)
  | _ => none
noncomputable def mN23 : MCon := mcKU F23
theorem mN23_eq : mN23 = mcKU F23 := (rfl)
theorem mon23 : MConOK Try.prog 23 mN23 := MConOK.mkU (G := [(51, .wr mN51), (52, .wr m52W)]) (H := []) (.mcons mon51 (.mcons mon52W .nil)) Try.func23 fun es ob v nw hF hob => by
  unfold F23 at hF
  split at hF
  · rename_i a b
    unfold F23f at hF
    split at hF
    · rename_i o1 n G o2 m T ha hb
      have hob' : ∀ p ∈ o1 ++ o2, p := by
        split at hF <;> (cases hF; exact hob)
      refine ⟨[.ro n 1 fun i => [i64 (G i)], .ro m 1 fun i => [bo (T i)]], fun w I vs hR => ?_, by simp [clean], by kernel_rfl, fun key => bodyM_go (rs := [.tmp 4, .tmp 5]) rfl rfl ?_⟩
      · obtain ⟨y, ys, rfl, k1, k2⟩ := hR.inv
        obtain ⟨y2, ys2, rfl, k3, k4⟩ := k2.inv
        exact .cons (roJ_sound ha (fun p hp => hob' p (by simp [hp])) k1) (.cons (roB_sound hb (fun p hp => hob' p (by simp [hp])) k3) k4)
      have fin : ∀ (e : Int) (m1 : Mem), rsE n m G T = e → e ≠ 0 → NewP key 0 (.tup [.v (.pointer none), i64 e]) m1 (v key) (nw key) := fun e m1 he hne => by
        rw [if_neg (by rw [he]; exact hne)] at hF
        cases hF
        rw [he]
        exact newP_none rfl
      simp only [go_sem, m52W]
      refine ⟨fun h => fin 3 _ (by unfold rsE; rw [if_pos (by omega)]) (by decide), fun h => ?_⟩
      have hn : ¬ (n < 1 ∨ 64 < n) := by omega
      refine loopN_go (fun (i : Nat) => i ≤ n ∧ ∀ j, j < i → badG G j = false) (fun i => n - i) (fun i => [(21, i64 i)]) (fun i => []) [] [22, 23, 24, 7, 25, 26, 27, 28, 29, 30, 4, 5, 31, 21] 0 0 (by kernel_rfl) ⟨Nat.zero_le _, fun j hj => by omega⟩ ⟨[], ?_, ?_, ?_, ?_⟩ ?_
      · simp only [go_sem]
      · simp only [go_sem]
      · simp only [go_sem]
      · simp [goodNames, asg]
      rintro i ⟨hi, hj⟩
      have n1 : 0 < n := by omega
      have n2 : n ≤ 64 := by omega
      simp only [go_sem, m52W, F51, n1, n2]
      refine ⟨fun h => ⟨by omega, h, fun hb => fin 3 _ ?_ (by decide), fun hb z hz => ⟨i + 1, ⟨by omega, fun j h2 => ?_⟩, by omega, [], by rw [hz, wrap_in (by unfold inR; omega)]; omega, by simp [goodNames, asg]⟩⟩, fun h => ?_⟩
      · have hb : badG G i = true := by
          unfold badG
          rw [Bool.or_eq_true, decide_eq_true_iff, decide_eq_true_iff]; exact hb
        unfold rsE
        rw [if_neg hn, if_pos]
        rw [lst_eq hj (by omega : i < n) hb]; omega
      · by_cases e : j = i
        · subst e
          unfold badG
          rw [decide_eq_false hb.1, decide_eq_false hb.2]; rfl
        · exact hj j (by omega)
      have hG : ¬ lst (badG G) n < n := by rw [lst_full fun j h2 => hj j (by omega)]; omega
      refine ⟨fun hne => fin 4 _ ?_ (by decide), fun heq => ?_⟩
      · have hne : (m : Int) ≠ n := by simpa using hne
        unfold rsE
        rw [if_neg hn, if_neg hG, if_pos (by omega)]
      have hmn : m = n := by
        have : (m : Int) = n := by simpa using heq
        omega
      subst hmn
      refine loopN_go (fun (i : Nat) => i ≤ m ∧ ∀ j, j < i → badT G T j = false) (fun i => m - i) (fun i => [(43, i64 i)]) (fun i => [(22, fam1 88 2 [u64 (xOf T i), .own 20 0 m 1] none)]) [20] [44, 45, 46, 47, 9, 10, 48, 49, 50, 51, 52, 53, 54, 4, 5, 55, 56, 57, 58, 59, 60, 43] 0 0 (by kernel_rfl) ⟨Nat.zero_le _, fun j hj => by omega⟩ ⟨[], ?_, ?_, ?_, ?_⟩ ?_
      · simp only [go_sem]
      · simp only [go_sem]
        rfl
      · simp only [go_sem]
      · simp [goodNames, asg]
      rintro k ⟨hk, hkj⟩
      simp only [go_sem, m52W, m52W_eq, w52a_fam, w52b_fam]
      have hX := xOf_lt (T := T) (k := k) (by omega)
      have hfit : ∀ (y : Nat) (x : Int), x = xOf T y → fitRows 27 27 [] [(22, fam1 88 2 [u64 x, AV.own 20 0 m 1] none), (20, famN m 1 3 (fun i => [i64 (G i)]) none)] [(22, fam1 88 2 [u64 (xOf T y), AV.own 20 0 m 1] none)] := fun y x hx => by
        simp only [go_sem]
        exact hx
      have hstep : badT G T k = false → ∀ j, j < k + 1 → badT G T j = false := fun hp j hj2 => by
        by_cases e : j = k
        · subst e; exact hp
        · exact hkj j (by omega)
      refine ⟨fun h1 => ⟨by omega, h1, fun hf z hz => ⟨k + 1, ⟨by omega, hstep (by unfold badT; rw [hf]; rfl)⟩, by omega, [], by rw [hz, wrap_in (by unfold inR; omega)]; omega, hfit _ _ (by rw [xOf, if_neg (by rw [hf]; decide)]), by simp [goodNames, asg]⟩, fun ht => ⟨by omega, h1, fun h0 => fin 4 _ ?_ (by decide), fun h0 => ⟨by decide, hX.1, hX.2, by omega, by omega, fun z hz => ⟨k + 1, ⟨by omega, hstep (by unfold badT; rw [h0, Bool.and_false])⟩, by omega, [], by rw [hz, wrap_in (by unfold inR; omega)]; omega, hfit _ _ (by rw [xOf, if_pos ht]), by simp [goodNames, asg]⟩⟩⟩⟩, fun h1 => ?_⟩
      · have hb : badT G T k = true := by unfold badT; rw [ht, h0]; rfl
        unfold rsE
        rw [if_neg hn, if_neg hG, if_neg (by simp), if_pos]
        rw [lst_eq hkj (by omega : k < m) hb]; omega
      · have e : k = m := by omega
        subst e
        have h0 : rsE k k G T = 0 := by
          unfold rsE
          rw [if_neg hn, if_neg hG, if_neg (by simp), if_neg]
          rw [lst_full fun j h2 => hkj j (by omega)]; omega
        rw [if_pos h0] at hF
        cases hF
        exact newS (v := fun k => .tup [.bx k 0, i64 0]) (X := G) (r1 := 22) (r2 := 20) (fun _ _ => rfl) (fun G B r hr c hc => by
          simp only [List.mem_cons, List.not_mem_nil, or_false] at hc
          rcases hc with rfl | rfl
          · exact hr
          · trivial) rfl rfl (by decide) (Nat.zero_le _) (Nat.zero_le _)
    · cases hF
  · cases hF
end Go.Ax
end

section
/-
  The shelf's contracts at this program, in plain words (written by a tool of the kit's).
-/
namespace Go.Proofs
open Go.Shelf
def Try.keysA_ren : Go.Shelf.Ren := ⟨fun | 7 => 59 | 10 => 71 | n => n, fun | 23 => 71 | 26 => 3 | 3 => 30 | 28 => 94 | 0 => 0 | 27 => 93 | 33 => 48 | 4 => 4 | n => n, fun | n => n⟩
theorem Try.keysA : Go.Proofs.SlLaysZI.n7 Try.prog Try.keysA_ren := {
  mixed := by kernel_rfl
  f7 := ⟨Try.f59.name, by decide, Try.func59.trans (congrArg some (by kernel_rfl))⟩
  f10 := ⟨Try.f71.name, by decide, Try.func71.trans (congrArg some (by kernel_rfl))⟩
  t0 := Try.underlying0
  a0 := Try.isAgg0
  z0 := Try.sizeOf0
  v0 := Try.zeroValue0
  t4 := Try.underlying4
  a4 := Try.isAgg4
  z4 := Try.sizeOf4
  v4 := Try.zeroValue4
  t23 := Try.underlying71
  a23 := Try.isAgg71
  z23 := Try.sizeOf71
  v23 := Try.zeroValue71
  t26 := Try.underlying3
  a26 := Try.isAgg3
  z26 := Try.sizeOf3
  v26 := Try.zeroValue3
  t27 := Try.underlying93
  a27 := Try.isAgg93
  z27 := Try.sizeOf93
  v27 := Try.zeroValue93
  t28 := Try.underlying94
  a28 := Try.isAgg94
  z28 := Try.sizeOf94
  v28 := Try.zeroValue94
  t33 := Try.underlying48
  a33 := Try.isAgg48
  z33 := Try.sizeOf48
  v33 := Try.zeroValue48 }
def Try.sortedA_ren : Go.Shelf.Ren := ⟨fun | 6 => 58 | 8 => 69 | 9 => 70 | 11 => 90 | 13 => 61 | 12 => 91 | 23 => 80 | 24 => 81 | 14 => 100 | 15 => 101 | 16 => 102 | 17 => 103 | 18 => 104 | 19 => 105 | 20 => 106 | 21 => 107 | 22 => 108 | 25 => 111 | 26 => 93 | 27 => 94 | 28 => 112 | 29 => 113 | 30 => 63 | 31 => 114 | n => n, fun | 26 => 3 | 28 => 94 | 24 => 22 | 0 => 0 | 3 => 3 | 37 => 98 | 48 => 117 | 50 => 84 | 4 => 4 | 40 => 110 | 39 => 109 | 45 => 114 | 5 => 5 | 9 => 9 | 51 => 126 | 55 => 130 | 57 => 140 | 58 => 141 | 33 => 48 | n => n, fun | n => n⟩
theorem Try.sortedA : Go.Proofs.SlLaysZI.n6 Try.prog Try.sortedA_ren := {
  mixed := by kernel_rfl
  f6 := ⟨Try.f58.name, by decide, Try.func58.trans (congrArg some (by kernel_rfl))⟩
  f8 := ⟨Try.f69.name, by decide, Try.func69.trans (congrArg some (by kernel_rfl))⟩
  f11 := ⟨Try.f90.name, by decide, Try.func90.trans (congrArg some (by kernel_rfl))⟩
  t0 := Try.underlying0
  a0 := Try.isAgg0
  z0 := Try.sizeOf0
  v0 := Try.zeroValue0
  t24 := Try.underlying22
  a24 := Try.isAgg22
  z24 := Try.sizeOf22
  v24 := Try.zeroValue22
  t26 := Try.underlying3
  a26 := Try.isAgg3
  z26 := Try.sizeOf3
  v26 := Try.zeroValue3
  t28 := Try.underlying94
  a28 := Try.isAgg94
  z28 := Try.sizeOf94
  v28 := Try.zeroValue94
  i26 := by kernel_rfl }
def Try.sortA_ren : Go.Shelf.Ren := ⟨fun | 5 => 70 | 8 => 61 | 7 => 91 | 19 => 80 | 20 => 81 | 10 => 100 | 11 => 101 | 12 => 102 | 13 => 103 | 14 => 104 | 15 => 105 | 16 => 106 | 17 => 107 | 18 => 108 | 30 => 111 | 31 => 93 | 32 => 94 | 33 => 112 | 34 => 113 | 35 => 63 | 40 => 114 | n => n, fun | 23 => 22 | 25 => 3 | 3 => 3 | 32 => 98 | 22 => 22 | 0 => 0 | 44 => 117 | 46 => 84 | 4 => 4 | 36 => 110 | 35 => 109 | 41 => 114 | 5 => 5 | 9 => 9 | 53 => 126 | 57 => 130 | 63 => 140 | 64 => 141 | n => n, fun | n => n⟩
theorem Try.sortA : Go.Proofs.SlLaysM.n5 Try.prog Try.sortA_ren := {
  mixed := by kernel_rfl
  f5 := ⟨Try.f70.name, by decide, Try.func70.trans (congrArg some (by kernel_rfl))⟩
  f7 := ⟨Try.f91.name, by decide, Try.func91.trans (congrArg some (by kernel_rfl))⟩
  f8 := Try.func61.trans (congrArg some (by kernel_rfl))
  f10 := ⟨Try.f100.name, by decide, Try.func100.trans (congrArg some (by kernel_rfl))⟩
  f11 := ⟨Try.f101.name, by decide, Try.func101.trans (congrArg some (by kernel_rfl))⟩
  f12 := ⟨Try.f102.name, by decide, Try.func102.trans (congrArg some (by kernel_rfl))⟩
  f13 := ⟨Try.f103.name, by decide, Try.func103.trans (congrArg some (by kernel_rfl))⟩
  f14 := ⟨Try.f104.name, by decide, Try.func104.trans (congrArg some (by kernel_rfl))⟩
  f15 := ⟨Try.f105.name, by decide, Try.func105.trans (congrArg some (by kernel_rfl))⟩
  f16 := ⟨Try.f106.name, by decide, Try.func106.trans (congrArg some (by kernel_rfl))⟩
  f17 := ⟨Try.f107.name, by decide, Try.func107.trans (congrArg some (by kernel_rfl))⟩
  f18 := ⟨Try.f108.name, by decide, Try.func108.trans (congrArg some (by kernel_rfl))⟩
  f19 := Try.func80.trans (congrArg some (by kernel_rfl))
  f20 := Try.func81.trans (congrArg some (by kernel_rfl))
  f30 := ⟨Try.f111.name, by decide, Try.func111.trans (congrArg some (by kernel_rfl))⟩
  f31 := Try.func93.trans (congrArg some (by kernel_rfl))
  f32 := Try.func94.trans (congrArg some (by kernel_rfl))
  f33 := ⟨Try.f112.name, by decide, Try.func112.trans (congrArg some (by kernel_rfl))⟩
  f34 := ⟨Try.f113.name, by decide, Try.func113.trans (congrArg some (by kernel_rfl))⟩
  f35 := ⟨Try.f63.name, by decide, Try.func63.trans (congrArg some (by kernel_rfl))⟩
  f40 := ⟨Try.f114.name, by decide, Try.func114.trans (congrArg some (by kernel_rfl))⟩
  t0 := Try.underlying0
  a0 := Try.isAgg0
  z0 := Try.sizeOf0
  v0 := Try.zeroValue0
  t3 := Try.underlying3
  a3 := Try.isAgg3
  z3 := Try.sizeOf3
  v3 := Try.zeroValue3
  t4 := Try.underlying4
  a4 := Try.isAgg4
  z4 := Try.sizeOf4
  v4 := Try.zeroValue4
  t5 := Try.underlying5
  a5 := Try.isAgg5
  z5 := Try.sizeOf5
  v5 := Try.zeroValue5
  t9 := Try.underlying9
  a9 := Try.isAgg9
  z9 := Try.sizeOf9
  v9 := Try.zeroValue9
  t22 := Try.underlying22
  a22 := Try.isAgg22
  z22 := Try.sizeOf22
  v22 := Try.zeroValue22
  t23 := Try.underlying22
  a23 := Try.isAgg22
  z23 := Try.sizeOf22
  v23 := Try.zeroValue22
  t25 := Try.underlying3
  a25 := Try.isAgg3
  z25 := Try.sizeOf3
  v25 := Try.zeroValue3
  t32 := Try.underlying98
  a32 := Try.isAgg98
  z32 := Try.sizeOf98
  v32 := Try.zeroValue98
  t35 := Try.underlying109
  a35 := Try.isAgg109
  z35 := Try.sizeOf109
  v35 := Try.zeroValue109
  t36 := Try.underlying110
  a36 := Try.isAgg110
  z36 := Try.sizeOf110
  v36 := Try.zeroValue110
  t41 := Try.underlying114
  a41 := Try.isAgg114
  z41 := Try.sizeOf114
  v41 := Try.zeroValue114
  t44 := Try.underlying117
  a44 := Try.isAgg117
  z44 := Try.sizeOf117
  v44 := Try.zeroValue117
  t46 := Try.underlying84
  a46 := Try.isAgg84
  z46 := Try.sizeOf84
  v46 := Try.zeroValue84
  t53 := Try.underlying126
  a53 := Try.isAgg126
  z53 := Try.sizeOf126
  v53 := Try.zeroValue126
  t57 := Try.underlying130
  a57 := Try.isAgg130
  z57 := Try.sizeOf130
  v57 := Try.zeroValue130
  t63 := Try.underlying140
  a63 := Try.isAgg140
  z63 := Try.sizeOf140
  v63 := Try.zeroValue140
  t64 := Try.underlying141
  a64 := Try.isAgg141
  z64 := Try.sizeOf141
  v64 := Try.zeroValue141 }
def Try.sortF_ren : Go.Shelf.Ren := ⟨fun | 6 => 33 | 15 => 61 | 14 => 60 | 28 => 80 | 29 => 81 | 20 => 72 | 21 => 73 | 22 => 74 | 23 => 75 | 24 => 76 | 25 => 77 | 26 => 78 | 27 => 79 | 46 => 92 | 47 => 93 | 48 => 94 | 49 => 95 | 50 => 96 | 57 => 109 | n => n, fun | 22 => 22 | 24 => 3 | 25 => 39 | 3 => 3 | 39 => 98 | 0 => 0 | 53 => 117 | 55 => 84 | 4 => 4 | 46 => 110 | 45 => 109 | 50 => 114 | 5 => 5 | 9 => 9 | 66 => 126 | 70 => 130 | 76 => 140 | 77 => 141 | n => n, fun | n => n⟩
theorem Try.sortF : Go.Proofs.SlLaysF.n6 Try.prog Try.sortF_ren := {
  mixed := by kernel_rfl
  f6 := ⟨Try.f33.name, by decide, Try.func33.trans (congrArg some (by kernel_rfl))⟩
  f14 := ⟨Try.f60.name, by decide, Try.func60.trans (congrArg some (by kernel_rfl))⟩
  f15 := Try.func61.trans (congrArg some (by kernel_rfl))
  f20 := ⟨Try.f72.name, by decide, Try.func72.trans (congrArg some (by kernel_rfl))⟩
  f21 := ⟨Try.f73.name, by decide, Try.func73.trans (congrArg some (by kernel_rfl))⟩
  f22 := ⟨Try.f74.name, by decide, Try.func74.trans (congrArg some (by kernel_rfl))⟩
  f23 := ⟨Try.f75.name, by decide, Try.func75.trans (congrArg some (by kernel_rfl))⟩
  f24 := ⟨Try.f76.name, by decide, Try.func76.trans (congrArg some (by kernel_rfl))⟩
  f25 := ⟨Try.f77.name, by decide, Try.func77.trans (congrArg some (by kernel_rfl))⟩
  f26 := ⟨Try.f78.name, by decide, Try.func78.trans (congrArg some (by kernel_rfl))⟩
  f27 := ⟨Try.f79.name, by decide, Try.func79.trans (congrArg some (by kernel_rfl))⟩
  f28 := Try.func80.trans (congrArg some (by kernel_rfl))
  f29 := Try.func81.trans (congrArg some (by kernel_rfl))
  f46 := ⟨Try.f92.name, by decide, Try.func92.trans (congrArg some (by kernel_rfl))⟩
  f47 := Try.func93.trans (congrArg some (by kernel_rfl))
  f48 := Try.func94.trans (congrArg some (by kernel_rfl))
  f49 := ⟨Try.f95.name, by decide, Try.func95.trans (congrArg some (by kernel_rfl))⟩
  f50 := ⟨Try.f96.name, by decide, Try.func96.trans (congrArg some (by kernel_rfl))⟩
  f57 := ⟨Try.f109.name, by decide, Try.func109.trans (congrArg some (by kernel_rfl))⟩
  t0 := Try.underlying0
  a0 := Try.isAgg0
  z0 := Try.sizeOf0
  v0 := Try.zeroValue0
  t3 := Try.underlying3
  a3 := Try.isAgg3
  z3 := Try.sizeOf3
  v3 := Try.zeroValue3
  t4 := Try.underlying4
  a4 := Try.isAgg4
  z4 := Try.sizeOf4
  v4 := Try.zeroValue4
  t5 := Try.underlying5
  a5 := Try.isAgg5
  z5 := Try.sizeOf5
  v5 := Try.zeroValue5
  t9 := Try.underlying9
  a9 := Try.isAgg9
  z9 := Try.sizeOf9
  v9 := Try.zeroValue9
  t22 := Try.underlying22
  a22 := Try.isAgg22
  z22 := Try.sizeOf22
  v22 := Try.zeroValue22
  a24 := Try.isAgg3
  z24 := Try.sizeOf3
  t25 := Try.underlying39
  a25 := Try.isAgg39
  z25 := Try.sizeOf39
  v25 := Try.zeroValue39
  t39 := Try.underlying98
  a39 := Try.isAgg98
  z39 := Try.sizeOf98
  v39 := Try.zeroValue98
  t45 := Try.underlying109
  a45 := Try.isAgg109
  z45 := Try.sizeOf109
  v45 := Try.zeroValue109
  t46 := Try.underlying110
  a46 := Try.isAgg110
  z46 := Try.sizeOf110
  v46 := Try.zeroValue110
  t50 := Try.underlying114
  a50 := Try.isAgg114
  z50 := Try.sizeOf114
  v50 := Try.zeroValue114
  t53 := Try.underlying117
  a53 := Try.isAgg117
  z53 := Try.sizeOf117
  v53 := Try.zeroValue117
  t55 := Try.underlying84
  a55 := Try.isAgg84
  z55 := Try.sizeOf84
  v55 := Try.zeroValue84
  t66 := Try.underlying126
  a66 := Try.isAgg126
  z66 := Try.sizeOf126
  v66 := Try.zeroValue126
  t70 := Try.underlying130
  a70 := Try.isAgg130
  z70 := Try.sizeOf130
  v70 := Try.zeroValue130
  t76 := Try.underlying140
  a76 := Try.isAgg140
  z76 := Try.sizeOf140
  v76 := Try.zeroValue140
  t77 := Try.underlying141
  a77 := Try.isAgg141
  z77 := Try.sizeOf141
  v77 := Try.zeroValue141 }
def Try.sortP_ren : Go.Shelf.Ren := ⟨fun | 6 => 41 | 15 => 61 | 14 => 65 | 28 => 80 | 29 => 81 | 20 => 82 | 21 => 83 | 22 => 84 | 23 => 85 | 24 => 86 | 25 => 87 | 26 => 88 | 27 => 89 | 46 => 97 | 47 => 93 | 48 => 94 | 49 => 98 | 50 => 99 | 57 => 110 | n => n, fun | 22 => 27 | 24 => 32 | 25 => 76 | 3 => 3 | 39 => 98 | 0 => 0 | 53 => 117 | 55 => 84 | 4 => 4 | 46 => 110 | 45 => 109 | 50 => 114 | 5 => 5 | 9 => 9 | 66 => 126 | 70 => 130 | 76 => 140 | 77 => 141 | n => n, fun | n => n⟩
theorem Try.sortP : Go.Proofs.SlLaysF0.n6 Try.prog Try.sortP_ren := {
  mixed := by kernel_rfl
  f6 := ⟨Try.f41.name, by decide, Try.func41.trans (congrArg some (by kernel_rfl))⟩
  f14 := ⟨Try.f65.name, by decide, Try.func65.trans (congrArg some (by kernel_rfl))⟩
  f15 := Try.func61.trans (congrArg some (by kernel_rfl))
  f20 := ⟨Try.f82.name, by decide, Try.func82.trans (congrArg some (by kernel_rfl))⟩
  f21 := ⟨Try.f83.name, by decide, Try.func83.trans (congrArg some (by kernel_rfl))⟩
  f22 := ⟨Try.f84.name, by decide, Try.func84.trans (congrArg some (by kernel_rfl))⟩
  f23 := ⟨Try.f85.name, by decide, Try.func85.trans (congrArg some (by kernel_rfl))⟩
  f24 := ⟨Try.f86.name, by decide, Try.func86.trans (congrArg some (by kernel_rfl))⟩
  f25 := ⟨Try.f87.name, by decide, Try.func87.trans (congrArg some (by kernel_rfl))⟩
  f26 := ⟨Try.f88.name, by decide, Try.func88.trans (congrArg some (by kernel_rfl))⟩
  f27 := ⟨Try.f89.name, by decide, Try.func89.trans (congrArg some (by kernel_rfl))⟩
  f28 := Try.func80.trans (congrArg some (by kernel_rfl))
  f29 := Try.func81.trans (congrArg some (by kernel_rfl))
  f46 := ⟨Try.f97.name, by decide, Try.func97.trans (congrArg some (by kernel_rfl))⟩
  f47 := Try.func93.trans (congrArg some (by kernel_rfl))
  f48 := Try.func94.trans (congrArg some (by kernel_rfl))
  f49 := ⟨Try.f98.name, by decide, Try.func98.trans (congrArg some (by kernel_rfl))⟩
  f50 := ⟨Try.f99.name, by decide, Try.func99.trans (congrArg some (by kernel_rfl))⟩
  f57 := ⟨Try.f110.name, by decide, Try.func110.trans (congrArg some (by kernel_rfl))⟩
  t0 := Try.underlying0
  a0 := Try.isAgg0
  z0 := Try.sizeOf0
  v0 := Try.zeroValue0
  t3 := Try.underlying3
  a3 := Try.isAgg3
  z3 := Try.sizeOf3
  v3 := Try.zeroValue3
  t4 := Try.underlying4
  a4 := Try.isAgg4
  z4 := Try.sizeOf4
  v4 := Try.zeroValue4
  t5 := Try.underlying5
  a5 := Try.isAgg5
  z5 := Try.sizeOf5
  v5 := Try.zeroValue5
  t9 := Try.underlying9
  a9 := Try.isAgg9
  z9 := Try.sizeOf9
  v9 := Try.zeroValue9
  t22 := Try.underlying27
  a22 := Try.isAgg27
  z22 := Try.sizeOf27
  v22 := Try.zeroValue27
  t25 := Try.underlying76
  a25 := Try.isAgg76
  z25 := Try.sizeOf76
  v25 := Try.zeroValue76
  t39 := Try.underlying98
  a39 := Try.isAgg98
  z39 := Try.sizeOf98
  v39 := Try.zeroValue98
  t45 := Try.underlying109
  a45 := Try.isAgg109
  z45 := Try.sizeOf109
  v45 := Try.zeroValue109
  t46 := Try.underlying110
  a46 := Try.isAgg110
  z46 := Try.sizeOf110
  v46 := Try.zeroValue110
  t50 := Try.underlying114
  a50 := Try.isAgg114
  z50 := Try.sizeOf114
  v50 := Try.zeroValue114
  t53 := Try.underlying117
  a53 := Try.isAgg117
  z53 := Try.sizeOf117
  v53 := Try.zeroValue117
  t55 := Try.underlying84
  a55 := Try.isAgg84
  z55 := Try.sizeOf84
  v55 := Try.zeroValue84
  t66 := Try.underlying126
  a66 := Try.isAgg126
  z66 := Try.sizeOf126
  v66 := Try.zeroValue126
  t70 := Try.underlying130
  a70 := Try.isAgg130
  z70 := Try.sizeOf130
  v70 := Try.zeroValue130
  t76 := Try.underlying140
  a76 := Try.isAgg140
  z76 := Try.sizeOf140
  v76 := Try.zeroValue140
  t77 := Try.underlying141
  a77 := Try.isAgg141
  z77 := Try.sizeOf141
  v77 := Try.zeroValue141 }
end Go.Proofs
end

section
/-
  The ids of a map, sorted, ars a new slice: the shelf's contracts, laid here.
-/
set_option linter.unusedVariables false
set_option linter.unusedSimpArgs false
set_option maxHeartbeats 4000000
set_option maxRecDepth 100000
namespace Go.Proofs
open Go.RowKit Go.Maps Go.Sort Go.Shelf
/-- slices.Sort's two contracts here. -/
theorem Try.sortsA (m : Nat) : AnyZI.SortsIn Try.prog Try.sortedA_ren Fence.wide m :=
  ⟨fun blk off cap ss W hH hblk hsz => callsIn_wide.2 (AnyM.slices_Sort_int Try.sortA blk off cap ss W hH hblk hsz),
   fun p cap W => callsIn_wide.2 (AnyM.slices_Sort_int_none Try.sortA p cap W)⟩
theorem Try.sorted_keys {H : Type} (Bm b nn : Nat) (D0 : DataW H) (R : Value → Option (DataW H × List MemPlace)) (w : World) (hBm : Bm < w.heap.size) (hm : w.cell? ⟨Bm, 0, none⟩ = some (.map (some b)))
    (hown : w.ownsMap Try.prog 3 R b nn D0) (hmax : Maps.size D0 ≤ maxLen) (hbytes : Maps.size D0 * 8 ≤ 140737488355328) :
    Calls Try.prog 58 #[.func (.func 71) #[] #[.pointer (some ⟨Bm, 0, none⟩)]] w fun e w' => ∃ (v : Value) (ss : List Int), e = .returned v ∧ ss.Perm (intKeys D0) ∧
      w'.ownsRow w.heap.size 3 1 v ss.length ((ss.mergeSort (fun x y => decide (x ≤ y))).map encZ) ∧ (v = .slice none 0 0 ↔ ss = []) ∧ Below w.heap.size w w' := by
  refine (callsIn_wide (n := 5)).1 ?_
  have hseq : SeqGives Fence.wide 2 Try.prog 71 #[.pointer (some ⟨Bm, 0, none⟩)] encZ (fun ss => ss.Perm (intKeys D0)) (Maps.size D0) w :=
    AnyZI.keys_gives (ρ := Try.keysA_ren) { Try.keysA with } Fence.wide _ trivial rfl (by omega) Bm b nn D0 _ hBm hm hown
  have cS := AnyZI.sorted_in Try.sortedA Fence.wide 5 trivial trivial trivial trivial rfl (by omega) (Try.sortsA _) (enters_of Try.func70 (by kernel_rfl) rfl) 71 #[.pointer (some ⟨Bm, 0, none⟩)] trivial (enters_of Try.func71 (by kernel_rfl) rfl) _ _ hmax hbytes _ hseq
  exact cS
end Go.Proofs
namespace Go.Ax
open Go.Proofs Go.Maps Go.MapKept Go.RowKit
/-- A slice that lies in a block of its own, new since a world. -/
theorem slice_post {w0 : Base} {J : Nat → Prop} {w w' : World} {key n sz : Nat} {ty : TypeId} {get : Nat → List AV} {v : Value} {xs : List Value} {ob : List Prop} (hty : ty < 1000000) (hR : Rel w0 (.ext J) [] (fun _ => False) w) (hb : Below w.heap.size w w') (hrow : w'.ownsRow w.heap.size ty sz v n xs)
    (hlen : ∀ i, i < n → (get i).length = sz) (hget : ∀ i k c x, i < n → (get i)[k]? = some c → xs[i * sz + k]? = some x → R w' (.ext J) c x) : Post w0 (.ext J) [] (fun _ => False) key ⟨ob, .own key 0 n sz, .many [] (some (famN n sz ty get none))⟩ w v w' := by
  have hR' := hR.stay hb
  have hsame : Same J w w' := fun b hb' => hb.block b (hR.imm2 b hb').1
  have main : ∀ gb cap : Nat, w.heap.size ≤ gb → n ≤ cap → (0 < cap → ∃ c : Array Value, w'.heap[gb]? = some (.cells c ty (0, 0)) ∧ c.size = cap * sz ∧ c.toList.take (n * sz) = xs) →
      Rel w0 (Env.add (.ext J) key gb cap) (insRow key (famN n sz ty get none) []) (fun r => False ∨ r = key) w' := fun gb cap hg hn hc => by
    have bk : ∀ f, (Env.add (.ext J) key gb cap).blk key f = gb := fun f => by simp [Env.add]
    have cp : ∀ f, (Env.add (.ext J) key gb cap).cap key f = if f = 0 then cap else 0 := fun f => by simp [Env.add]
    have lk : ∀ r x, look (insRow key (famN n sz ty get none) []) r = some x → r = key ∧ x = famN n sz ty get none := fun r x hx => by
      simp only [insRow, look] at hx
      split at hx
      · rename_i e; cases hx; exact ⟨e.symm, rfl⟩
      · cases hx
    have hnJ : ¬ J gb := fun h => by have := (hR.imm2 gb h).1; omega
    have hw0 : w0.heap.size ≤ w.heap.size := hR.below.size
    refine ⟨hR'.below, fun b hb => hR'.imm2 b hb, fun r hr => ?_, fun r x hx => .inr (lk r x hx).1, fun r x f hx hg' => ?_, fun r x f r' x' f' hx hx' hg1 hg2 hc1 hc2 e => ?_, fun p hp => ?_, fun p hp => hR'.kept p hp⟩
    · rcases hr with hr | hr
      · exact .inl hr
      · exact .inr hr
    · obtain ⟨rfl, rfl⟩ := lk r x hx
      refine ⟨.inr rfl, ?_⟩
      match f with
      | 0 =>
        refine ⟨by rw [cp]; exact hn, fun h => ?_, fun i hi => hlen i hi, fun i k c x hi h1 h2 => ?_⟩
        · rw [cp, if_pos rfl] at h
          obtain ⟨c, h1, h2, h3⟩ := hc h
          rw [bk, cp, if_pos rfl]
          exact ⟨by omega, hnJ, _, h1, .inl ⟨c, rfl, h2, hty⟩⟩
        · have hi : i < n := hi
          have hcap : 0 < cap := by omega
          obtain ⟨cc, k1, k2, k3⟩ := hc hcap
          rw [bk] at h2
          have hk : k < sz := by
            have : (get i)[k]? = some c := h1
            have h4 := (List.getElem?_eq_some_iff.1 this).1
            rw [hlen i hi] at h4
            exact h4
          have hlt : i * sz + k < n * sz := by
            have := Nat.mul_le_mul_right sz (show i + 1 ≤ n by omega)
            rw [Nat.add_mul] at this
            omega
          have hx : xs[i * sz + k]? = some x := by
            have h2 : Has w' gb (i * sz + k) x := h2
            unfold Has World.cell? at h2
            simp only [k1] at h2
            rw [← k3, List.getElem?_take, if_pos hlt, Array.getElem?_toList]
            exact h2
          exact (hget i k c x hi h1 hx).mono ⟨fun r h => h.elim, fun r f h => h.elim, fun r f h => h.elim, fun b h => h⟩ (fun b hb => rfl)
      | f + 1 => exact ⟨by rw [cp]; exact Nat.zero_le _, fun h => by rw [cp, if_neg (by omega)] at h; omega, fun i hi => by have hi : i < 0 := hi; omega, fun i k c x hi => by have hi : i < 0 := hi; omega⟩
    · obtain ⟨rfl, _⟩ := lk r x hx
      obtain ⟨rfl, _⟩ := lk r' x' hx'
      refine ⟨rfl, ?_⟩
      rw [cp] at hc1 hc2
      have a1 : f = 0 := Classical.byContradiction fun h => by rw [if_neg h] at hc1; omega
      have a2 : f' = 0 := Classical.byContradiction fun h => by rw [if_neg h] at hc2; omega
      rw [a1, a2]
    · obtain ⟨p1, p2, p3, p4⟩ := hR.fix p hp
      refine ⟨p1, fun r x f hx hg1 hc1 e => ?_, p3, (hR'.fix p hp).2.2.2⟩
      obtain ⟨rfl, _⟩ := lk r x hx
      rw [bk] at e
      have := (Array.getElem?_eq_some_iff.1 p4).1
      omega
  rcases hrow with ⟨hl, ⟨rfl, rfl⟩ | ⟨g, cap, cur, rfl, h1, h2, h3, h4, h5, h6⟩⟩
  · refine ⟨Env.add (.ext J) key w.heap.size 0, ?_, main _ 0 (Nat.le_refl _) (Nat.le_refl _) (fun h => by omega), Env.le_add (fun h => h.elim), hsame⟩
    have h := R.own (w := w') (ρ := Env.add (.ext J) key w.heap.size 0) (r := key) (f := 0) (n := 0) (sz := sz) (a := none) (.inr rfl) (Nat.zero_le _) (fun h => by simp [Env.add] at h)
    have e : (Env.add (.ext J) key w.heap.size 0).cap key 0 = 0 := by simp [Env.add]
    rw [e] at h
    exact h
  · refine ⟨Env.add (.ext J) key g cap, ?_, main g cap h1 h3 (fun _ => ⟨cur, h2, h5, h6⟩), Env.le_add (fun h => h.elim), hsame⟩
    have e1 : (Env.add (.ext J) key g cap).cap key 0 = cap := by simp [Env.add]
    have e2 : (Env.add (.ext J) key g cap).blk key 0 = g := by simp [Env.add]
    have h := R.own (w := w') (ρ := Env.add (.ext J) key g cap) (r := key) (f := 0) (n := n) (sz := sz) (a := some ⟨g, 0, none⟩) (.inr rfl) (by rw [e1]; exact h3) (fun h => by rw [e2])
    rw [e1] at h
    exact h
def vInt : Value → Int
  | .int _ z => z
  | _ => 0
/-- The map that lies behind a map's value, for the shelf. -/
theorem MapIs.owns {P : Program} {k : TypeId} (hk : P.underlying k = some (.int .i64)) {n b : Nat} {L : Ents} {ob : Go.Obj} {w : World} (hb : w.heap[b]? = some ob) (h : MapIs n L ob) (hl : L.length ≤ maxLen) :
    ∃ D0 : DataW Unit, w.ownsMap P k (fun _ => some (.nil, [])) b L.length D0 ∧ (intKeys D0).Perm (L.map (·.1)) ∧ Maps.size D0 = L.length := by
  obtain ⟨es, clock, rfl, hst, hp, hnd, hall⟩ := h
  have hlen : es.size = L.length := by have := hp.length_eq; simpa using this
  have hrd : ∀ x ∈ es.toList, ∃ p ∈ L, x.key = .int .i64 p.1 ∧ WideElems.rd P k (fun _ => some ((.nil : DataW Unit), [])) x = some (.int .i64 p.1, .nil) := fun x hx => by
    have : (x.key, x.val) ∈ L.map entV := hp.mem_iff.1 (List.mem_map.2 ⟨x, hx, rfl⟩)
    obtain ⟨p, hp1, hp2⟩ := List.mem_map.1 this
    have e : x.key = .int .i64 p.1 := by have := congrArg Prod.fst hp2; exact this.symm
    refine ⟨p, hp1, e, ?_⟩
    unfold WideElems.rd
    rw [e]
    obtain ⟨k1, k2⟩ := (hall p hp1).2
    have hmin : IntKind.i64.min = -9223372036854775808 := by decide
    have hmax : IntKind.i64.max = 9223372036854775807 := by decide
    rw [keyOf_int_mk hk (by simp only [Lit.wf, hmin, hmax, Bool.and_eq_true, decide_eq_true_eq]; omega)]
    rfl
  have hperm : ((es.toList.map (WideElems.rg P k (fun _ => some ((.nil : DataW Unit), [])))).map fun p => intOf p.1) = (es.toList.map fun e => (e.key, e.val)).map fun q : Value × Value => vInt q.1 := by
    rw [List.map_map, List.map_map]
    refine List.map_congr_left fun x hx => ?_
    obtain ⟨p, hp1, e, hr⟩ := hrd x hx
    simp only [Function.comp, WideElems.rg, hr, e, Option.getD, vInt, intOf]
  refine ⟨_, ⟨es, clock, hb, ⟨by omega, hst, fun x hx => ?_⟩, by omega, rfl⟩, ?_, ?_⟩
  · obtain ⟨p, hp1, e, hr⟩ := hrd x hx
    exact ⟨_, hr⟩
  · show (List.map (fun p : Lit × DataW Unit => intOf p.1) _).Perm _
    refine ((WideShapes.sorted_perm _).map _).trans ?_
    rw [hperm]
    refine (hp.map _).trans ?_
    rw [List.map_map]
    exact List.Perm.of_eq (List.map_congr_left fun p hp => rfl)
  · show List.length _ = _
    rw [length_sorted]
    simpa using hlen
def mcKf (key : Nat) : Option (List Prop × (Nat → AV) × (Nat → Option Fam)) → Option Eff
  | some (ob, v, nw) => some ⟨ob, v key, .many [] (nw key)⟩
  | none => none
theorem mcK_eq {F : List AV → Option (List Prop × (Nat → AV) × (Nat → Option Fam))} {key : Nat} {m : Mem} {es : List AV} : mcK F key m es = mcKf key (F es) := by
  unfold mcK mcKf
  cases F es <;> rfl
theorem mcKf_some {key : Nat} {ob : List Prop} {v : Nat → AV} {nw : Nat → Option Fam} : mcKf key (some (ob, v, nw)) = some ⟨ob, v key, .many [] (nw key)⟩ := (rfl)
attribute [go_sem] mcK_eq mcKf_some
def F59 : List AV → Option (List Prop × (Nat → AV) × (Nat → Option Fam))
  | [.rm 4 L] => some ([], fun k => .fn 71 [.bx k 0], fun k => some (fam1 71 1 [.rm 4 L] none))
  | _ => none
noncomputable def mN59 : MCon := mcK F59
theorem mN59_eq : mN59 = mcK F59 := (rfl)
theorem F59_eq {L : Ents} : F59 [.rm 4 L] = some ([], fun k => .fn 71 [.bx k 0], fun k => some (fam1 71 1 [.rm 4 L] none)) := (rfl)
attribute [go_sem] mN59_eq F59_eq
theorem fnKey {key r : Nat} {ty : TypeId} {sz : Nat} {c : AV} {f : FuncId} {m1 : Mem} (hc : clean 3 c = true) (h : look m1 r = some (fam1 ty sz [c] none)) : NewP key 0 (.fn f [.bx r 0]) m1 (.fn f [.bx key 0]) (some (fam1 ty sz [c] none)) := by
  refine newP_list [(r, 0)] (by simp) (by simp) (fun c hc => ?_) (fun ks hks => ?_) (fun ks hks f r' g hf => ?_) (fun f hf => ?_)
  · simp only [List.mem_cons, List.not_mem_nil, or_false] at hc
    subst hc
    exact .inr (by simp [sgP])
  · show AV.fn _ [AV.bx key 0] = AV.fn _ [AV.bx (thL ks key (ixP [(r, 0)]) r 0).1 0]
    simp only [thL]
    rw [if_neg (by omega)]
  · match f, hf with
    | 0, hf =>
      cases hf
      refine ⟨_, h, ⟨rfl, rfl, rfl, rfl, fun j hj => ?_⟩, by simp [fam1]⟩
      have hh : ∀ a ∈ [c], clean 3 a = true := by simpa using hc
      obtain ⟨k1, k2⟩ := cleans_ren (θ := thL ks key (ixP [(r, 0)])) (g := newG 0 (sgP [(r, 0)]) (ixP [(r, 0)])) (B := newB 0 (sgP [(r, 0)])) hh
      exact ⟨k1.symm, k2⟩
    | f + 1, hf => simp at hf
  · have : 1 ≤ f := hf
    simp only [fam1]
    rw [if_neg (by omega)]
theorem mon59 : MConOK Try.prog 59 mN59 := MConOK.mcK (G := []) (H := []) .nil Try.func59 fun es ob v nw hF hob => by
  unfold F59 at hF
  split at hF
  · rename_i L
    cases hF
    refine ⟨by simp [clean], by kernel_rfl, fun key => bodyM_go (rs := [.tmp 2]) rfl rfl ?_⟩
    simp only [go_sem]
    exact fnKey rfl rfl
  · cases hF
/-- The ids, sorted. -/
def srtK (L : Ents) : List Int := (L.map (·.1)).mergeSort (fun x y => decide (x ≤ y))
theorem srtK_len {L : Ents} : (srtK L).length = L.length := by simp [srtK]
/-- The sorted ids, out of what the iterator over the map captured. -/
def oneRm (fam : Fam) : Option Ents := match (fam 0).n, (fam 0).g, (fam 0).get 0 with
  | 1, none, [.rm 4 L] => some L
  | _, _, _ => none
def F58 (key : Nat) : Option Ents → Option Eff
  | some L => some ⟨[L.length ≤ 1000], .own key 0 L.length 1, .many [] (some (famN L.length 1 3 (fun i => [i64 ((srtK L).getD i 0)]) none))⟩
  | none => none
def M107 (key : Nat) : Option Fam → Option Eff
  | some fam => F58 key (oneRm fam)
  | none => none
def mN58 : MCon := fun key m es => match es with
  | [.fn 71 [.bx r 0]] => M107 key (look m r)
  | _ => none
theorem mN58_eq {key r : Nat} {m : Mem} : mN58 key m [.fn 71 [.bx r 0]] = M107 key (look m r) := (rfl)
theorem M107_1 {key : Nat} {ty : TypeId} {sz : Nat} {L : Ents} : M107 key (some (fam1 ty sz [.rm 4 L] none)) = some ⟨[L.length ≤ 1000], .own key 0 L.length 1, .many [] (some (famN L.length 1 3 (fun i => [i64 ((srtK L).getD i 0)]) none))⟩ := (rfl)
attribute [go_sem] mN58_eq M107_1
theorem mon58 : MConOK Try.prog 58 mN58 := by
  intro w0 ρ m m' D w key aas vs e hR hk hm hRs hc hob _
  unfold mN58 at hc
  split at hc
  · rename_i r
    unfold M107 at hc
    split at hc
    · rename_i fam hl
      unfold F58 at hc
      split at hc
      · rename_i L hL
        cases hc
        have hlen : L.length ≤ 1000 := hob _ (by simp)
        unfold oneRm at hL
        split at hL
        · rename_i g1 g2 g3
          cases hL
          obtain ⟨y, ys, rfl, k1, k2⟩ := hRs.inv
          have hy0 : ys = [] := by have := k2.1; simpa using this
          subst hy0
          cases k1 with
          | fn hlv hv =>
            rename_i cap
            match cap, hlv with
            | [x], _ =>
              have hx := hv 0 _ x rfl rfl
              cases hx with
              | bx hd =>
                obtain ⟨q1, q2⟩ := hR.row r fam 0 (hm _ _ hl) (by rw [g2]; simp)
                obtain ⟨b1, b2, cc, b3, b4⟩ := q2.cells (by omega)
                have hsz : (fam 0).sz = 1 := by have := q2.len 0 (by omega); rw [g3] at this; exact this.symm
                have hcap : 0 < ρ.cap r 0 := by have := q2.n_le; omega
                have hcs : 0 < cc.size := by rw [b4, hsz]; omega
                have hHas : Has w (ρ.blk r 0) (0 * (fam 0).sz + 0) cc[0] := by
                  unfold Has World.cell?
                  simp [b3, hcs]
                have hrm := q2.rel 0 0 (.rm 4 L) cc[0] (by omega) (by rw [g3]; rfl) hHas
                have hcell : w.cell? ⟨ρ.blk r 0, 0, none⟩ = some cc[0] := by
                  have := hHas
                  rw [Nat.zero_mul] at this
                  exact this
                generalize cc[0] = z at hrm hcell
                cases hrm with
                | rm b hi hb hM =>
                  obtain ⟨D0, h1, h2, h3⟩ := MapIs.owns (P := Try.prog) (k := 3) Try.underlying3 hb hM (by unfold maxLen; omega)
                  have hblt : ρ.blk r 0 < w.heap.size := (Array.getElem?_eq_some_iff.1 b3).1
                  refine .inr ⟨enters_of Try.func58 (by kernel_rfl) rfl _ _, (Try.sorted_keys (ρ.blk r 0) b L.length D0 _ w hblt hcell h1 (by rw [h3]; unfold maxLen; omega) (by rw [h3]; omega)).mono fun e w' ⟨v, ss, he, hp, hrow, _, hbl⟩ => ⟨v, he, ?_⟩⟩
                  have hs : ss.mergeSort (fun x y => decide (x ≤ y)) = srtK L := mergeSort_of_perm_i (hp.trans h2)
                  have hn : ss.length = L.length := by have := (hp.trans h2).length_eq; simpa using this
                  rw [hs, hn] at hrow
                  refine view_post hR hk (by simp [nk]) (by rw [okN_some, famNK_ints]; trivial) (slice_post (ob := []) (by decide) (view_rel hR) hbl hrow (fun i hi => rfl) fun i k c x hi h1 h2 => ?_)
                  match k, h1 with
                  | 0, h1 =>
                    cases h1
                    simp only [Nat.mul_one, Nat.add_zero, List.getElem?_map, Option.map_eq_some_iff] at h2
                    obtain ⟨z, h5, rfl⟩ := h2
                    rw [List.getD_eq_getElem?_getD, h5]
                    exact .v
                  | k + 1, h1 => simp at h1
        · cases hL
      · cases hc
    · cases hc
  · cases hc
def F32 : List AV → Option (List Prop × (Nat → AV) × (Nat → Option Fam))
  | [.rop [.rm 4 L]] => some ([L.length ≤ 1000], fun k => .own k 0 L.length 1, fun k => some (famN L.length 1 3 (fun i => [i64 ((srtK L).getD i 0)]) none))
  | _ => none
noncomputable def mN32 : MCon := mcKU F32
theorem mN32_eq : mN32 = mcKU F32 := (rfl)
theorem F32_eq {L : Ents} : F32 [.rop [.rm 4 L]] = some ([L.length ≤ 1000], fun k => .own k 0 L.length 1, fun k => some (famN L.length 1 3 (fun i => [i64 ((srtK L).getD i 0)]) none)) := (rfl)
attribute [go_sem] mN32_eq F32_eq
theorem mon32 : MConOK Try.prog 32 mN32 := MConOK.mkU (G := [(50, c50), (59, .wr mN59), (58, .wr mN58)]) (H := []) (.cons con50 (.mcons mon59 (.mcons mon58 .nil))) Try.func32 fun es ob v nw hF hob => by
  unfold F32 at hF
  split at hF
  · rename_i L
    cases hF
    have h2 : L.length ≤ 1000 := hob _ (by simp)
    refine ⟨[.rop [.rm 4 L]], fun w I vs hR => hR, by simp [clean], by kernel_rfl, fun key => bodyM_go (rs := [.tmp 2]) rfl rfl ?_⟩
    simp only [go_sem, c50, h2]
    rintro z rfl
    exact ⟨fun h => (by cases h), fun _ => newN rfl (Nat.zero_le _) fun j hj => ⟨rfl, fun c hc => by
      simp only [List.mem_cons, List.not_mem_nil, or_false] at hc
      subst hc; rfl⟩⟩
  · cases hF
end Go.Ax
end

section
/-
  Exact whole numbers of two words.
-/
set_option linter.unusedVariables false
set_option linter.unusedSimpArgs false
set_option maxHeartbeats 1000000
set_option maxRecDepth 100000
namespace Go.Ax
open Go.Proofs

/-! ### Sums with a carry -/
theorem Pur.run {P : Program} {f : FuncId} {es : List AV} {r : AV} (h : ∀ (I : Nat → Prop) (w : World) (vs : List Value), (∀ b, I b → b < w.heap.size) → Rs w (.ext I) es vs → ∃ v, (callFunc f vs.toArray).run P w = .ok (.value v) w ∧ R w (.ext (New I w w)) r v) : Pur P f es r := fun I w vs hI hR => by
  obtain ⟨v, h1, h2⟩ := h I w vs hI hR
  exact .inl ⟨v, w, h1, h2, RowKit.Below.refl _ _⟩
theorem R_v {w : World} {ρ : Env} {x v : Value} (h : R w ρ (.v x) v) : v = x := by cases h; rfl
theorem R_tup2 {w : World} {ρ : Env} {x y : Value} : R w ρ (.tup [.v x, .v y]) (.tuple #[x, y]) := .tup (vs := [x, y]) (by simp) fun i a z e1 e2 => by
  match i with
  | 0 => cases e1; cases e2; exact .v
  | 1 => cases e1; cases e2; exact .v
  | i + 2 => simp at e1
def cz217 : Con
  | [.v (.int .u64 x), .v (.int .u64 y), .v (.int .u64 c)] => some ([inU x, inU y, 0 ≤ c ∧ c ≤ 1], .tup [u64 ((x + y + c) % 18446744073709551616), u64 ((x + y + c) / 18446744073709551616)])
  | _ => none
def cz218 : Con
  | [.v (.int .u64 x), .v (.int .u64 y), .v (.int .u64 c)] => some ([inU x, inU y, 0 ≤ c ∧ c ≤ 1], .tup [u64 ((x - y - c) % 18446744073709551616), u64 (if x < y + c then 1 else 0)])
  | _ => none
/-- The model's row for Sub64. -/
def sub64Row : Array Value → Sem Value := fun vs => do
  let (x, y, b) ← Extern.MathBitsCarry.three "Sub64" vs
  pure (Extern.MathBitsCarry.pair ((x + Extern.MathBitsCarry.m64 - y - b) % Extern.MathBitsCarry.m64) (if x < y + b then 1 else 0))
theorem run_sub64Row {P : Program} (x y c : Nat) (hx : x < 18446744073709551616) (hy : y < 18446744073709551616) (hc : c ≤ 1) (w : World) :
    (sub64Row #[.int .u64 (x : Int), .int .u64 (y : Int), .int .u64 (c : Int)]).run P w = .ok (.tuple #[.int .u64 (((x : Int) - y - c) % 18446744073709551616), .int .u64 (if (x : Int) < y + c then 1 else 0)]) w := by
  have key : (sub64Row #[.int .u64 (x : Int), .int .u64 (y : Int), .int .u64 (c : Int)]).run P w = .ok (Extern.MathBitsCarry.pair ((x + Extern.MathBitsCarry.m64 - y - c) % Extern.MathBitsCarry.m64) (if x < y + c then 1 else 0)) w := by
    have : c = 0 ∨ c = 1 := by omega
    rcases this with rfl | rfl <;> rfl
  rw [key]
  have e1 : Int.ofNat ((x + Extern.MathBitsCarry.m64 - y - c) % Extern.MathBitsCarry.m64) = ((x : Int) - y - c) % 18446744073709551616 := by
    have : Extern.MathBitsCarry.m64 = 18446744073709551616 := by decide
    rw [this]
    show ((((x + 18446744073709551616 - y - c) % 18446744073709551616 : Nat)) : Int) = _
    omega
  have e2 : Int.ofNat (if x < y + c then 1 else 0) = if (x : Int) < y + c then 1 else 0 := by
    by_cases h : x < y + c
    · rw [if_pos h, if_pos (by omega)]; rfl
    · rw [if_neg h, if_neg (by omega)]; rfl
  unfold Extern.MathBitsCarry.pair
  rw [e1, e2]
/-- An exact value: of the program, and of the reference. -/
abbrev ex (g : Bool) (m : Int) : AV := .agg [bo g, u64 (m % 18446744073709551616), u64 (m / 18446744073709551616)]
abbrev wd (g : Bool) (m : Int) : AV := .agg [bo g, u64 (m / 18446744073709551616), u64 (m % 18446744073709551616)]
def jn (h l : Int) : Int := h * 18446744073709551616 + l
theorem jn_mod {h l : Int} (hl : inU l) : jn h l % 18446744073709551616 = l := by unfold jn; unfold inU at hl; omega
theorem jn_div {h l : Int} (hl : inU l) : jn h l / 18446744073709551616 = h := by unfold jn; unfold inU at hl; omega
theorem mod_jn (m : Int) : jn (m / 18446744073709551616) (m % 18446744073709551616) = m := by unfold jn; omega

def cz199 : Con
  | [.v (.int .i64 v)] => some ([inR v], ex (decide (v < 0)) (ab v))
  | _ => none
def cz230 : Con
  | [.v (.int .u64 v)] => some ([], bo false)
  | _ => none
def cmpS (x y : Int) : Int := if x < y then -1 else if y < x then 1 else 0
def cz227 : Con
  | [.v (.int .u64 x), .v (.int .u64 y)] => some ([], i64 (cmpS x y))
  | _ => none
def cz196 : Con
  | [.agg [.v (.bool g), .v (.int .u64 l), .v (.int .u64 h)]] => some ([inU l, inU h], ex g (jn h l / 4294967296))
  | _ => none
def cz200 : Con
  | [.agg [.v (.bool g), .v (.int .u64 l), .v (.int .u64 h)]] => some ([inU l, inU h, h < 4294967296], ex g (jn h l * 4294967296))
  | _ => none
def cz197 : Con
  | [.agg [.v (.bool g), .v (.int .u64 l), .v (.int .u64 h)], .v (.bool f)] => some ([inU l, inU h], .agg [i64 (ftV (sgn g (jn h l))), bo (ftF (sgn g (jn h l)) || f)])
  | _ => none
def cz186 : Con
  | [.v (.int .u64 x), .v (.int .u64 y)] => some ([inU x, inU y], .tup [u64 (x * y / 18446744073709551616), u64 (x * y % 18446744073709551616)])
  | _ => none
end Go.Ax
end

section
/-
  Sums and products of exact values; numbers.
-/
set_option linter.unusedVariables false
set_option linter.unusedSimpArgs false
set_option maxHeartbeats 1000000
set_option maxRecDepth 100000
namespace Go.Ax
open Go.Proofs

/-! ### Comparing -/
def orS (X : Nat → Int) : Nat → Nat → Int
  | _, 0 => 0
  | i, k + 1 => if X i ≠ 0 then X i else orS X (i + 1) k
def c35 : Con
  | [.ro n 1 g] => some ([∀ i, i < n → g i = [i64 (gx g 0 i)], n ≤ 1000], i64 (orS (gx g 0) 0 n))
  | _ => none
theorem vc35 (n : Nat) (X : Nat → Int) (hn : n ≤ 1000) : fnVC Try.prog [] [] Try.f35 [.ro n 1 fun i => [i64 (X i)]] (· = i64 (orS X 0 n)) := by
  refine fnVC_go (rs := [.tmp 2]) rfl rfl ?_
  simp only [go_sem]
  refine loopC_go (fun (i : Nat) => i ≤ n ∧ orS X 0 n = orS X i (n - i)) (fun i => n - i) (fun i => [(8, i64 i)]) (fun _ => []) [] [9, 10, 11, 5, 12, 13, 14, 15, 2, 16, 8] 0 (by kernel_rfl) ?_ ⟨Nat.zero_le _, rfl⟩ ?_ ?_
  · intro x _; simp [goodNames]
  · simp only [go_sem]
  · intro i hi
    simp only [go_sem]
    refine ⟨fun h => ⟨by omega, h, fun hx => ?_, fun hx z hz => ⟨i + 1, ⟨by omega, ?_⟩, by omega, ?_⟩⟩, fun h => ?_⟩
    · rw [hi.2, show n - i = (n - i - 1) + 1 by omega]
      unfold orS
      rw [if_pos (by simpa using hx)]
    · rw [hi.2, show n - i = (n - i - 1) + 1 by omega]
      conv => lhs; unfold orS
      rw [if_neg (by simpa using hx)]
      rw [show n - (i + 1) = n - i - 1 by omega]
    · rw [hz, wrap_in (by unfold inR; omega)]; rfl
    · rw [hi.2, show n - i = 0 by omega]; rfl
theorem con35 : ConOK Try.prog 35 c35 := ConOK.go (G := []) (H := []) .nil Try.func35 fun l ob r hc hob => by
  unfold c35 at hc
  split at hc
  · rename_i n g
    cases hc
    have hs : ∀ i, i < n → g i = [i64 (gx g 0 i)] := hob _ (by simp)
    refine ⟨[.ro n 1 fun i => [i64 (gx g 0 i)]], fun w I vs h => Rs_one (fun v => ro_alike fun i hi => hs i hi) h, by kernel_rfl, vc35 n _ (hob _ (by simp))⟩
  · cases hc
def cz221 : Con
  | [.agg [.v (.int .u64 l), .v (.int .u64 h)], .agg [.v (.int .u64 k), .v (.int .u64 i)]] => some ([inU l, inU h, inU k, inU i], i64 (cmpS (jn h l) (jn i k)))
  | _ => none
def cz194 : Con
  | [.v (.int .i64 a), .v (.int .i64 b)] => some ([inR a, inR b], ex (decide (a < 0) != decide (b < 0)) (ab (a * b)))
  | _ => none
def plG (g : Bool) (m : Int) (g' : Bool) (m' : Int) : Bool := if g = g' then g else if m < m' then g' else g
def plM (g : Bool) (m : Int) (g' : Bool) (m' : Int) : Int := if g = g' then m + m' else if m < m' then m' - m else m - m'
def cz195 : Con
  | [.agg [.v (.bool g), .v (.int .u64 l), .v (.int .u64 h)], .agg [.v (.bool g'), .v (.int .u64 k), .v (.int .u64 i)]] => some ([inU l, inU h, inU k, inU i, jn h l + jn i k < 340282366920938463463374607431768211456], ex (plG g (jn h l) g' (jn i k)) (plM g (jn h l) g' (jn i k)))
  | _ => none
def cz153 : Con
  | [.agg [.v (.int .i64 v), .v (.bool f)]] => some ([], .agg [i64 (whV v), bo (whF v f)])
  | _ => none
theorem pl_sgn {g g' : Bool} {m m' : Int} : sgn (plG g m g' m') (plM g m g' m') = sgn g m + sgn g' m' := by
  unfold sgn plG plM
  cases g <;> cases g' <;> simp <;> (try split) <;> (try simp) <;> omega
theorem plM_nonneg {g g' : Bool} {m m' : Int} (h : 0 ≤ m) (h' : 0 ≤ m') : 0 ≤ plM g m g' m' := by
  unfold plM; split
  · omega
  · split <;> omega
theorem plM_le {g g' : Bool} {m m' : Int} (h : 0 ≤ m) (h' : 0 ≤ m') : plM g m g' m' ≤ m + m' := by
  unfold plM; split
  · omega
  · split <;> omega
theorem sgn_div {g : Bool} {m d : Int} (hm : 0 ≤ m) : sgn g (m / d) = (sgn g m).tdiv d := by
  have e : m / d = m.tdiv d := (Int.tdiv_eq_ediv_of_nonneg hm).symm
  unfold sgn
  cases g
  · simpa using e
  · simp only [if_true]
    rw [e, Int.neg_tdiv]
theorem sgn_mul_sgn {a b : Int} : sgn (decide (a < 0) != decide (b < 0)) (ab (a * b)) = a * b := by
  rw [ab_natAbs]
  rcases Int.lt_or_le a 0 with ha | ha <;> rcases Int.lt_or_le b 0 with hb | hb
  · have := Int.mul_pos_of_neg_of_neg ha hb
    unfold sgn; simp [ha, hb]; omega
  · have := Int.mul_nonpos_of_nonpos_of_nonneg (Int.le_of_lt ha) hb
    unfold sgn; rw [decide_eq_true ha, decide_eq_false (by omega)]; simp; omega
  · have := Int.mul_nonpos_of_nonneg_of_nonpos ha (Int.le_of_lt hb)
    unfold sgn; rw [decide_eq_true hb, decide_eq_false (by omega)]; simp; omega
  · have := Int.mul_nonneg ha hb
    unfold sgn; rw [decide_eq_false (by omega), decide_eq_false (by omega)]; simp; omega
end Go.Ax
end

section
/-
  Numbers: the program's arithmetic.
-/
set_option linter.unusedVariables false
set_option linter.unusedSimpArgs false
set_option maxHeartbeats 1000000
set_option maxRecDepth 100000
namespace Go.Ax
open Go.Proofs

/-! ### Truth values in cells -/
def gib (cs : List AV) (k : Nat) : Bool := match cs[k]? with
  | some (.v (.bool b)) => b
  | _ => false
theorem gib_1 {a : AV} {x : Bool} {l : List AV} : gib (a :: .v (.bool x) :: l) 1 = x := (rfl)
def gb (g : Nat → List AV) (k i : Nat) : Bool := gib (g i) k
theorem gb_eq {g : Nat → List AV} {k i : Nat} : gb g k i = gib (g i) k := (rfl)
attribute [go_sem] gb_eq gib_1
def anyB (G : Nat → Bool) : Nat → Bool
  | 0 => false
  | n + 1 => anyB G n || G n
theorem anyB_iff {G : Nat → Bool} : ∀ {n : Nat}, anyB G n = true ↔ ∃ i, i < n ∧ G i = true
  | 0 => by simp [anyB]
  | n + 1 => by
    unfold anyB
    rw [Bool.or_eq_true, anyB_iff]
    constructor
    · rintro (⟨i, h1, h2⟩ | h)
      · exact ⟨i, by omega, h2⟩
      · exact ⟨n, by omega, h⟩
    · rintro ⟨i, h1, h2⟩
      by_cases e : i = n
      · subst e; exact .inr h2
      · exact .inl ⟨i, by omega, h2⟩
def nums (n : Nat) (g : Nat → List AV) : Prop := ∀ i, i < n → g i = [i64 (gx g 0 i), bo (gb g 1 i)] ∧ inR (gx g 0 i)
/-- A number with the value x, if there is one. -/
abbrev nu (x : Int) (f : Bool) : AV := .agg [i64 (ftV x), bo (ftF x || f)]

def cz198 : Con
  | [.ro n 2 g] => some ([nums n g, n ≤ 1000], bo (anyB (gb g 1) n))
  | _ => none
theorem nums2 {a b : Int} {e f : Bool} {g : Nat → List AV} (h0 : g 0 = [i64 a, bo e]) (h1 : g 1 = [i64 b, bo f]) (ha : inR a) (hb : inR b) : nums 2 g := by
  intro i hi
  have : i = 0 ∨ i = 1 := by omega
  rcases this with rfl | rfl
  · simp only [gx, gb, h0, gi_0, gib_1]; exact ⟨trivial, ha⟩
  · simp only [gx, gb, h1, gi_0, gib_1]; exact ⟨trivial, hb⟩
theorem nums4 {a b c d : Int} {e f p q : Bool} {g : Nat → List AV} (h0 : g 0 = [i64 a, bo e]) (h1 : g 1 = [i64 b, bo f]) (h2 : g 2 = [i64 c, bo p]) (h3 : g 3 = [i64 d, bo q]) (ha : inR a) (hb : inR b) (hc : inR c) (hd : inR d) : nums 4 g := by
  intro i hi
  have : i = 0 ∨ i = 1 ∨ i = 2 ∨ i = 3 := by omega
  rcases this with rfl | rfl | rfl | rfl
  · simp only [gx, gb, h0, gi_0, gib_1]; exact ⟨trivial, ha⟩
  · simp only [gx, gb, h1, gi_0, gib_1]; exact ⟨trivial, hb⟩
  · simp only [gx, gb, h2, gi_0, gib_1]; exact ⟨trivial, hc⟩
  · simp only [gx, gb, h3, gi_0, gib_1]; exact ⟨trivial, hd⟩
theorem any2 {a b : Int} {e f : Bool} {g : Nat → List AV} (h0 : g 0 = [i64 a, bo e]) (h1 : g 1 = [i64 b, bo f]) : anyB (gb g 1) 2 = (e || f) := by
  simp only [anyB, gb, h0, h1, gib_1, Bool.false_or]
theorem any4 {a b c d : Int} {e f p q : Bool} {g : Nat → List AV} (h0 : g 0 = [i64 a, bo e]) (h1 : g 1 = [i64 b, bo f]) (h2 : g 2 = [i64 c, bo p]) (h3 : g 3 = [i64 d, bo q]) : anyB (gb g 1) 4 = (e || f || p || q) := by
  simp only [anyB, gb, h0, h1, h2, h3, gib_1, Bool.false_or]

/-! ### What comes of exact values -/
theorem inU_mod {x : Int} : inU (x % 18446744073709551616) := by unfold inU; omega
theorem inU_div {x : Int} (h : 0 ≤ x) (h2 : x < 340282366920938463463374607431768211456) : inU (x / 18446744073709551616) := by unfold inU; omega
theorem sgn_ab_div {g : Bool} {x d : Int} : sgn g (ab x / d) = (sgn g (ab x)).tdiv d := sgn_div (ab_nonneg x)
theorem sgn_pl_div {g : Bool} {e f : Bool} {x y d : Int} : sgn g (plM e (ab x) f (ab y) / d) = (sgn g (plM e (ab x) f (ab y))).tdiv d := sgn_div (plM_nonneg (ab_nonneg x) (ab_nonneg y))
theorem ab_le {x k : Int} (h : -k ≤ x) (h2 : x ≤ k) : ab x ≤ k := by unfold ab; split <;> omega
theorem mul_rg {a b : Int} (ha : inR a) (hb : inR b) : ab (a * b) ≤ 85070591730234615865843651857942052864 := by
  unfold inR at ha hb
  have em : ab (a * b) = ab a * ab b := by rw [ab_natAbs, ab_natAbs, ab_natAbs, Int.natAbs_mul, Int.natCast_mul]
  rw [em]
  have h1 : ab a ≤ 9223372036854775808 := ab_le (by omega) (by omega)
  have h2 : ab b ≤ 9223372036854775808 := ab_le (by omega) (by omega)
  exact Int.le_trans (Int.mul_le_mul h1 h2 (ab_nonneg b) (by omega)) (by omega)
theorem inR_wh {v : Int} (h : inR v) : inR (whV v) := rg_inR (whV_rg h)
theorem rows2 {a b c d : AV} : rowsOf 2 [a, b, c, d] 0 = [a, b] ∧ rowsOf 2 [a, b, c, d] 1 = [c, d] := ⟨rfl, rfl⟩

def c62 : Con
  | [.v (.int .i64 v)] => some ([], bo false)
  | _ => none
theorem con62 : ConOK Try.prog 62 c62 := ConOK.of (G := []) (H := []) .nil Try.func62 fun l ob r hc hob => by
  unfold c62 at hc
  split at hc
  · rename_i v
    cases hc
    refine ⟨by kernel_rfl, fnVC_go (rs := [.tmp 2]) rfl rfl ?_⟩
    simp only [go_sem]
    exact bne_self
  · cases hc
def c36 : Con
  | [.v (.int .i64 x), .v (.int .i64 y)] => some ([], i64 (cmpS x y))
  | _ => none
theorem con36 : ConOK Try.prog 36 c36 := ConOK.of (G := [(62, c62)]) (H := []) (.cons con62 .nil) Try.func36 fun l ob r hc hob => by
  unfold c36 at hc
  split at hc
  · rename_i x y
    cases hc
    refine ⟨by kernel_rfl, fnVC_go (rs := [.tmp 4]) rfl rfl ?_⟩
    simp only [go_sem, c62]
    intro z hz z1 hz1
    subst hz hz1
    unfold cmpS
    refine ⟨fun h => (by cases h), fun _ => ⟨fun h => (by cases h), fun _ => ⟨fun h => by rw [if_pos h], fun h => ⟨fun h2 => by rw [if_neg h, if_pos h2], fun h2 => by rw [if_neg h, if_neg h2]⟩⟩⟩⟩
  · cases hc
def cz127 : Con
  | [.v (.int .i64 n)] => some ([inR n], nu (n * 4294967296) false)
  | _ => none
def cz179 : Con
  | [.agg [.v (.int .i64 v), .v (.bool f)]] => some ([inR v], .agg [i64 (-whV v), bo (whF v f)])
  | _ => none
def cz126 : Con
  | [.agg [.v (.int .i64 v), .v (.bool f)]] => some ([inR v], .agg [i64 (ab (whV v)), bo (whF v f)])
  | _ => none
def cz129 : Con
  | [.agg [.v (.int .i64 v), .v (.bool f)], .agg [.v (.int .i64 u), .v (.bool e)]] => some ([inR v, inR u], nu ((whV v * whV u).tdiv 4294967296) (whF v f || whF u e))
  | _ => none
def cz125 : Con
  | [.agg [.v (.int .i64 v), .v (.bool f)], .agg [.v (.int .i64 u), .v (.bool e)], .agg [.v (.int .i64 x), .v (.bool p)], .agg [.v (.int .i64 y), .v (.bool q)]] => some ([inR v, inR u, inR x, inR y], nu ((whV v * whV u + whV x * whV y).tdiv 4294967296) (whF v f || whF u e || whF x p || whF y q))
  | _ => none
def cz88 : Con
  | [.agg [.v (.int .i64 v), .v (.bool f)], .agg [.v (.int .i64 u), .v (.bool e)]] => some ([], i64 (cmpS (whV v) (whV u)))
  | _ => none
def cz128 : Con
  | [.agg [.v (.int .i64 v), .v (.bool f)]] => some ([inR v], i64 ((whV v + 2147483648) / 4294967296))
  | _ => none
def cz211 : Con
  | [.v (.int .i64 a), .v (.int .i64 b), .v (.int .i64 c), .v (.int .i64 d)] => some ([inR a, inR b, inR c, inR d], i64 (cmpS (a * b) (c * d)))
  | _ => none
/-- The first i values. -/
def uptN (i : Nat) (Z : Nat → Int) (j : Nat) : Int := if j < i then Z j else 0
theorem uptN_zero {Z : Nat → Int} {j : Nat} : uptN 0 Z j = 0 := by unfold uptN; rw [if_neg (by omega)]
theorem uptN_self {i : Nat} {Z : Nat → Int} : uptN (i + 1) Z i = Z i := by unfold uptN; rw [if_pos (by omega)]
theorem uptN_lt {i j : Nat} {Z : Nat → Int} (h : j < i) : uptN i Z j = Z j := by unfold uptN; rw [if_pos h]
theorem uptN_ne {i j : Nat} {Z : Nat → Int} (h : j ≠ i) : uptN (i + 1) Z j = uptN i Z j := by
  unfold uptN
  by_cases e : j < i
  · rw [if_pos e, if_pos (by omega)]
  · rw [if_neg e, if_neg (by omega)]
/-- The values of numbers, and whether one is flagged. -/
def wvS (g : Nat → List AV) (i : Nat) : Int := whV (gx g 0 i)
def wfS (n : Nat) (g : Nat → List AV) : Bool := anyB (fun i => whF (gx g 0 i) (gb g 1 i)) n
def cz222 : Con
  | [.ro n 2 g] => some ([nums n g, n ≤ 1000], .tup [.ro n 1 fun i => [i64 (uptN n (wvS g) i)], bo (wfS n g)])
  | _ => none
/-- A sum. -/
def suS (X : Nat → Int) : Nat → Int
  | 0 => 0
  | n + 1 => suS X n + X n
theorem suS_le {X : Nat → Int} {n : Nat} (h : ∀ i, i < n → rg (X i)) : ∀ i, i ≤ n → -(9223372036854775807 * i) ≤ suS X i ∧ suS X i ≤ 9223372036854775807 * i
  | 0, _ => by simp [suS]
  | i + 1, hi => by
    have := suS_le h i (by omega)
    have := h i (by omega)
    unfold rg at this
    unfold suS
    omega
theorem suS_upto {X : Nat → Int} {n : Nat} : ∀ i, i ≤ n → suS (uptN n X) i = suS X i
  | 0, _ => rfl
  | i + 1, h => by unfold suS; rw [suS_upto i (by omega), uptN_lt (by omega)]
/-- What is summed up. -/
def smG (X : Nat → Int) : Nat → Bool × Int
  | 0 => (false, 0)
  | i + 1 => (plG (smG X i).1 (smG X i).2 (decide (X i < 0)) (ab (X i)), plM (smG X i).1 (smG X i).2 (decide (X i < 0)) (ab (X i)))
theorem smG_ok {X : Nat → Int} : ∀ i, sgn (smG X i).1 (smG X i).2 = suS X i ∧ 0 ≤ (smG X i).2
  | 0 => ⟨rfl, Int.le_refl 0⟩
  | i + 1 => by
    obtain ⟨h1, h2⟩ := smG_ok (X := X) i
    unfold smG suS
    exact ⟨by rw [pl_sgn, h1, sgn_ab], plM_nonneg h2 (ab_nonneg _)⟩
theorem smG_le {X : Nat → Int} {n : Nat} (h : ∀ i, i < n → rg (X i)) : ∀ i, i ≤ n → (smG X i).2 ≤ 9223372036854775807 * i
  | 0, _ => by simp [smG]
  | i + 1, hi => by
    have h0 := smG_le h i (by omega)
    have h1 := h i (by omega)
    unfold rg at h1
    have h2 : ab (X i) ≤ 9223372036854775807 := ab_le (by omega) (by omega)
    have h3 := plM_le (g := (smG X i).1) (g' := decide (X i < 0)) (smG_ok (X := X) i).2 (ab_nonneg (X i))
    unfold smG
    dsimp only
    omega
def cz201 : Con
  | [.ro n 2 g] => some ([nums n g, n ≤ 1000], nu (suS (wvS g) n) (wfS n g))
  | _ => none
theorem sum2 {a b : Int} {e f : Bool} {g : Nat → List AV} (h0 : g 0 = [i64 a, bo e]) (h1 : g 1 = [i64 b, bo f]) : suS (wvS g) 2 = whV a + whV b ∧ wfS 2 g = (whF a e || whF b f) := by
  simp only [suS, wvS, wfS, anyB, gx, gb, h0, h1, gi_0, gib_1, Bool.false_or, Int.zero_add, and_self]
def cz160 : Con
  | [.agg [.v (.int .i64 v), .v (.bool f)], .agg [.v (.int .i64 u), .v (.bool e)]] => some ([inR v, inR u], nu (whV v - whV u) (whF v f || whF u e))
  | _ => none
/-- The least of some values and one more (o = 1), or the greatest. -/
def exS (o f : Int) (X : Nat → Int) : Nat → Int
  | 0 => f
  | i + 1 => if (o = 1 ∧ X i < exS o f X i) ∨ (o = -1 ∧ exS o f X i < X i) then X i else exS o f X i
def cz229 : Con
  | [.v (.int .i64 o), .v (.int .i64 f), .ro n 1 g] => some ([o = 1 ∨ o = -1, ∀ i, i < n → g i = [i64 (gx g 0 i)], n ≤ 1000], i64 (exS o f (gx g 0) n))
  | _ => none
theorem exS_congr {o f : Int} {X Y : Nat → Int} : ∀ {n : Nat}, (∀ i, i < n → X i = Y i) → exS o f X n = exS o f Y n
  | 0, _ => rfl
  | n + 1, h => by unfold exS; rw [exS_congr (n := n) fun i hi => h i (by omega), h n (by omega)]
def msS (o : Int) (X : Nat → Int) (n : Nat) : Int := exS o (X 0) (fun i => X (i + 1)) (n - 1)
def moV (o : Int) (n : Nat) (g : Nat → List AV) : Int := if n = 0 then 0 else msS o (wvS g) n
abbrev moS (o : Int) (n : Nat) (g : Nat → List AV) : AV := .agg [i64 (moV o n g), bo (wfS n g)]
def cz224 : Con
  | [.v (.int .i64 o), .ro n 2 g] => some ([o = 1 ∨ o = -1, nums n g, n ≤ 1000], moS o n g)
  | _ => none
def cz212 : Con
  | [.ro n 2 g] => some ([nums n g, n ≤ 1000], moS 1 n g)
  | _ => none
def cz214 : Con
  | [.ro n 2 g] => some ([nums n g, n ≤ 1000], moS (-1) n g)
  | _ => none
theorem mo2 {o a b : Int} {g : Nat → List AV} {e f : Bool} (h0 : g 0 = [i64 a, bo e]) (h1 : g 1 = [i64 b, bo f]) : moV o 2 g = if (o = 1 ∧ whV b < whV a) ∨ (o = -1 ∧ whV a < whV b) then whV b else whV a := by
  show msS o (wvS g) 2 = _
  simp only [msS, exS, wvS, gx, h0, h1, gi_0]
def cz171 : Con
  | [.agg [.v (.int .i64 x), .v (.bool f)], .agg [.v (.int .i64 l), .v (.bool p)], .agg [.v (.int .i64 h), .v (.bool q)]] => some ([inR x, inR l, inR h], .agg [i64 (max (whV l) (min (whV x) (whV h))), bo (whF l p || (whF x f || whF h q))])
  | _ => none
end Go.Ax
end

section
/-
  The closures of the sweep's queries.
-/
set_option linter.unusedVariables false
set_option linter.unusedSimpArgs false
set_option maxHeartbeats 4000000
set_option maxRecDepth 100000
namespace Go.Ax
open Go.Proofs
def c63 : Con
  | [.v (.int .i64 v)] => some ([], bo false)
  | _ => none
theorem con63 : ConOK Try.prog 63 c63 := ConOK.of (G := []) (H := []) .nil Try.func63 fun l ob r hc hob => by
  unfold c63 at hc
  split at hc
  · rename_i v
    cases hc
    refine ⟨by kernel_rfl, fnVC_go (rs := [.tmp 2]) rfl rfl ?_⟩
    simp only [go_sem]
    exact bne_self
  · cases hc
def c37 : Con
  | [.v (.int .i64 x), .v (.int .i64 y)] => some ([], i64 (cmpS x y))
  | _ => none
theorem con37 : ConOK Try.prog 37 c37 := ConOK.of (G := [(63, c63)]) (H := []) (.cons con63 .nil) Try.func37 fun l ob r hc hob => by
  unfold c37 at hc
  split at hc
  · rename_i x y
    cases hc
    refine ⟨by kernel_rfl, fnVC_go (rs := [.tmp 4]) rfl rfl ?_⟩
    simp only [go_sem, c63]
    intro z hz z1 hz1
    subst hz hz1
    unfold cmpS
    refine ⟨fun h => (by cases h), fun _ => ⟨fun h => (by cases h), fun _ => ⟨fun h => by rw [if_pos h], fun h => ⟨fun h2 => by rw [if_neg h, if_pos h2], fun h2 => by rw [if_neg h, if_neg h2]⟩⟩⟩⟩
  · cases hc
theorem or2 {z z1 : Int} : orS (gx (rowsOf 1 [i64 z, i64 z1]) 0) 0 2 = if z ≠ 0 then z else z1 := by
  show (if z ≠ 0 then z else if z1 ≠ 0 then z1 else 0) = _
  split
  · rfl
  · split
    · rfl
    · omega
theorem or2_ok {z z1 : Int} : ∀ i, i < 2 → List.take 1 (List.drop (i * 1) [i64 z, i64 z1]) = [i64 (gi (List.take 1 (List.drop (i * 1) [i64 z, i64 z1])) 0)]
  | 0, _ => rfl
  | 1, _ => rfl
  | i + 2, h => by omega
/-- The boxes of a map are made of numbers of the machine. -/
def selIn (L : Ents) : Prop := ∀ k j, inR (selAt (memSel L k) j)
def c39 : Con
  | [.v (.int .i64 k), .rop [.rop [.rm 4 L]], .rop (.v (.int .i64 a) :: l)] => some ([], bo (decide (selAt (memSel L k) 2 < a)))
  | _ => none
theorem con39 : ConOK Try.prog 39 c39 := ConOK.of (G := []) (H := []) .nil Try.func39 fun l ob rr hc hob => by
  unfold c39 at hc
  split at hc
  · rename_i k L a l
    cases hc
    refine ⟨by kernel_rfl, fnVC_go (rs := [.tmp 4]) rfl rfl ?_⟩
    simp only [go_sem]
    skip
  · cases hc
def c34 : Con
  | [.v (.int .i64 a), .v (.int .i64 b), .rop [.rop [.rm 4 L]]] => some ([], i64 (if cmpS (selAt (memSel L a) 0) (selAt (memSel L b) 0) ≠ 0 then cmpS (selAt (memSel L a) 0) (selAt (memSel L b) 0) else cmpS a b))
  | _ => none
theorem con34 : ConOK Try.prog 34 c34 := ConOK.of (G := [(36, c36), (37, c37), (35, c35)]) (H := []) (.cons con36 (.cons con37 (.cons con35 .nil))) Try.func34 fun l ob rr hc hob => by
  unfold c34 at hc
  split at hc
  · rename_i a b L
    cases hc
    refine ⟨by kernel_rfl, fnVC_go (rs := [.tmp 5]) rfl rfl ?_⟩
    simp only [go_sem, c36, c37, c35]
    rintro z rfl z1 rfl z2 rfl
    exact ⟨or2_ok, or2⟩
  · cases hc
def c42 : Con
  | [.agg [.v (.int .i64 a), .v (.int .i64 b)], .agg [.v (.int .i64 c), .v (.int .i64 d)]] => some ([], i64 (if cmpS a c ≠ 0 then cmpS a c else cmpS b d))
  | _ => none
theorem con42 : ConOK Try.prog 42 c42 := ConOK.of (G := [(37, c37), (35, c35)]) (H := []) (.cons con37 (.cons con35 .nil)) Try.func42 fun l ob rr hc hob => by
  unfold c42 at hc
  split at hc
  · rename_i a b c d
    cases hc
    refine ⟨by kernel_rfl, fnVC_go (rs := [.tmp 4]) rfl rfl ?_⟩
    simp only [go_sem, c37, c35]
    rintro z rfl z1 rfl z2 rfl
    exact ⟨or2_ok, or2⟩
  · cases hc
def c47 : Con
  | [.agg [.v (.int .i64 x), .v (.int .i64 y), .v (.int .i64 z), .v (.int .i64 t)], .rop [.v (.int .i64 a), .v (.int .i64 b), .v (.int .i64 c), .v (.int .i64 d)]] => some ([inR x, inR y, inR z, inR t, inR a, inR b, inR c, inR d], bo (meetsS x y z t a b c d))
  | _ => none
theorem con47 : ConOK Try.prog 47 c47 := ConOK.of (G := [(40, c40)]) (H := []) (.cons con40 .nil) Try.func47 fun l ob rr hc hob => by
  unfold c47 at hc
  split at hc
  · rename_i x y z t a b c d
    cases hc
    have h_0 : inR x := hob _ (by simp)
    have h_1 : inR y := hob _ (by simp)
    have h_2 : inR z := hob _ (by simp)
    have h_3 : inR t := hob _ (by simp)
    have h_4 : inR a := hob _ (by simp)
    have h_5 : inR b := hob _ (by simp)
    have h_6 : inR c := hob _ (by simp)
    have h_7 : inR d := hob _ (by simp)
    refine ⟨by kernel_rfl, fnVC_go (rs := [.tmp 3]) rfl rfl ?_⟩
    simp only [go_sem, c40, h_0, h_1, h_2, h_3, h_4, h_5, h_6, h_7]
    exact fun _ => trivial
  · cases hc
def c66 : Con
  | [.v (.int .i64 k), .rop [.fn 47 [.rop [.v (.int .i64 a), .v (.int .i64 b), .v (.int .i64 c), .v (.int .i64 d)]]], .rop [.rop [.rm 4 L]]] => some ([selIn L, inR a, inR b, inR c, inR d], bo (!meetsS (selAt (memSel L k) 0) (selAt (memSel L k) 1) (selAt (memSel L k) 2) (selAt (memSel L k) 3) a b c d))
  | _ => none
theorem con66 : ConOK Try.prog 66 c66 := ConOK.of (G := [(47, c47)]) (H := []) (.cons con47 .nil) Try.func66 fun l ob rr hc hob => by
  unfold c66 at hc
  split at hc
  · rename_i k a b c d L
    cases hc
    have h_0 : selIn L := hob _ (by simp)
    have h_1 : inR a := hob _ (by simp)
    have h_2 : inR b := hob _ (by simp)
    have h_3 : inR c := hob _ (by simp)
    have h_4 : inR d := hob _ (by simp)
    refine ⟨by kernel_rfl, fnVC_go (rs := [.tmp 4]) rfl rfl ?_⟩
    simp only [go_sem, c47, h_0, h_1, h_2, h_3, h_4, h_0 k 0, h_0 k 1, h_0 k 2, h_0 k 3]
    rintro z rfl
    rfl
  · cases hc
end Go.Ax
end

section
/-
  Functions that write a slice of one's own; all else that they are handed they see ars memory to read.
-/
set_option linter.unusedSimpArgs false
set_option linter.unusedVariables false
namespace Go.Ax
/-- Nothing in it lies in memory that is only read. -/
def nro : Nat → AV → Prop
  | _, .v _ => True
  | _, .any => True
  | _, .bx _ _ => True
  | _, .ptr _ _ _ _ _ => True
  | _, .own _ _ _ _ => True
  | _, .mp _ _ => True
  | d + 1, .agg cs => ∀ c ∈ cs, nro d c
  | d + 1, .tup cs => ∀ c ∈ cs, nro d c
  | _, _ => False
def famNro (y : Fam) : Prop := ∀ f, ∀ j, j < (y f).n → ∀ c ∈ (y f).get j, nro 1 c
def Env.im (ρ : Env) (J : Nat → Prop) : Env := { ρ with imm := J }
theorem R.nro {w : World} {ρ : Env} {J : Nat → Prop} : ∀ (d : Nat) {a : AV} {x : Value}, nro d a → R w ρ a x → R w (ρ.im J) a x
  | d, .v y, x, _, h => by cases h; exact .v
  | d, .any, x, _, h => .any
  | d, .bx r k, x, _, h => by cases h with | bx hd => exact .bx (ρ := ρ.im J) hd
  | d, .ptr r f i sz k, x, _, h => by cases h with | ptr hd => exact .ptr (ρ := ρ.im J) hd
  | d, .own r f n sz, x, _, h => by cases h with | own hd hn ha => exact .own (ρ := ρ.im J) hd hn ha
  | d, .mp r f, x, _, h => by cases h with | mp hd hc => exact .mp (ρ := ρ.im J) hd hc
  | d + 1, .agg cs, x, hk, h => by
    cases h with | agg hl hh => exact .agg hl fun i a y h1 h2 => R.nro d (hk a (List.mem_of_getElem? h1)) (hh i a y h1 h2)
  | d + 1, .tup cs, x, hk, h => by
    cases h with | tup hl hh => exact .tup hl fun i a y h1 h2 => R.nro d (hk a (List.mem_of_getElem? h1)) (hh i a y h1 h2)
  | 0, .agg _, _, hk, _ => hk.elim
  | 0, .tup _, _, hk, _ => hk.elim
  | 0, .ro _ _ _, _, hk, _ => hk.elim
  | 0, .rop _, _, hk, _ => hk.elim
  | 0, .vw _ _ _ _ _, _, hk, _ => hk.elim
  | 0, .fn _ _, _, hk, _ => hk.elim
  | 0, .iface _ _, _, hk, _ => hk.elim
  | 0, .cond _ _, _, hk, _ => hk.elim
  | 0, .rm _ _, _, hk, _ => hk.elim
  | d + 1, .ro _ _ _, _, hk, _ => hk.elim
  | d + 1, .rop _, _, hk, _ => hk.elim
  | d + 1, .vw _ _ _ _ _, _, hk, _ => hk.elim
  | d + 1, .fn _ _, _, hk, _ => hk.elim
  | d + 1, .iface _ _, _, hk, _ => hk.elim
  | d + 1, .cond _ _, _, hk, _ => hk.elim
  | d + 1, .rm _ _, _, hk, _ => hk.elim
/-- What such a function may lean on: all rows but the one. -/
def vwR (ρ : Env) (m : Mem) (r : Nat) (b : Nat) : Prop := ρ.imm b ∨ ∃ q x f, q ≠ r ∧ look m q = some x ∧ (x f).g ≠ some false ∧ 0 < ρ.cap q f ∧ b = ρ.blk q f
theorem viewR_le {ρ : Env} {m : Mem} {r : Nat} : ρ.le (ρ.im (vwR ρ m r)) := ⟨fun _ h => h, fun _ _ _ => rfl, fun _ _ _ => rfl, fun b hb => .inl hb⟩
section
variable {w0 : Base} {w w' : World} {ρ : Env} {m : Mem} {D : Nat → Prop} {key r : Nat} {x : Fam}
theorem viewR_rel (hR : Rel w0 ρ m D w) (hl : look m r = some x) : Rel w0 (ρ.im (vwR ρ m r)) [(r, x)] D w := by
  have lk : ∀ q y, look [(r, x)] q = some y → q = r ∧ y = x := fun q y hy => by
    simp only [look] at hy
    split at hy
    · rename_i e; cases hy; exact ⟨e.symm, rfl⟩
    · cases hy
  refine ⟨hR.below, fun b hb => ?_, hR.dom, fun q y hy => ?_, fun q y f hy hg => ?_, fun q y f q' y' f' hy hy' hg hg' hc hc' e => ?_, fun p hp => ?_, fun p hp => ⟨.inl (hR.kept p hp).1, (hR.kept p hp).2⟩⟩
  · have hb : vwR ρ m r b := hb
    rcases hb with hb | ⟨q, y, f, hq, h1, h2, h3, hbe⟩
    · exact hR.imm2 b hb
    · rw [hbe]; exact ⟨hR.lt h1 h2 h3, .inr ((hR.row q y f h1 h2).2.blk h3).1⟩
  · obtain ⟨rfl, rfl⟩ := lk q y hy
    exact hR.key _ _ hl
  · obtain ⟨rfl, rfl⟩ := lk q y hy
    obtain ⟨h1, h2⟩ := hR.row _ _ f hl hg
    refine ⟨h1, h2.n_le, fun hc => ?_, h2.len, fun i k c v hi h3 h4 => (h2.rel i k c v hi h3 h4).mono viewR_le (fun _ _ => rfl)⟩
    obtain ⟨b1, b2, o, b3, b4⟩ := h2.blk hc
    refine ⟨b1, fun hb => ?_, o, b3, b4⟩
    have hb : vwR ρ m q (ρ.blk q f) := hb
    rcases hb with hb | ⟨q', y', f', hq, h3, h4, h5, hbe⟩
    · exact b2 hb
    · exact hq (hR.sep q y f q' y' f' hl h3 hg h4 hc h5 hbe).1.symm
  · obtain ⟨rfl, rfl⟩ := lk q y hy
    obtain ⟨rfl, rfl⟩ := lk q' y' hy'
    exact hR.sep _ _ f _ _ f' hl hl hg hg' hc hc' e
  · obtain ⟨p1, p2, p3, p4⟩ := hR.fix p hp
    refine ⟨p1, fun q y f hy hg hc => ?_, fun hb => ?_, p4⟩
    · obtain ⟨rfl, rfl⟩ := lk q y hy
      exact p2 _ _ f hl hg hc
    · have hb : vwR ρ m r p.1 := hb
      rcases hb with hb | ⟨q, y, f, _, h1, h2, h3, e⟩
      · exact p3 hb
      · exact p2 q y f h1 h2 h3 e.symm
theorem viewR_post {v : AV} {y : Fam} {ob ob' : List Prop} {val : Value} (hR : Rel w0 ρ m D w) (hl : look m r = some x) (hk : ¬ D key) (hnv : nro 3 v) (hny : famNro y)
    (hp : Post w0 (ρ.im (vwR ρ m r)) [(r, x)] D key ⟨ob, v, .many [(r, y)] none⟩ w val w') : Post w0 ρ m D key ⟨ob', v, .many [(r, y)] none⟩ w val w' := by
  obtain ⟨ρ3, r1, r2, r3, r4⟩ := hp
  have hlt : ∀ q z f, look m q = some z → (z f).g ≠ some false → 0 < ρ.cap q f → q ≠ r → vwR ρ m r (ρ.blk q f) := fun q z f h1 h2 h3 hq => .inr ⟨q, z, f, hq, h1, h2, h3, rfl⟩
  have hle : ρ.le (ρ3.im ρ.imm) := ⟨fun q hq => r3.dom q hq, fun q f hq => r3.blk q f hq, fun q f hq => r3.cap q f hq, fun b hb => hb⟩
  have hsame : Same ρ.imm w w' := fun b hb => r4 b (.inl hb)
  have j3 : ∀ b, vwR ρ m r b → ρ3.imm b := fun b hb => r3.imm b hb
  have hlook : ∀ q z, look (Upd.app key m (.many [(r, y)] none)) q = some z → (q = r ∧ z = y) ∨ (q ≠ r ∧ look m q = some z) := fun q z hz => by
    have hz : look (setRow r y m) q = some z := hz
    rw [look_set, hl] at hz
    by_cases e : r = q
    · subst e; simp at hz; exact .inl ⟨rfl, hz.symm⟩
    · simp [e] at hz; exact .inr ⟨Ne.symm e, hz⟩
  have hl3 : look (Upd.app key [(r, x)] (.many [(r, y)] none)) r = some y := by
    show look (setRow r y [(r, x)]) r = some y
    simp [setRow, look]
  refine ⟨ρ3.im ρ.imm, r1.nro 3 hnv, ⟨r2.below, fun b hb => ?_, fun q hq => r2.dom q hq, fun q z hz => ?_, fun q z f hz hg => ?_, fun q z f q' z' f' hz hz' hg hg' hc hc' e => ?_, fun p hp => ?_, fun p hp => ?_⟩, hle, hsame⟩
  · exact ⟨(r2.imm2 b (j3 b (.inl hb))).1, (hR.imm2 b hb).2⟩
  · rcases hlook q z hz with ⟨rfl, _⟩ | ⟨_, h⟩
    · exact .inl (hR.key _ _ hl)
    · exact .inl (hR.key _ _ h)
  · rcases hlook q z hz with ⟨e, rfl⟩ | ⟨hne, h⟩
    · subst e
      obtain ⟨q1, q2⟩ := r2.row _ _ f hl3 hg
      refine ⟨q1, q2.n_le, fun hc => ?_, q2.len, fun i k c v h1 h2 h3 => (q2.rel i k c v h1 h2 h3).nro 1 (hny f i h1 c (List.mem_of_getElem? h2))⟩
      obtain ⟨b1, b2, o, b3, b4⟩ := q2.blk hc
      exact ⟨b1, fun hb => b2 (j3 _ (.inl hb)), o, b3, b4⟩
    · obtain ⟨hd, q2⟩ := hR.row q z f h hg
      exact ⟨hle.dom q hd, q2.mono hd hle (fun b _ hb => hb) hsame (fun hc => r4 _ (hlt q z f h hg hc hne))⟩
  · have cq : ∀ q z f, look m q = some z → (z f).g ≠ some false → 0 < (ρ3.im ρ.imm).cap q f → 0 < ρ.cap q f ∧ (ρ3.im ρ.imm).blk q f = ρ.blk q f := fun q z f h1 h2 h3 => by
      have hd := (hR.row q z f h1 h2).1
      have e1 : ρ3.cap q f = ρ.cap q f := r3.cap q f hd
      have e2 : ρ3.blk q f = ρ.blk q f := r3.blk q f hd
      exact ⟨by have h3 : 0 < ρ3.cap q f := h3; omega, e2⟩
    rcases hlook q z hz with ⟨e1, e1'⟩ | ⟨hne, h1⟩ <;> rcases hlook q' z' hz' with ⟨e2, e2'⟩ | ⟨hne', h1'⟩
    · subst e1; subst e2; subst e1'; subst e2'
      exact r2.sep _ _ f _ _ f' hl3 hl3 hg hg' hc hc' e
    · exfalso
      subst e1; subst e1'
      obtain ⟨c1, c2⟩ := cq q' z' f' h1' hg' hc'
      refine r2.not_imm hl3 hg hc ?_
      have e : ρ3.blk q f = (ρ3.im ρ.imm).blk q' f' := e
      rw [e, c2]
      exact j3 _ (hlt q' z' f' h1' hg' c1 hne')
    · exfalso
      subst e2; subst e2'
      obtain ⟨c1, c2⟩ := cq q z f h1 hg hc
      refine r2.not_imm hl3 hg' hc' ?_
      have e : (ρ3.im ρ.imm).blk q f = ρ3.blk q' f' := e
      rw [← e, c2]
      exact j3 _ (hlt q z f h1 hg c1 hne)
    · obtain ⟨c1, c2⟩ := cq q z f h1 hg hc
      obtain ⟨c1', c2'⟩ := cq q' z' f' h1' hg' hc'
      rw [c2, c2'] at e
      exact hR.sep q z f q' z' f' h1 h1' hg hg' c1 c1' e
  · obtain ⟨p1, p2, p3, p4⟩ := hR.fix p hp
    obtain ⟨q1, q2, q3, q4⟩ := r2.fix p hp
    refine ⟨p1, fun q z f hz hg hc e => ?_, p3, q4⟩
    rcases hlook q z hz with ⟨e1, e1'⟩ | ⟨hne, h1⟩
    · subst e1; subst e1'
      exact q2 _ _ f hl3 hg hc e
    · have hd := (hR.row q z f h1 hg).1
      have e2 : ρ3.blk q f = ρ.blk q f := r3.blk q f hd
      have e1 : ρ3.cap q f = ρ.cap q f := r3.cap q f hd
      exact p2 q z f h1 hg (by have hc : 0 < ρ3.cap q f := hc; omega) (by rw [← e2]; exact e)
  · exact ⟨(hR.kept p hp).1, (r2.kept p hp).2⟩
end
/-- The other rows. -/
def rmR (r : Nat) : Mem → Mem
  | [] => []
  | (k, y) :: l => if k = r then rmR r l else (k, y) :: rmR r l
theorem look_rmR {r q : Nat} {z : Fam} : ∀ {m : Mem}, look (rmR r m) q = some z → q ≠ r ∧ look m q = some z
  | [], h => by simp [rmR, look] at h
  | (k, y) :: l, h => by
    simp only [rmR] at h
    split at h
    · rename_i e
      obtain ⟨h1, h2⟩ := look_rmR h
      refine ⟨h1, ?_⟩
      simp only [look]
      rw [if_neg (by rw [e]; exact Ne.symm h1)]
      exact h2
    · rename_i e
      simp only [look] at h ⊢
      split at h
      · rename_i e2
        cases h
        exact ⟨fun e3 => e (e2.trans e3), if_pos e2⟩
      · rename_i e2
        obtain ⟨h1, h2⟩ := look_rmR h
        exact ⟨h1, by rw [if_neg e2]; exact h2⟩
abbrev SRF := Nat → (Nat → List AV) → List AV → Option (List Prop × (Nat → AV) × Nat × (Nat → List AV))
def mcSRf (sz : Nat) (ty : TypeId) (r : Nat) (ps : List Prop) : Option (List Prop × (Nat → AV) × Nat × (Nat → List AV)) → Option Eff
  | some (ob, v, N', get') => some ⟨ps ++ nro 3 (v r) :: famNro (famN N' sz ty get' none) :: ob, v r, .many [(r, famN N' sz ty get' none)] none⟩
  | none => none
def mcSRe (sz : Nat) (ty : TypeId) (can : (Nat → List AV) → Nat → List AV) (F : SRF) (r N : Nat) (ps : List Prop) (rest : List AV) : Option Fam → Option Eff
  | some fam => mcSRf sz ty r (ps ++ [fam = famN N sz ty (fam 0).get none, ∀ i, i < N → (fam 0).get i = can (fam 0).get i]) (F N (can (fam 0).get) rest)
  | none => none
noncomputable def mcSR (sz : Nat) (ty : TypeId) (can : (Nat → List AV) → Nat → List AV) (F : SRF) : MCon := fun key m es => match es with
  | .own r 0 N s :: rest => if s = sz then mcSRe sz ty can F r N (rest.flatMap (pgs 3 (rmR r m))) (rest.map (purU 3 (rmR r m))) (look m r) else none
  | _ => none
/-- What the function does to such a slice. -/
def SRSem (P : Program) (f : FuncId) (sz : Nat) (ty : TypeId) (can : (Nat → List AV) → Nat → List AV) (F : SRF) : Prop :=
  ∀ N get rest ob v N' get', F N (can get) rest = some (ob, v, N', get') → (∀ p ∈ ob, p) → ∀ (w0 : Base) (ρ : Env) (D : Nat → Prop) (w : World) (key r : Nat) (vs : List Value), Rel w0 ρ [(r, famN N sz ty (can get) none)] D w → ¬ D key → D r → Rs w ρ [.own r 0 N sz] [vs.headD default] → Rs w (.ext ρ.imm) rest vs.tail → vs.length = rest.length + 1 →
    Invokes P f vs w fun val w' => Post w0 ρ [(r, famN N sz ty (can get) none)] D key ⟨ob, v r, .many [(r, famN N' sz ty get' none)] none⟩ w val w'
theorem MConOK.mcSR {P : Program} {f : FuncId} {sz : Nat} {ty : TypeId} {can : (Nat → List AV) → Nat → List AV} {F : SRF} (h : SRSem P f sz ty can F) : MConOK P f (Ax.mcSR sz ty can F) := by
  intro w0 ρ m m' D w key aas vs e hR hk hm hRs hc hob _
  unfold Ax.mcSR at hc
  split at hc
  · rename_i r N s rest
    split at hc
    · rename_i hsz
      subst hsz
      unfold mcSRe at hc
      split at hc
      · rename_i fam hl0
        unfold mcSRf at hc
        split at hc
        · rename_i ob v N' get' hF
          cases hc
          have hl := hm _ _ hl0
          have hfam : fam = famN N s ty (fam 0).get none := hob _ (by simp)
          have hcan : ∀ i, i < N → (fam 0).get i = can (fam 0).get i := hob _ (by simp)
          have hnv : nro 3 (v r) := hob _ (by simp)
          have hny : famNro (famN N' s ty get' none) := hob _ (by simp)
          have hobr : ∀ p ∈ ob, p := fun p hp => hob p (by simp [hp])
          have hrel := viewR_rel hR hl
          have hrel2 : Rel w0 (ρ.im (vwR ρ m r)) [(r, famN N s ty (can (fam 0).get) none)] D w := by
            have h1 : Rel w0 (ρ.im (vwR ρ m r)) (setRow r fam [(r, fam)]) D w := by
              have e : setRow r fam [(r, fam)] = [(r, fam)] := by simp [setRow]
              rw [e]; exact hrel
            have h2 := h1.alike (y := famN N s ty (can (fam 0).get) none) (fun f => by
              rw [hfam]
              by_cases hf : f = 0
              · subst hf
                refine ⟨rfl, rfl, rfl, rfl, fun i hi => ?_⟩
                have hi : i < N := hi
                exact (hcan i hi).symm
              · simp [famN, hf])
            have e : setRow r (famN N s ty (can (fam 0).get) none) [(r, fam)] = [(r, famN N s ty (can (fam 0).get) none)] := by simp [setRow]
            rw [e] at h2
            exact h2
          obtain ⟨y, ys, rfl, k1, k2⟩ := hRs.inv
          have hDr : D r := hR.key _ _ hl
          have k1' : Rs w (ρ.im (vwR ρ m r)) [.own r 0 N s] [y] := .cons (k1.mono viewR_le (fun _ _ => rfl)) .nil
          have hsub : Rel w0 ρ (rmR r m') D w := hR.sub (fun q z hq => hm q z (look_rmR hq).2) fun _ h => h
          have k2' : Rs w (.ext (vwR ρ m r)) (rest.map (purU 3 (rmR r m'))) ys := purUs_sound (J := vwR ρ m r) hsub (fun b hb => .inl hb) (fun q z f h1 h2 h3 => .inr ⟨q, z, f, (look_rmR h1).1, hm _ _ (look_rmR h1).2, h2, h3, rfl⟩) (fun p hp => hob p (by simp only [List.mem_append]; exact .inl (.inl hp))) k2
          have hlen : (y :: ys).length = (rest.map (purU 3 (rmR r m'))).length + 1 := by rw [List.length_cons, k2'.1]
          refine (h N (fam 0).get _ ob v N' get' hF hobr w0 (ρ.im (vwR ρ m r)) D w key r (y :: ys) hrel2 hk hDr k1' k2' hlen).mono fun val w' hp => ?_
          refine viewR_post hR hl hk hnv hny (ob := ob) ?_
          obtain ⟨ρ3, r1, r2, r3, r4⟩ := hp
          refine ⟨ρ3, r1, ?_, r3, r4⟩
          have e : ∀ z, Upd.app key [(r, z)] (.many [(r, famN N' s ty get' none)] none) = [(r, famN N' s ty get' none)] := fun z => by
            show setRow r _ [(r, z)] = _
            simp [setRow]
          show Rel w0 ρ3 (Upd.app key [(r, fam)] _) _ w'
          have r2 : Rel w0 ρ3 (Upd.app key [(r, famN N s ty (can (fam 0).get) none)] (.many [(r, famN N' s ty get' none)] none)) (fun q => D q ∨ q = key) w' := r2
          rw [e] at r2 ⊢
          exact r2
        · cases hc
      · cases hc
    · cases hc
  · cases hc
section
variable {P : Program} {G : Ctx} {H : Hots} {f : FuncId} {fn : Func}
open Classical in
/-- By a walk of its body. -/
theorem SRSem.of (hG : CtxOK P G) (hf : P.funcs[f]? = some fn) {sz : Nat} {ty : TypeId} {can : (Nat → List AV) → Nat → List AV} {F : SRF}
    (h : ∀ N get rest ob v N' get', F N (can get) rest = some (ob, v, N', get') → (∀ p ∈ ob, p) → ∃ rest0 v0, (∀ w I vs, Rs w (.ext I) rest vs → Rs w (.ext I) rest0 vs) ∧ (∀ a ∈ rest0, clean 3 a = true) ∧ (∀ i, i < N → cleanCs (can get i) = true) ∧ (∀ i, i < N' → cleanCs (get' i) = true) ∧ funcOK P H fn (rest0.length + 1) = true ∧
      (∀ θ r, θ 0 0 = (r, 0) → v r = renA θ 3 v0) ∧ (∀ (g : Nat → Nat → Prop) (B : Nat → Prop), g 0 0 → B 0 → kg g B 3 v0) ∧
      bodyM P G H fn (.own 0 0 N sz :: rest0) [(0, famN N sz ty (can get) none)] 1 fun a m1 => a = v0 ∧ ∃ g'', look m1 0 = some (famN N' sz ty g'' none) ∧ ∀ j, j < N' → g'' j = get' j) : SRSem P f sz ty can F := by
  intro N get rest ob v N' get' hF hob w0 ρ D w key r vs hR hk hDr k1 k2 hlen
  obtain ⟨rest0, v0, hcv, hcl, hc1, hc2, hfn, hv, hkg, hb⟩ := h N get rest ob v N' get' hF hob
  obtain ⟨c, hcdef⟩ : ∃ c : MCon, c = fun key m es => if es = .own r 0 N sz :: rest0 ∧ look m r = some (famN N sz ty (can get) none) then some ⟨[], v r, .many [(r, famN N' sz ty get' none)] none⟩ else none := ⟨_, rfl⟩
  have hok : MConOK P f c := by
    refine MConOK.of (H := H) hG hf fun key m es e hc _ => ?_
    rw [hcdef] at hc
    dsimp only at hc
    split at hc
    · rename_i hh
      obtain ⟨rfl, hl⟩ := hh
      cases hc
      obtain ⟨a1, a2⟩ := cleans_ren (θ := thE [r]) (g := lowG 1) (B := lowB 1) hcl
      have hcl1 : ∀ (n : Nat) (g : Nat → List AV), (∀ i, i < n → cleanCs (g i) = true) → ∀ f j, j < (famN n sz ty g none f).n → ∀ c ∈ (famN n sz ty g none f).get j, cleanC c = true := fun n g hg f j hj c hc => by
        by_cases hf : f = 0
        · subst hf
          exact cleanCs_mem (hg j hj) c hc
        · simp [famN, hf] at hj
      refine ⟨[r], [(0, famN N sz ty (can get) none)], .own 0 0 N sz :: rest0, ⟨by simp, by rw [List.map_cons, a1]; rfl, fun a ha => ?_, fun j hj => ?_, fun q z hq => ?_⟩, hfn, hb.mono fun a m1 ⟨q1, g'', q2, q3⟩ => ?_⟩
      · rcases List.mem_cons.1 ha with rfl | ha
        · exact Nat.zero_lt_one
        · exact a2 a ha
      · have : j = 0 := by simp at hj; omega
        subst this
        exact ⟨_, _, look_one, hl, fun f => ⟨by unfold famN; split <;> rfl, rowRen_clean' (.refl _) (hcl1 N _ hc1 f)⟩⟩
      · by_cases e : q = 0
        · subst e; simp
        · simp [look, Ne.symm e] at hq
      · refine ⟨fun _ => none, fun _ _ => 0, [famN N' sz ty get' none], none, rfl, ⟨fun f r g h => by simp at h, by rw [q1]; exact hv _ _ (by simp [thL]), by rw [q1]; exact hkg _ _ (.inl Nat.zero_lt_one) (.inl Nat.zero_lt_one), rfl, fun j hj => ?_, fun _ => rfl⟩⟩
        have : j = 0 := by simp at hj; omega
        subst this
        refine .inr ⟨_, _, q2, rfl, fun f => ⟨rowRen_clean' ?_ (hcl1 N' _ (fun i hi => by rw [q3 i hi]; exact hc2 i hi) f), by unfold famN; split <;> simp⟩⟩
        refine ⟨by unfold famN; split <;> rfl, by unfold famN; split <;> rfl, by unfold famN; split <;> rfl, by unfold famN; split <;> rfl, fun j hj => ?_⟩
        by_cases hf : f = 0
        · subst hf
          exact (q3 j hj).symm
        · simp [famN, hf]
    · cases hc
  match vs, hlen, k1, k2 with
  | y :: ys, hlen, k1, k2 =>
    have hrs : Rs w ρ (.own r 0 N sz :: rest0) (y :: ys) := by
      obtain ⟨y', ys', e, j1, j2⟩ := k1.inv
      cases e
      exact .cons j1 ((hcv _ _ _ k2).mono ⟨fun _ h => h.elim, fun _ _ h => h.elim, fun _ _ h => h.elim, fun _ h => h⟩ (fun _ _ => rfl))
    refine (hok w0 ρ [(r, famN N sz ty (can get) none)] [(r, famN N sz ty (can get) none)] D w key _ _ ⟨[], v r, .many [(r, famN N' sz ty get' none)] none⟩ hR hk (fun _ _ h => h) hrs (by rw [hcdef]; exact if_pos ⟨rfl, by simp [look]⟩) (fun p hp => by simp at hp) ⟨_, _, rfl⟩).mono fun val w' hp => hp
end
/-! ### For the evaluator -/
section
variable {sz r N key : Nat} {ty : TypeId} {can : (Nat → List AV) → Nat → List AV} {F : SRF} {m : Mem} {rest : List AV} {ps ob : List Prop} {get get' : Nat → List AV} {v : Nat → AV} {N' : Nat}
theorem mcSR_eq : mcSR sz ty can F key m (.own r 0 N sz :: rest) = mcSRe sz ty can F r N (pgsL 3 (rmR r m) rest) (purUL 3 (rmR r m) rest) (look m r) := by
  rw [← purUL_eq, ← pgsL_eq]
  exact if_pos rfl
theorem mcSRe_N : mcSRe sz ty can F r N ps rest (some (famN N sz ty get none)) = mcSRf sz ty r (ps ++ [True, ∀ i, i < N → get i = can get i]) (F N (can get) rest) := by
  show mcSRf sz ty r (ps ++ [famN N sz ty get none = famN N sz ty get none, ∀ i, i < N → get i = can get i]) (F N (can get) rest) = _
  rw [eq_self]
theorem mcSRf_some : mcSRf sz ty r ps (some (ob, v, N', get')) = some ⟨ps ++ nro 3 (v r) :: famNro (famN N' sz ty get' none) :: ob, v r, .many [(r, famN N' sz ty get' none)] none⟩ := (rfl)
theorem rmR_nil : rmR r [] = [] := (rfl)
theorem rmR_cons {k : Nat} {y : Fam} : rmR r ((k, y) :: m) = if k = r then rmR r m else (k, y) :: rmR r m := (rfl)
end
end Go.Ax
end

section
/-
  Deleting from a slice by a closure.
-/
set_option linter.unusedVariables false
set_option linter.unusedSimpArgs false
set_option maxHeartbeats 4000000
set_option maxRecDepth 100000
namespace Go.Ax
open Go.Proofs
attribute [go_sem] rmR_nil rmR_cons Option.toList_none Option.toList_some
/-- What a closure says of a number. -/
def prd : AV → Option (List Prop × (Int → Bool))
  | .fn 39 [.rop [.rop [.rm 4 L]], .rop (.v (.int .i64 a) :: l)] => some ([], fun k => decide (selAt (memSel L k) 2 < a))
  | .fn 66 [.rop [.fn 47 [.rop [.v (.int .i64 a), .v (.int .i64 b), .v (.int .i64 c), .v (.int .i64 d)]]], .rop [.rop [.rm 4 L]]] => some ([selIn L, inR a, inR b, inR c, inR d], fun k => !meetsS (selAt (memSel L k) 0) (selAt (memSel L k) 1) (selAt (memSel L k) 2) (selAt (memSel L k) 3) a b c d)
  | _ => none
def ixS (p : Int → Bool) (n : Nat) (X : Nat → Int) : Int := if lst (fun j => p (X j)) n < n then (lst (fun j => p (X j)) n : Nat) else -1
theorem ix_yes {p : Int → Bool} {n : Nat} {X : Nat → Int} {i : Nat} (hj : ∀ j, j < i → p (X j) = false) (h : (i : Int) < n) (hp : p (X i) = true) : (i : Int) = ixS p n X := by
  have hl : lst (fun j => p (X j)) n = i := lst_eq hj (by omega) hp
  unfold ixS
  rw [hl, if_pos (by omega)]
theorem ix_no {p : Int → Bool} {n : Nat} {X : Nat → Int} {i : Nat} (hi : i ≤ n) (hj : ∀ j, j < i → p (X j) = false) (h : ¬ (i : Int) < n) : -1 = ixS p n X := by
  have hl : lst (fun j => p (X j)) n = n := lst_full fun j h2 => hj j (by omega)
  unfold ixS
  rw [hl, if_neg (by omega)]
theorem ix_next {p : Int → Bool} {X : Nat → Int} {i : Nat} (hj : ∀ j, j < i → p (X j) = false) (hf : p (X i) = false) : ∀ j, j < i + 1 → p (X j) = false := fun j h => by
  by_cases e : j = i
  · rw [e]; exact hf
  · exact hj j (by omega)
def c64f (n : Nat) (X : Nat → Int) (g : Nat → List AV) : Option (List Prop × (Int → Bool)) → Option (List Prop × AV)
  | some (ob, p) => some (ints n g :: (n ≤ 1000) :: ob, i64 (ixS p n X))
  | none => none
def c64 : Con
  | [.ro n 1 g, F] => c64f n (gx g 0) g (prd F)
  | _ => none
theorem con64 : ConOK Try.prog 64 c64 := ConOK.go (G := [(39, c39), (66, c66)]) (H := []) (.cons con39 (.cons con66 .nil)) Try.func64 fun l ob rr hc hob => by
  unfold c64 at hc
  split at hc
  · rename_i n g F
    unfold c64f at hc
    split at hc
    · rename_i obp p hp
      cases hc
      have h1 : ints n g := hob _ (by simp)
      have h2 : n ≤ 1000 := hob _ (by simp)
      refine ⟨[.ro n 1 fun i => [i64 (gx g 0 i)], F], fun w I vs hR => ?_, by kernel_rfl, fnVC_go (rs := [.tmp 4]) rfl rfl ?_⟩
      · obtain ⟨y, ys, rfl, k1, k2⟩ := hR.inv
        exact .cons (ro_alike (fun i hi => h1 i hi) k1) k2
      obtain ⟨X, hX⟩ : ∃ X : Nat → Int, X = gx g 0 := ⟨_, rfl⟩
      rw [← hX]
      have hob : ∀ x ∈ obp, x := fun x hx => hob x (by simp [hx])
      unfold prd at hp
      split at hp
      · rename_i L a l
        cases hp
        simp only [go_sem]
        obtain ⟨p, hpd⟩ : ∃ p : Int → Bool, p = fun k => decide (selAt (memSel L k) 2 < a) := ⟨_, rfl⟩
        rw [← hpd]
        refine loopN_go (fun (i : Nat) => i ≤ n ∧ ∀ j, j < i → p (X j) = false) (fun i => n - i) (fun i => [(8, i64 i)]) (fun i => []) [] [9, 10, 5, 11, 12, 13, 14, 15, 16, 17, 4, 18, 8] 0 0 (by kernel_rfl) ⟨Nat.zero_le _, fun j hj => by omega⟩ ⟨[], ?_, ?_, ?_, ?_⟩ ?_
        · simp only [go_sem]
        · simp only [go_sem]
        · simp only [go_sem]
        · simp [goodNames, asg]
        rintro i ⟨hi, hj⟩
        simp only [go_sem, c39, c66]
        refine ⟨fun h => ⟨by omega, h, fun z hz => ?_⟩, fun h => ix_no hi hj h⟩
        have hz : z = p (X i) := by rw [hz, hpd]
        refine ⟨fun ht => ix_yes hj h (by rw [← hz]; exact ht), fun hf z1 k1 => ⟨i + 1, ⟨by omega, ix_next hj (by rw [← hz]; exact hf)⟩, by omega, [], by rw [k1, wrap_in (by unfold inR; omega)]; omega, by simp [goodNames, asg]⟩⟩
      · rename_i a b c d L
        cases hp
        have o1 : selIn L := hob _ (by simp)
        have o2 : inR a := hob _ (by simp)
        have o3 : inR b := hob _ (by simp)
        have o4 : inR c := hob _ (by simp)
        have o5 : inR d := hob _ (by simp)
        simp only [go_sem]
        obtain ⟨p, hpd⟩ : ∃ p : Int → Bool, p = fun k => !meetsS (selAt (memSel L k) 0) (selAt (memSel L k) 1) (selAt (memSel L k) 2) (selAt (memSel L k) 3) a b c d := ⟨_, rfl⟩
        rw [← hpd]
        refine loopN_go (fun (i : Nat) => i ≤ n ∧ ∀ j, j < i → p (X j) = false) (fun i => n - i) (fun i => [(8, i64 i)]) (fun i => []) [] [9, 10, 5, 11, 12, 13, 14, 15, 16, 17, 4, 18, 8] 0 0 (by kernel_rfl) ⟨Nat.zero_le _, fun j hj => by omega⟩ ⟨[], ?_, ?_, ?_, ?_⟩ ?_
        · simp only [go_sem]
        · simp only [go_sem]
        · simp only [go_sem]
        · simp [goodNames, asg]
        rintro i ⟨hi, hj⟩
        simp only [go_sem, c39, c66, o1, o2, o3, o4, o5]
        refine ⟨fun h => ⟨by omega, h, fun z hz => ?_⟩, fun h => ix_no hi hj h⟩
        have hz : z = p (X i) := by rw [hz, hpd]
        refine ⟨fun ht => ix_yes hj h (by rw [← hz]; exact ht), fun hf z1 k1 => ⟨i + 1, ⟨by omega, ix_next hj (by rw [← hz]; exact hf)⟩, by omega, [], by rw [k1, wrap_in (by unfold inR; omega)]; omega, by simp [goodNames, asg]⟩⟩
      · cases hp
    · cases hc
  · cases hc
theorem prd_71 {L : Ents} {a : Int} {l : List AV} : prd (.fn 39 [.rop [.rop [.rm 4 L]], .rop (.v (.int .i64 a) :: l)]) = some ([], fun k => decide (selAt (memSel L k) 2 < a)) := (rfl)
theorem prd_116 {L : Ents} {a b c d : Int} : prd (.fn 66 [.rop [.fn 47 [.rop [.v (.int .i64 a), .v (.int .i64 b), .v (.int .i64 c), .v (.int .i64 d)]]], .rop [.rop [.rm 4 L]]]) = some ([selIn L, inR a, inR b, inR c, inR d], fun k => !meetsS (selAt (memSel L k) 0) (selAt (memSel L k) 1) (selAt (memSel L k) 2) (selAt (memSel L k) 3) a b c d) := (rfl)
theorem c64_eq {n : Nat} {g : Nat → List AV} {F : AV} : c64 [.ro n 1 g, F] = c64f n (gx g 0) g (prd F) := (rfl)
theorem c64f_some {n : Nat} {X : Nat → Int} {g : Nat → List AV} {ob : List Prop} {p : Int → Bool} : c64f n X g (some (ob, p)) = some (ints n g :: (n ≤ 1000) :: ob, i64 (ixS p n X)) := (rfl)
attribute [go_sem] prd_71 prd_116 c64_eq c64f_some
/-- What is left of the first i. -/
def flt (p : Int → Bool) (X : Nat → Int) : Nat → List Int
  | 0 => []
  | i + 1 => flt p X i ++ (if p (X i) = true then [] else [X i])
theorem flt_le {p : Int → Bool} {X : Nat → Int} : ∀ i, (flt p X i).length ≤ i
  | 0 => Nat.le_refl _
  | i + 1 => by
    simp only [flt, List.length_append]
    have := flt_le (p := p) (X := X) i
    split <;> simp <;> omega
theorem flt_all {p : Int → Bool} {X : Nat → Int} : ∀ i, (∀ j, j < i → p (X j) = false) → flt p X i = (List.range i).map X
  | 0, _ => rfl
  | i + 1, h => by
    rw [flt, flt_all i fun j hj => h j (by omega), h i (by omega), List.range_succ, List.map_append]
    rfl
def flX (p : Int → Bool) (X : Nat → Int) (N j : Nat) : Int := (flt p X N).getD j 0
theorem flt_len_all {p : Int → Bool} {X : Nat → Int} {i : Nat} (h : ∀ j, j < i → p (X j) = false) : (flt p X i).length = i := by rw [flt_all i h]; simp
theorem flt_get_all {p : Int → Bool} {X : Nat → Int} {i j : Nat} (h : ∀ j, j < i → p (X j) = false) (hj : j < i) : (flt p X i).getD j 0 = X j := by
  rw [flt_all i h, List.getD_eq_getElem?_getD, List.getElem?_map, List.getElem?_range hj]
  rfl
/-- How far the deleting is. -/
def dlOK (p : Int → Bool) (X : Nat → Int) (N : Nat) (x : Nat × (Nat → Int)) : Prop := x.1 ≤ N ∧ (∀ j, j < (flt p X x.1).length → x.2 j = (flt p X x.1).getD j 0) ∧ ∀ j, x.1 ≤ j → x.2 j = X j
theorem dl_first {p : Int → Bool} {X : Nat → Int} {N : Nat} (h : lst (fun j => p (X j)) N < N) : dlOK p X N (lst (fun j => p (X j)) N + 1, X) ∧ (flt p X (lst (fun j => p (X j)) N + 1)).length = lst (fun j => p (X j)) N := by
  have hno : ∀ j, j < lst (fun j => p (X j)) N → p (X j) = false := fun j hj => lst_no (p := fun j => p (X j)) hj
  have hyes : p (X (lst (fun j => p (X j)) N)) = true := lst_yes (p := fun j => p (X j)) h
  have e : flt p X (lst (fun j => p (X j)) N + 1) = flt p X (lst (fun j => p (X j)) N) := by
    rw [flt, hyes]; simp
  refine ⟨⟨h, fun j hj => ?_, fun j hj => rfl⟩, by rw [e, flt_len_all hno]⟩
  rw [e, flt_len_all hno] at hj
  rw [e, flt_get_all hno hj]
theorem dl_skip {p : Int → Bool} {X : Nat → Int} {N i : Nat} {Y : Nat → Int} (h : dlOK p X N (i, Y)) (hi : i < N) (hp : p (X i) = true) : dlOK p X N (i + 1, Y) ∧ (flt p X (i + 1)).length = (flt p X i).length := by
  have e : flt p X (i + 1) = flt p X i := by rw [flt, hp]; simp
  obtain ⟨h1, h2, h3⟩ := h
  exact ⟨⟨hi, by dsimp only; rw [e]; exact h2, fun j hj => h3 j (by have hj : i + 1 ≤ j := hj; show i ≤ j; omega)⟩, by rw [e]⟩
theorem dl_keep {p : Int → Bool} {X : Nat → Int} {N i : Nat} {Y : Nat → Int} (h : dlOK p X N (i, Y)) (hi : i < N) (hp : p (X i) = false) : dlOK p X N (i + 1, fun j => if j = (flt p X i).length then X i else Y j) ∧ (flt p X (i + 1)).length = (flt p X i).length + 1 := by
  have e : flt p X (i + 1) = flt p X i ++ [X i] := by rw [flt, hp]; simp
  obtain ⟨h1, h2, h3⟩ := h
  have hle := flt_le (p := p) (X := X) i
  refine ⟨⟨hi, fun j hj => ?_, fun j hj => ?_⟩, by rw [e]; simp⟩
  · dsimp only at hj ⊢
    rw [e, List.length_append, List.length_singleton] at hj
    rw [e, List.getD_eq_getElem?_getD]
    split
    · rename_i e2
      rw [e2]; simp
    · have h2' := h2 j (show j < (flt p X i).length from by omega)
      dsimp only at h2'
      rw [h2', List.getD_eq_getElem?_getD, List.getElem?_append_left (by omega)]
  · have hj : i + 1 ≤ j := hj
    dsimp only
    rw [if_neg (by omega)]
    exact h3 j (by show i ≤ j; omega)
def canI (g : Nat → List AV) (i : Nat) : List AV := [i64 (gx g 0 i)]
def F38 : SRF := fun N get rest => match rest with
  | [F] => match prd F with
    | some (ob, p) => some ((N ≤ 1000) :: ob, fun r => .own r 0 (flt p (gx get 0) N).length 1, N, fun j => [i64 (flX p (gx get 0) N j)])
    | none => none
  | _ => none
noncomputable def m38 : MCon := mcSR 1 3 canI F38
theorem mon38 : MConOK Try.prog 38 m38 := MConOK.mcSR (SRSem.of (G := [(64, c64), (39, c39), (66, c66)]) (H := []) (.cons con64 (.cons con39 (.cons con66 .nil))) Try.func38 fun N get rest ob v N' get' hF hob => by
  unfold F38 at hF
  split at hF
  · rename_i F
    split at hF
    · rename_i obp p hp
      cases hF
      have h2 : N ≤ 1000 := hob _ (by simp)
      have hob : ∀ x ∈ obp, x := fun x hx => hob x (by simp [hx])
      obtain ⟨X, hX⟩ : ∃ X : Nat → Int, X = gx get 0 := ⟨_, rfl⟩
      have hcan : gx (canI get) 0 = X := hX.symm
      have hcan2 : canI get = fun i => [i64 (X i)] := by rw [hX]; rfl
      have hcl : clean 3 F = true := by
        unfold prd at hp
        split at hp <;> first | rfl | (simp [clean]; done) | cases hp
      rw [hcan, hcan2]
      refine ⟨[F], .own 0 0 (flt p X N).length 1, fun w I vs hR => hR, by simpa using hcl, fun i _ => rfl, fun i _ => rfl, by kernel_rfl, fun θ r h => by simp only [renA, h], fun g B h1 h2 => h1, bodyM_go (rs := [.tmp 4]) rfl rfl ?_⟩
      unfold prd at hp
      split at hp
      · rename_i L a l
        cases hp
        simp only [go_sem, ints_can, gx_int, h2]
        obtain ⟨p, hpd⟩ : ∃ p : Int → Bool, p = fun k => decide (selAt (memSel L k) 2 < a) := ⟨_, rfl⟩
        rw [← hpd]
        intro z hz
        refine ⟨fun h1 => ?_, fun h0 z1 k1 => ?_⟩
        · have hn : ∀ j, j < N → p (X j) = false := fun j hj => by
            have hl : ¬ lst (fun j => p (X j)) N < N := fun hl => by
              have h1 : z = -1 := by simpa using h1
              rw [h1] at hz; unfold ixS at hz; rw [if_pos hl] at hz; omega
            have := lst_le (p := fun j => p (X j)) N
            exact lst_no (p := fun j => p (X j)) (n := N) (by omega)
          rw [flt_len_all hn]
          exact ⟨rfl, _, rfl, fun j hj => by unfold flX; rw [flt_get_all hn hj]⟩
        have hl : lst (fun j => p (X j)) N < N := Classical.byContradiction fun hl => by
          unfold ixS at hz; rw [if_neg hl] at hz
          rw [hz] at h0; cases h0
        obtain ⟨d1, d2⟩ := dl_first hl
        have hz : z = (lst (fun j => p (X j)) N : Nat) := by unfold ixS at hz; rw [if_pos hl] at hz; exact hz
        have k1 : z1 = ((lst (fun j => p (X j)) N + 1 : Nat) : Int) := by rw [k1, hz, wrap_in (by unfold inR; omega)]; omega
        subst k1
        rw [← d2] at hz
        subst hz
        clear h0
        generalize lst (fun j => p (X j)) N + 1 = i0 at d1 d2
        refine loopN_go (dlOK p X N) (fun x => N - x.1) (fun x => [(6, i64 (x.1 : Int)), (5, i64 ((flt p X x.1).length : Int))]) (fun x => [(0, famN N 1 3 (fun j => [i64 (x.2 j)]) none)]) [] [16, 17, 18, 19, 22, 23, 24, 25, 7, 26, 27, 28, 29, 30, 31, 32, 33, 34, 35, 5, 20, 21, 6] 0 (i0, X) (by kernel_rfl) d1 ⟨[], ?_, ?_, ?_, ?_⟩ ?_
        · simp only [go_sem]
        · simp only [go_sem]; exact fun _ _ => trivial
        · simp only [go_sem]
        · simp [goodNames, asg]
        rintro ⟨i, Y⟩ hx
        obtain ⟨g1, g2, g3⟩ := hx
        have hle := flt_le (p := p) (X := X) i
        have g3' := g3 i (Nat.le_refl _)
        dsimp only at g1 g2 g3 g3' ⊢
        simp only [go_sem, c39, c66, ints_can, gx_int, h2, g3']
        refine ⟨fun h => ⟨by omega, h, by omega, fun z hz => ?_⟩, fun h => ?_⟩
        · have hz : z = p (X i) := by rw [hz, hpd]
          refine ⟨fun hf => ⟨by omega, by omega, by omega, fun z1 k1 z2 k2 => ?_⟩, fun ht z1 k1 => ?_⟩
          · obtain ⟨d3, d4⟩ := dl_keep (N := N) ⟨g1, g2, g3⟩ (by omega) (by rw [← hz]; exact hf)
            refine ⟨_, d3, by show N - (i + 1) < N - i; omega, [], ⟨?_, ?_⟩, ?_, ?_⟩
            · rw [k2, wrap_in (by unfold inR; omega)]; show (i : Int) + 1 = ((i + 1 : Nat) : Int); omega
            · rw [k1, wrap_in (by unfold inR; omega)]; show _ = (((flt p X (i + 1)).length : Nat) : Int); rw [d4]; omega
            · simp only [go_sem]
              intro q hq
              split <;> simp only [go_sem]
            · simp [goodNames, asg]
          · obtain ⟨d3, d4⟩ := dl_skip (N := N) ⟨g1, g2, g3⟩ (by omega) (by rw [← hz]; exact ht)
            refine ⟨_, d3, by show N - (i + 1) < N - i; omega, [], ⟨?_, ?_⟩, ?_, ?_⟩
            · rw [k1, wrap_in (by unfold inR; omega)]; show (i : Int) + 1 = ((i + 1 : Nat) : Int); omega
            · show _ = (((flt p X (i + 1)).length : Nat) : Int); rw [d4]
            · simp only [go_sem]
              exact fun _ _ => trivial
            · simp [goodNames, asg]
        · have e : i = N := by omega
          subst e
          refine ⟨by omega, by omega, by omega, by omega, by omega, ?_, _, rfl, fun j hj => ?_⟩
          · rw [show ((flt p X i).length - 0 : Int).toNat = (flt p X i).length by omega]
          · unfold flX
            by_cases hlt : j < (flt p X i).length
            · rw [if_neg (by omega), g2 j hlt]
            · rw [if_pos (by omega), List.getD_eq_getElem?_getD, List.getElem?_eq_none (by omega)]
              rfl
      · rename_i a b c d L
        cases hp
        have o1 : selIn L := hob _ (by simp)
        have o2 : inR a := hob _ (by simp)
        have o3 : inR b := hob _ (by simp)
        have o4 : inR c := hob _ (by simp)
        have o5 : inR d := hob _ (by simp)
        simp only [go_sem, o1, o2, o3, o4, o5, ints_can, gx_int, h2]
        obtain ⟨p, hpd⟩ : ∃ p : Int → Bool, p = fun k => !meetsS (selAt (memSel L k) 0) (selAt (memSel L k) 1) (selAt (memSel L k) 2) (selAt (memSel L k) 3) a b c d := ⟨_, rfl⟩
        rw [← hpd]
        intro z hz
        refine ⟨fun h1 => ?_, fun h0 z1 k1 => ?_⟩
        · have hn : ∀ j, j < N → p (X j) = false := fun j hj => by
            have hl : ¬ lst (fun j => p (X j)) N < N := fun hl => by
              have h1 : z = -1 := by simpa using h1
              rw [h1] at hz; unfold ixS at hz; rw [if_pos hl] at hz; omega
            have := lst_le (p := fun j => p (X j)) N
            exact lst_no (p := fun j => p (X j)) (n := N) (by omega)
          rw [flt_len_all hn]
          exact ⟨rfl, _, rfl, fun j hj => by unfold flX; rw [flt_get_all hn hj]⟩
        have hl : lst (fun j => p (X j)) N < N := Classical.byContradiction fun hl => by
          unfold ixS at hz; rw [if_neg hl] at hz
          rw [hz] at h0; cases h0
        obtain ⟨d1, d2⟩ := dl_first hl
        have hz : z = (lst (fun j => p (X j)) N : Nat) := by unfold ixS at hz; rw [if_pos hl] at hz; exact hz
        have k1 : z1 = ((lst (fun j => p (X j)) N + 1 : Nat) : Int) := by rw [k1, hz, wrap_in (by unfold inR; omega)]; omega
        subst k1
        rw [← d2] at hz
        subst hz
        clear h0
        generalize lst (fun j => p (X j)) N + 1 = i0 at d1 d2
        refine loopN_go (dlOK p X N) (fun x => N - x.1) (fun x => [(6, i64 (x.1 : Int)), (5, i64 ((flt p X x.1).length : Int))]) (fun x => [(0, famN N 1 3 (fun j => [i64 (x.2 j)]) none)]) [] [16, 17, 18, 19, 22, 23, 24, 25, 7, 26, 27, 28, 29, 30, 31, 32, 33, 34, 35, 5, 20, 21, 6] 0 (i0, X) (by kernel_rfl) d1 ⟨[], ?_, ?_, ?_, ?_⟩ ?_
        · simp only [go_sem]
        · simp only [go_sem]; exact fun _ _ => trivial
        · simp only [go_sem]
        · simp [goodNames, asg]
        rintro ⟨i, Y⟩ hx
        obtain ⟨g1, g2, g3⟩ := hx
        have hle := flt_le (p := p) (X := X) i
        have g3' := g3 i (Nat.le_refl _)
        dsimp only at g1 g2 g3 g3' ⊢
        simp only [go_sem, c39, c66, ints_can, gx_int, h2, g3', o1, o2, o3, o4, o5]
        refine ⟨fun h => ⟨by omega, h, by omega, fun z hz => ?_⟩, fun h => ?_⟩
        · have hz : z = p (X i) := by rw [hz, hpd]
          refine ⟨fun hf => ⟨by omega, by omega, by omega, fun z1 k1 z2 k2 => ?_⟩, fun ht z1 k1 => ?_⟩
          · obtain ⟨d3, d4⟩ := dl_keep (N := N) ⟨g1, g2, g3⟩ (by omega) (by rw [← hz]; exact hf)
            refine ⟨_, d3, by show N - (i + 1) < N - i; omega, [], ⟨?_, ?_⟩, ?_, ?_⟩
            · rw [k2, wrap_in (by unfold inR; omega)]; show (i : Int) + 1 = ((i + 1 : Nat) : Int); omega
            · rw [k1, wrap_in (by unfold inR; omega)]; show _ = (((flt p X (i + 1)).length : Nat) : Int); rw [d4]; omega
            · simp only [go_sem]
              intro q hq
              split <;> simp only [go_sem]
            · simp [goodNames, asg]
          · obtain ⟨d3, d4⟩ := dl_skip (N := N) ⟨g1, g2, g3⟩ (by omega) (by rw [← hz]; exact ht)
            refine ⟨_, d3, by show N - (i + 1) < N - i; omega, [], ⟨?_, ?_⟩, ?_, ?_⟩
            · rw [k1, wrap_in (by unfold inR; omega)]; show (i : Int) + 1 = ((i + 1 : Nat) : Int); omega
            · show _ = (((flt p X (i + 1)).length : Nat) : Int); rw [d4]
            · simp only [go_sem]
              exact fun _ _ => trivial
            · simp [goodNames, asg]
        · have e : i = N := by omega
          subst e
          refine ⟨by omega, by omega, by omega, by omega, by omega, ?_, _, rfl, fun j hj => ?_⟩
          · rw [show ((flt p X i).length - 0 : Int).toNat = (flt p X i).length by omega]
          · unfold flX
            by_cases hlt : j < (flt p X i).length
            · rw [if_neg (by omega), g2 j hlt]
            · rw [if_pos (by omega), List.getD_eq_getElem?_getD, List.getElem?_eq_none (by omega)]
              rfl
      · cases hp
    · cases hF
  · cases hF)
end Go.Ax
end

section
/-
  The sweep's queries.
-/
set_option linter.unusedVariables false
set_option linter.unusedSimpArgs false
set_option maxHeartbeats 4000000
set_option maxRecDepth 100000
namespace Go.Ax
open Go.Proofs
/-- Whole numbers in a slice. -/
abbrev lsI (l : List Int) : AV := .ro l.length 1 fun j => [i64 (l.getD j 0)]
theorem flt_filter {p : Int → Bool} {l : List Int} : ∀ i, i ≤ l.length → flt p (fun j => l.getD j 0) i = (l.take i).filter fun k => !p k
  | 0, _ => by simp [flt]
  | i + 1, h => by
    rw [flt, flt_filter i (by omega), List.take_add_one, List.filter_append, List.getElem?_eq_getElem (by omega)]
    congr 1
    have e : l.getD i 0 = l[i] := by rw [List.getD_eq_getElem?_getD, List.getElem?_eq_getElem (by omega)]; rfl
    rw [e]
    cases hp : p l[i] <;> simp [hp]
theorem flt_len {p : Int → Bool} {l : List Int} : flt p (fun j => l.getD j 0) l.length = l.filter fun k => !p k := by
  rw [flt_filter _ (Nat.le_refl _), List.take_length]
/-- The ids whose boxes are seen. -/
def seenL (L : Ents) (p : Int → Int → Int → Int → Bool) : List Int := (srtK L).filter fun k => p (selAt (memSel L k) 0) (selAt (memSel L k) 1) (selAt (memSel L k) 2) (selAt (memSel L k) 3)
theorem famNro_ints {n : Nat} {ty : TypeId} {X : Nat → Int} {g : Option Bool} : famNro (famN n 1 ty (fun j => [i64 (X j)]) g) = True := eq_true fun f j hj c hc => by
  match f with
  | 0 =>
    have hc : c ∈ [i64 (X j)] := hc
    simp only [List.mem_cons, List.not_mem_nil, or_false] at hc
    subst hc; trivial
  | f + 1 => have hj : j < 0 := hj; omega
theorem nro_own {d r f n sz : Nat} : nro d (.own r f n sz) = True := by cases d <;> rfl
theorem canI_eq {X : Nat → Int} : canI (fun i => [i64 (X i)]) = fun i => [i64 (X i)] := (rfl)
theorem canI_ok {N : Nat} {X : Nat → Int} : (∀ i, i < N → [i64 (X i)] = [i64 (X i)]) = True := by simp
def F38f (N : Nat) (X : Nat → Int) : Option (List Prop × (Int → Bool)) → Option (List Prop × (Nat → AV) × Nat × (Nat → List AV))
  | some (ob, p) => some ((N ≤ 1000) :: ob, fun r => .own r 0 (flt p X N).length 1, N, fun j => [i64 (flX p X N j)])
  | none => none
theorem F38_some {N : Nat} {X : Nat → Int} {F : AV} : F38 N (fun i => [i64 (X i)]) [F] = F38f N X (prd F) := by
  unfold F38 F38f
  dsimp only
  cases prd F <;> rfl
theorem F38f_some {N : Nat} {X : Nat → Int} {ob : List Prop} {p : Int → Bool} : F38f N X (some (ob, p)) = some ((N ≤ 1000) :: ob, fun r => .own r 0 (flt p X N).length 1, N, fun j => [i64 (flX p X N j)]) := (rfl)
attribute [go_sem] famNro_ints nro_own canI_eq F38_some F38f_some mcSR_eq mcSRe_N mcSRf_some
theorem fltS {L : Ents} {p : Int → Int → Int → Int → Bool} : flt (fun k => !p (selAt (memSel L k) 0) (selAt (memSel L k) 1) (selAt (memSel L k) 2) (selAt (memSel L k) 3)) (fun i => (srtK L).getD i 0) L.length = seenL L p := by
  rw [← srtK_len, flt_len]
  unfold seenL
  congr 1
  funext k
  exact Bool.not_not _
theorem flXS {L : Ents} {p : Int → Int → Int → Int → Bool} {j : Nat} : flX (fun k => !p (selAt (memSel L k) 0) (selAt (memSel L k) 1) (selAt (memSel L k) 2) (selAt (memSel L k) 3)) (fun i => (srtK L).getD i 0) L.length j = (seenL L p).getD j 0 := by
  unfold flX; rw [fltS]
theorem seenL_le {L : Ents} {p : Int → Int → Int → Int → Bool} : (seenL L p).length ≤ L.length := by
  rw [← srtK_len]
  exact List.length_filter_le _ _
theorem newN2 {key N r n n' sz : Nat} {ty : TypeId} {get get' : Nat → List AV} {m1 : Mem} (h : look m1 r = some (famN n sz ty get none)) (hN : N ≤ r) (hc : ∀ j, j < n → get' j = get j ∧ ∀ c ∈ get j, clean 3 c = true) : NewP key N (.own r 0 n' sz) m1 (.own key 0 n' sz) (some (famN n sz ty get' none)) := by
  refine newP_list [(r, 0)] (by simp) (by simp [hN]) (.inr (by simp [ixP, sgP])) (fun ks hks => ?_) (fun ks hks f r' g hf => ?_) (fun f hf => ?_)
  · show AV.own key 0 n' sz = AV.own (thL ks key (ixP [(r, 0)]) r 0).1 (thL ks key (ixP [(r, 0)]) r 0).2 n' sz
    simp only [thL]
    rw [if_neg (by omega)]
    simp [ixP]
  · match f, hf with
    | 0, hf =>
      cases hf
      refine ⟨_, h, ⟨rfl, rfl, rfl, rfl, fun j hj => ?_⟩, by simp [famN]⟩
      obtain ⟨h1, h2⟩ := hc j hj
      obtain ⟨k1, k2⟩ := cleans_ren (θ := thL ks key (ixP [(r, 0)])) (g := newG N (sgP [(r, 0)]) (ixP [(r, 0)])) (B := newB N (sgP [(r, 0)])) h2
      exact ⟨by show get' j = (get j).map _; rw [h1, k1], k2⟩
    | f + 1, hf => simp at hf
  · match f, hf with
    | f + 1, _ => rfl
theorem int_clean {z : Int} : ∀ c ∈ [i64 z], clean 3 c = true := fun c hc => by
  simp only [List.mem_cons, List.not_mem_nil, or_false] at hc
  subst hc; rfl
def F46 : List AV → Option (List Prop × (Nat → AV) × (Nat → Option Fam))
  | [.rop [.rm 4 L], .fn 47 [.rop [.v (.int .i64 a), .v (.int .i64 b), .v (.int .i64 c), .v (.int .i64 d)]]] => some ([selIn L, L.length ≤ 1000, inR a, inR b, inR c, inR d], fun k => .own k 0 (seenL L fun x y z t => meetsS x y z t a b c d).length 1, fun k => some (famN L.length 1 3 (fun j => [i64 ((seenL L fun x y z t => meetsS x y z t a b c d).getD j 0)]) none))
  | _ => none
noncomputable def mN46 : MCon := mcKU F46
theorem mN46_eq : mN46 = mcKU F46 := (rfl)
theorem F46_102 {L : Ents} {a b c d : Int} : F46 [.rop [.rm 4 L], .fn 47 [.rop [.v (.int .i64 a), .v (.int .i64 b), .v (.int .i64 c), .v (.int .i64 d)]]] = some ([selIn L, L.length ≤ 1000, inR a, inR b, inR c, inR d], fun k => .own k 0 (seenL L fun x y z t => meetsS x y z t a b c d).length 1, fun k => some (famN L.length 1 3 (fun j => [i64 ((seenL L fun x y z t => meetsS x y z t a b c d).getD j 0)]) none)) := (rfl)
attribute [go_sem] mN46_eq F46_102
theorem mon46 : MConOK Try.prog 46 mN46 := MConOK.mkU (G := [(32, .wr mN32), (66, c66), (38, .wr m38)]) (H := []) (.mcons mon32 (.cons con66 (.mcons mon38 .nil))) Try.func46 fun es ob v nw hF hob => by
  unfold F46 at hF
  split at hF
  · rename_i L a b c d
    cases hF
    have h1 : selIn L := hob _ (by simp)
    have h2 : L.length ≤ 1000 := hob _ (by simp)
    have o2 : inR a := hob _ (by simp)
    have o3 : inR b := hob _ (by simp)
    have o4 : inR c := hob _ (by simp)
    have o5 : inR d := hob _ (by simp)
    refine ⟨_, fun w I vs hR => hR, by simp [clean], by kernel_rfl, fun key => bodyM_go (rs := [.tmp 4]) rfl rfl ?_⟩
    simp only [go_sem, c66, m38, m38, h1, h2, o2, o3, o4, o5]
    rw [fltS (p := fun x y z t => meetsS x y z t a b c d)]
    refine ⟨fun _ _ => trivial, newN2 rfl (Nat.zero_le _) fun i hi => ⟨?_, int_clean⟩⟩
    rw [flXS (p := fun x y z t => meetsS x y z t a b c d)]
  · cases hF
def F15 : List AV → Option (List Prop × (Nat → AV) × (Nat → Option Fam))
  | [.rop [.rm 4 L], .agg [.v (.int .i64 a), .v (.int .i64 b), .v (.int .i64 c), .v (.int .i64 d)]] => some ([selIn L, L.length ≤ 1000, inR a, inR b, inR c, inR d], fun k => .own k 0 (seenL L fun x y z t => meetsS x y z t a b c d).length 1, fun k => some (famN L.length 1 3 (fun j => [i64 ((seenL L fun x y z t => meetsS x y z t a b c d).getD j 0)]) none))
  | _ => none
noncomputable def mN15 : MCon := mcKU F15
theorem mN15_eq : mN15 = mcKU F15 := (rfl)
theorem F15_eq {L : Ents} {a b c d : Int} : F15 [.rop [.rm 4 L], .agg [.v (.int .i64 a), .v (.int .i64 b), .v (.int .i64 c), .v (.int .i64 d)]] = some ([selIn L, L.length ≤ 1000, inR a, inR b, inR c, inR d], fun k => .own k 0 (seenL L fun x y z t => meetsS x y z t a b c d).length 1, fun k => some (famN L.length 1 3 (fun j => [i64 ((seenL L fun x y z t => meetsS x y z t a b c d).getD j 0)]) none)) := (rfl)
attribute [go_sem] mN15_eq F15_eq
theorem mon15 : MConOK Try.prog 15 mN15 := MConOK.mkU (G := [(47, c47), (46, .wr mN46)]) (H := []) (.cons con47 (.mcons mon46 .nil)) Try.func15 fun es ob v nw hF hob => by
  unfold F15 at hF
  split at hF
  · rename_i L a b c d
    cases hF
    have h1 : selIn L := hob _ (by simp)
    have h2 : L.length ≤ 1000 := hob _ (by simp)
    have o2 : inR a := hob _ (by simp)
    have o3 : inR b := hob _ (by simp)
    have o4 : inR c := hob _ (by simp)
    have o5 : inR d := hob _ (by simp)
    refine ⟨_, fun w I vs hR => hR, by simp [clean], by kernel_rfl, fun key => bodyM_go (rs := [.tmp 4]) rfl rfl ?_⟩
    simp only [go_sem, c47, h1, h2, o2, o3, o4, o5]
    exact newN2 rfl (Nat.zero_le _) fun i hi => ⟨rfl, int_clean⟩
  · cases hF
end Go.Ax
end
