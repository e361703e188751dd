/-
  The reference's table of slots: what only reads it.
-/
import Derived.Test.YtfpgjkeelegdpaaGreatCM5
import Derived.Shelf.SlIterI.Nil
import Derived.Shelf.SortM.Plain
import Derived.Shelf.SortM.SortNone
import Derived.Shelf.SlSortCmp.NoneTotal
import Derived.Ground.GgzProg
import Derived.Ground.SlgmProg
import Derived.Ground.SlsfProg
import Derived.Test.YtfpgjkeelegdpaaGreatProg
import Derived.Laws.Externs
import Derived.Lib.Mul64
section
set_option linter.unusedVariables false
set_option linter.unusedSimpArgs false
set_option maxHeartbeats 4000000
set_option maxRecDepth 100000
namespace Go.Ax
open Go.Proofs
/-- Truth values, one a cell. -/
def gz : List AV → Bool
  | [.v (.bool b)] => b
  | _ => false
def bools (n : Nat) (h : Nat → List AV) : Prop := ∀ i, i < n → h i = [bo (gz (h i))]
theorem bools_can {n : Nat} {T : Nat → Bool} : bools n (fun i => [bo (T i)]) = True := eq_true fun _ _ => rfl
theorem gz_bool {b : Bool} : gz [bo b] = b := (rfl)
abbrev rtR (n : Nat) (G : Nat → Int) (T : Nat → Bool) : AV := .rop [.ro n 1 fun i => [i64 (G i)], .ro n 1 fun i => [bo (T i)]]
def cRe (n m : Nat) (g h : Nat → List AV) : Option (List Prop × AV) → Option (List Prop × AV)
  | some (ob, r) => some ((m = n) :: ints n g :: bools n h :: ob, r)
  | none => none
theorem cRe_some {n m : Nat} {g h : Nat → List AV} {ob : List Prop} {r : AV} : cRe n m g h (some (ob, r)) = some ((m = n) :: ints n g :: bools n h :: ob, r) := (rfl)
def cRt (F : Nat → (Nat → Int) → (Nat → Bool) → List AV → Option (List Prop × AV)) : Con
  | .rop [.ro n 1 g, .ro m 1 h] :: rest => cRe n m g h (F n (gx g 0) (fun i => gz (h i)) rest)
  | _ => none
theorem cRt_eq {F : Nat → (Nat → Int) → (Nat → Bool) → List AV → Option (List Prop × AV)} {n m : Nat} {g h : Nat → List AV} {rest : List AV} : cRt F (.rop [.ro n 1 g, .ro m 1 h] :: rest) = cRe n m g h (F n (gx g 0) (fun i => gz (h i)) rest) := (rfl)
theorem R_rslots {w : World} {ρ : Env} {n : Nat} {g h : Nat → List AV} {v : Value} (h1 : ints n g) (h2 : bools n h) (hR : R w ρ (.rop [.ro n 1 g, .ro n 1 h]) v) : R w ρ (rtR n (gx g 0) fun i => gz (h i)) v := by
  refine R_ropc (cs := [.ro n 1 g, .ro n 1 h]) rfl (fun k c c' y k1 k2 k3 => ?_) hR
  match k, k1, k2 with
  | 0, k1, k2 => cases k1; cases k2; exact ro_alike (fun i hi => h1 i hi) k3
  | 1, k1, k2 => cases k1; cases k2; exact ro_alike (fun i hi => h2 i hi) k3
  | k + 2, k1, k2 => simp at k1
theorem ConOK.cRt {P : Program} {G : Ctx} {H : Hots} (hG : CtxOK P G) {f : FuncId} {fn : Func} (hf : P.funcs[f]? = some fn) {F : Nat → (Nat → Int) → (Nat → Bool) → List AV → Option (List Prop × AV)}
    (h : ∀ n X T rest ob r, F n X T rest = some (ob, r) → (∀ p ∈ ob, p) → funcOK P H fn (rest.length + 1) = true ∧ fnVC P G H fn (rtR n X T :: rest) (alk r)) : ConOK P f (Ax.cRt F) :=
  ConOK.goR (G := G) (H := H) hG hf fun l ob rr hc hob => by
    unfold Ax.cRt at hc
    split at hc
    · rename_i n g m k rest
      unfold cRe at hc
      split at hc
      · rename_i ob' r' hF
        cases hc
        have hm : m = n := hob _ (by simp)
        subst hm
        obtain ⟨h1, h2⟩ := h m (gx g 0) (fun i => gz (k i)) rest ob' rr hF fun p hp => hob p (by simp [hp])
        refine ⟨rtR m (gx g 0) (fun i => gz (k i)) :: rest, fun w I vs hR => ?_, h1, h2⟩
        obtain ⟨y, ys, rfl, k1, k2⟩ := hR.inv
        exact .cons (R_rslots (hob _ (by simp)) (hob _ (by simp)) k1) k2
      · cases hc
    · cases hc
attribute [go_sem] cRt_eq cRe_some bools_can gz_bool
theorem alk_of {r r' : AV} (h : r' = r) : alk r r' := by subst h; exact alk_refl
theorem dec0 {n : Nat} : decide (0 < (n : Int)) = decide (0 < n) := decide_eq_decide.2 (by omega)
def F124 : Nat → (Nat → Int) → (Nat → Bool) → List AV → Option (List Prop × AV)
  | n, _, _, [] => some ([], bo (decide (0 < n)))
  | _, _, _, _ => none
def k124 : Con := cRt F124
theorem con124 : ConOK Tryz.prog 124 k124 := ConOK.cRt (G := []) (H := []) .nil Tryz.func124 fun n X T rest ob r hF hob => by
  unfold F124 at hF
  split at hF
  · cases hF
    refine ⟨by kernel_rfl, fnVC_go (rs := [.tmp 2]) rfl rfl ?_⟩
    simp only [go_sem]
    rw [dec0]
    exact alk_refl
  · cases hF
def F95 : Nat → (Nat → Int) → (Nat → Bool) → List AV → Option (List Prop × AV)
  | n, _, _, [] => some ([], i64 n)
  | _, _, _, _ => none
def k95 : Con := cRt F95
theorem con95 : ConOK Tryz.prog 95 k95 := ConOK.cRt (G := [(124, k124)]) (H := []) (.cons con124 .nil) Tryz.func95 fun n X T rest ob r hF hob => by
  unfold F95 at hF
  split at hF
  · cases hF
    refine ⟨by kernel_rfl, fnVC_go (rs := [.tmp 2]) rfl rfl ?_⟩
    simp only [go_sem, k124, F124]
    intro z hz
    refine ⟨fun h => alk_of ?_, fun h => alk_refl⟩
    rw [h] at hz
    have : n = 0 := by
      have := of_decide_eq_false hz.symm
      omega
    subst this; rfl
  · cases hF
/-- Is the slot taken? -/
def rtOk (n : Nat) (T : Nat → Bool) (i : Int) : Bool := decide (0 ≤ i ∧ i < n) && T i.toNat
def F96 : Nat → (Nat → Int) → (Nat → Bool) → List AV → Option (List Prop × AV)
  | n, X, T, [.v (.int .i64 i)] => some ([0 < n], .tup [haA (if rtOk n T i = true then i else 0) (if rtOk n T i = true then X i.toNat else 0), bo (rtOk n T i)])
  | _, _, _, _ => none
def k96 : Con := cRt F96
theorem con96 : ConOK Tryz.prog 96 k96 := ConOK.cRt (G := [(124, k124)]) (H := []) (.cons con124 .nil) Tryz.func96 fun n X T rest ob r hF hob => by
  unfold F96 at hF
  split at hF
  · rename_i i
    cases hF
    have h2 : 0 < n := hob _ (by simp)
    refine ⟨by kernel_rfl, fnVC_go (rs := [.cell 4 64, .tmp 5]) rfl rfl ?_⟩
    simp only [go_sem, k124, F124, h2]
    intro z hz
    subst hz
    refine ⟨fun h => by omega, fun h => by omega, fun h => alk_of ?_, fun h => ⟨by omega, by omega, alk_of ?_⟩⟩
    · have : rtOk n T i = false := by
        unfold rtOk
        rcases h with ((h | h) | h) | h
        · cases h
        · rw [decide_eq_false (by omega)]; rfl
        · rw [decide_eq_false (by omega)]; rfl
        · rw [h, Bool.and_false]
      rw [this]; rfl
    · have : rtOk n T i = true := by
        unfold rtOk
        rw [h.2, decide_eq_true (by omega)]; rfl
      rw [this]; rfl
  · cases hF
def F97 : Nat → (Nat → Int) → (Nat → Bool) → List AV → Option (List Prop × AV)
  | n, X, T, [.v (.int .i64 i)] => some ([0 < n], i64 (if 0 ≤ i ∧ i < n then X i.toNat else 0))
  | _, _, _, _ => none
def k97 : Con := cRt F97
theorem con97 : ConOK Tryz.prog 97 k97 := ConOK.cRt (G := [(124, k124)]) (H := []) (.cons con124 .nil) Tryz.func97 fun n X T rest ob r hF hob => by
  unfold F97 at hF
  split at hF
  · rename_i i
    cases hF
    have h2 : 0 < n := hob _ (by simp)
    refine ⟨by kernel_rfl, fnVC_go (rs := [.tmp 4]) rfl rfl ?_⟩
    simp only [go_sem, k124, F124, h2]
    intro z hz
    subst hz
    refine ⟨fun h => alk_of ?_, fun h => ?_⟩
    · rw [if_neg]
      rcases h with (h | h) | h
      · cases h
      · omega
      · omega
    · have : 0 ≤ i ∧ i < (n : Int) := by omega
      exact ⟨this.1, this.2, alk_of (by rw [if_pos this])⟩
  · cases hF
def F98 : Nat → (Nat → Int) → (Nat → Bool) → List AV → Option (List Prop × AV)
  | n, X, T, [.agg [.v (.int .i64 s), .v (.int .i64 g)]] => some ([0 < n], bo (rtOk n T s && (X s.toNat == g)))
  | _, _, _, _ => none
def k98 : Con := cRt F98
theorem con98 : ConOK Tryz.prog 98 k98 := ConOK.cRt (G := [(124, k124)]) (H := []) (.cons con124 .nil) Tryz.func98 fun n X T rest ob r hF hob => by
  unfold F98 at hF
  split at hF
  · rename_i s g
    cases hF
    have h2 : 0 < n := hob _ (by simp)
    refine ⟨by kernel_rfl, fnVC_go (rs := [.tmp 4]) rfl rfl ?_⟩
    simp only [go_sem, k124, F124, h2]
    intro z hz
    subst hz
    refine ⟨fun h => by omega, fun h => by omega, fun h => by omega, fun h => by omega, alk_of ?_⟩
    unfold rtOk
    rw [Bool.true_and, Bool.decide_and]
  · cases hF
/-- The handles of the slots below i that are taken. -/
def rtL (n : Nat) (X : Nat → Int) (T : Nat → Bool) : Nat → List (Int × Int)
  | 0 => []
  | i + 1 => rtL n X T i ++ (if rtOk n T i = true then [((i : Int), X i)] else [])
theorem rtL_le {n : Nat} {X : Nat → Int} {T : Nat → Bool} : ∀ i, (rtL n X T i).length ≤ i
  | 0 => Nat.le_refl _
  | i + 1 => by
    simp only [rtL, List.length_append]
    have := rtL_le (n := n) (X := X) (T := T) i
    split <;> simp <;> omega
def F93 : Nat → (Nat → Int) → (Nat → Bool) → List AV → Option (List Prop × AV)
  | n, X, T, [] => some ([0 < n, n ≤ 64], lsA (rtL n X T n))
  | _, _, _, _ => none
def k93 : Con := cRt F93
theorem con93 : ConOK Tryz.prog 93 k93 := ConOK.cRt (G := [(95, k95), (96, k96)]) (H := []) (.cons con95 (.cons con96 .nil)) Tryz.func93 fun n X T rest ob r hF hob => by
  unfold F93 at hF
  split at hF
  · cases hF
    have h2 : 0 < n := hob _ (by simp)
    have h3 : n ≤ 64 := hob _ (by simp)
    refine ⟨by kernel_rfl, fnVC_go (rs := [.tmp 2]) rfl rfl ?_⟩
    simp only [go_sem, k95, k96]
    refine loopN_go (fun (i : Nat) => i ≤ n) (fun i => n - i) (fun i => [(4, i64 i), (3, .own 3 0 (rtL n X T i).length 2)]) (fun i => [(3, famN (rtL n X T i).length 2 64 (lsF (rtL n X T i)) none)]) [] [7, 8, 9, 10, 14, 15, 16, 13, 17, 18, 5, 6, 19, 20, 21, 22, 23, 3, 11, 12, 4] 1 0 (by kernel_rfl) (Nat.zero_le _) ⟨[(3, none)], ?_, ?_, ?_, ?_⟩ ?_
    · simp only [go_sem]; simp [rtL]
    · simp only [go_sem]; simp [rtL]
    · simp only [go_sem]
    · simp [goodNames, asg]
    intro i hi
    simp only [go_sem, k95, k96, F95, F96, h2, h3]
    have hle := rtL_le (n := n) (X := X) (T := T) i
    intro zz hzz
    subst hzz
    have eT : (fun i => T i) = T := rfl
    rw [eT]
    refine ⟨fun h z hz => ⟨fun ht => ⟨?_, by omega, fun z1 k1 => ⟨i + 1, by omega, by omega, [(3, some 21)], ?_⟩⟩, fun hf z1 k1 => ⟨i + 1, by omega, by omega, [(3, some 3)], ?_⟩⟩, fun h => ?_⟩
    · have hb : bytesT Tryz.prog 64 = 16 := by kernel_rfl
      rw [hb]; omega
    · rw [ht] at hz
      have e : rtL n X T (i + 1) = rtL n X T i ++ [((i : Int), X i)] := by simp only [rtL]; rw [← hz]; rfl
      rw [e, List.length_append, List.length_singleton, if_pos hz.symm, if_pos hz.symm]
      simp only [go_sem]
      refine ⟨by rw [k1, wrap_in (by unfold inR; omega)]; omega, fun q hq => ?_, by simp [goodNames, asg]⟩
      rw [lsF_push hq]
      exact fitL_clean rfl
    · rw [hf] at hz
      have e : rtL n X T (i + 1) = rtL n X T i := by simp only [rtL]; rw [← hz]; simp
      rw [e]
      simp only [go_sem]
      exact ⟨by rw [k1, wrap_in (by unfold inR; omega)]; omega, fun q hq => fitL_clean rfl, by simp [goodNames, asg]⟩
    · have e : i = n := by omega
      subst e
      exact alk_ro fun j hj => by simp only [lsF, go_sem]
  · cases hF
def F94 : Nat → (Nat → Int) → (Nat → Bool) → List AV → Option (List Prop × AV)
  | n, X, T, [] => some ([0 < n, n ≤ 64], i64 (rtL n X T n).length)
  | _, _, _, _ => none
def k94 : Con := cRt F94
theorem con94 : ConOK Tryz.prog 94 k94 := ConOK.cRt (G := [(93, k93)]) (H := []) (.cons con93 .nil) Tryz.func94 fun n X T rest ob r hF hob => by
  unfold F94 at hF
  split at hF
  · cases hF
    have h2 : 0 < n := hob _ (by simp)
    have h3 : n ≤ 64 := hob _ (by simp)
    refine ⟨by kernel_rfl, fnVC_go (rs := [.tmp 2]) rfl rfl ?_⟩
    simp only [go_sem, k93, F93, h2, h3]
    exact alk_refl
  · cases hF
end Go.Ax
end

section
/-
  The reference's table of slots, ars an object; what makes and writes it.
-/
set_option linter.unusedVariables false
set_option linter.unusedSimpArgs false
set_option maxHeartbeats 4000000
set_option maxRecDepth 100000
namespace Go.Ax
open Go.Proofs
structure RtS where
  n : Nat
  G : Nat → Int
  T : Nat → Bool
  tl : Fam
def rtF (K : Nat) (s : RtS) : Fam := famR [⟨1, 2, 125, fun _ => [.own K 1 s.n 1, .own K 2 s.n 1], none⟩, ⟨s.n, 1, 3, fun i => [i64 (s.G i)], none⟩, ⟨s.n, 1, 4, fun i => [bo (s.T i)], none⟩] s.tl
theorem rtF_eq {K : Nat} {s : RtS} : rtF K s = famR [⟨1, 2, 125, fun _ => [.own K 1 s.n 1, .own K 2 s.n 1], none⟩, ⟨s.n, 1, 3, fun i => [i64 (s.G i)], none⟩, ⟨s.n, 1, 4, fun i => [bo (s.T i)], none⟩] s.tl := (rfl)
theorem rtF_inj {K : Nat} {s t : RtS} (h : rtF K s = rtF K t) : s = t := by
  obtain ⟨n, G, T, tl⟩ := s
  obtain ⟨n', G', T', tl'⟩ := t
  have h1 := congrFun h 1
  have h2 := congrFun h 2
  simp only [rtF, famR_1, famR_2, Row.mk.injEq, true_and, and_true] at h1 h2
  obtain ⟨rfl, h1⟩ := h1
  have e1 : G = G' := by
    funext i
    have := congrFun h1 i
    simpa using this
  have e2 : T = T' := by
    funext i
    have := congrFun h2.2 i
    simpa using this
  have e3 : tl = tl' := by
    funext f
    exact congrFun h (f + 3)
  rw [e1, e2, e3]
theorem rtF_ren {s : RtS} (h : tlOK s.tl) {θ : Nat → Nat → Nat × Nat} {g : Nat → Nat → Prop} {B : Nat → Prop} {i K : Nat} (hθ : ∀ f, θ i f = (K, f)) (hg : ∀ f, g i f) (f : Nat) : rowRen θ g B (rtF i s f) (rtF K s f) := by
  match f with
  | 0 =>
    refine ⟨rfl, rfl, rfl, rfl, fun j hj => ⟨?_, fun c hc => ?_⟩⟩
    · show [AV.own K 1 s.n 1, AV.own K 2 s.n 1] = [AV.own (θ i 1).1 (θ i 1).2 s.n 1, AV.own (θ i 2).1 (θ i 2).2 s.n 1]
      rw [hθ, hθ]
    · have hc : c ∈ [AV.own i 1 s.n 1, AV.own i 2 s.n 1] := hc
      simp only [List.mem_cons, List.not_mem_nil, or_false] at hc
      rcases hc with rfl | rfl
      · exact hg 1
      · exact hg 2
  | 1 =>
    refine ⟨rfl, rfl, rfl, rfl, fun j hj => ⟨rfl, fun c hc => ?_⟩⟩
    have hc : c ∈ [i64 (s.G j)] := hc
    simp only [List.mem_cons, List.not_mem_nil, or_false] at hc
    subst hc
    trivial
  | 2 =>
    refine ⟨rfl, rfl, rfl, rfl, fun j hj => ⟨rfl, fun c hc => ?_⟩⟩
    have hc : c ∈ [bo (s.T j)] := hc
    simp only [List.mem_cons, List.not_mem_nil, or_false] at hc
    subst hc
    trivial
  | f + 3 => exact rowRen_tl h f
def oR : Obj RtS where
  fm := rtF
  ok s := tlOK s.tl
  inj _ _ _ h := rtF_inj h
  ren _ h _ _ _ _ _ h1 h2 f := rtF_ren h h1 h2 f
  gn K s h f := match f with
    | 0 => rfl
    | 1 => rfl
    | 2 => rfl
    | f + 3 => (h f).1
theorem oR_fm {K : Nat} {s : RtS} : oR.fm K s = rtF K s := (rfl)
theorem at_R {K : Nat} {m : Mem} {x : RtS} : oR.at K m (some x) = (look m K = some (rtF K x)) := (rfl)
theorem mcOe_R {F : OFun RtS} {K key : Nat} {rest : List AV} {n : Nat} {X : Nat → Int} {T : Nat → Bool} {tl : Fam} : mcOe oR F K key rest (some (famR [⟨1, 2, 125, fun _ => [.own K 1 n 1, .own K 2 n 1], none⟩, ⟨n, 1, 3, fun i => [i64 (X i)], none⟩, ⟨n, 1, 4, fun i => [bo (T i)], none⟩] tl)) = mcOf oR K key ⟨n, X, T, tl⟩ (F ⟨n, X, T, tl⟩ rest) := mcOe_fm (O := oR) (x := ⟨n, X, T, tl⟩)
theorem fam_R {K : Nat} {s : RtS} : oR.fam K (some s) = famR [⟨1, 2, 125, fun _ => [.own K 1 s.n 1, .own K 2 s.n 1], none⟩, ⟨s.n, 1, 3, fun i => [i64 (s.G i)], none⟩, ⟨s.n, 1, 4, fun i => [bo (s.T i)], none⟩] s.tl := (rfl)
theorem ok_R {s : RtS} : oR.ok s = tlOK s.tl := (rfl)
theorem okO_R {s : RtS} : oR.okO (some s) = tlOK s.tl := (rfl)
attribute [go_sem] mcOe_R fam_R ok_R okO_R
/-- May the slot be taken? -/
def mayR (T : Nat → Bool) (X : Nat → Int) (i : Nat) : Bool := !T i && decide (X i < 2147483647)
def upB (T : Nat → Bool) (i : Nat) (v : Bool) : Nat → Bool := fun j => if j = i then v else T j
def tkJ (s : RtS) : Nat := lst (mayR s.T s.G) s.n
def rkH (s : RtS) : Int × Int := if tkJ s < s.n then ((tkJ s : Int), s.G (tkJ s) + 1) else (0, 0)
def rkE (s : RtS) : Int := if tkJ s < s.n then 0 else 10
def rkS (s : RtS) : RtS := if tkJ s < s.n then ⟨s.n, upI s.G (tkJ s) (s.G (tkJ s) + 1), upB s.T (tkJ s) true, s.tl⟩ else s
def rtOK (s : RtS) : Prop := (0 < s.n ∧ s.n ≤ 64) ∧ ∀ i, i < s.n → 0 ≤ s.G i
def F100 : OFun RtS := fun s rest => match rest with
  | [] => some ([rtOK s], fun _ => .tup [haA (rkH s).1 (rkH s).2, i64 (rkE s)], some (rkS s), fun _ => none)
  | _ => none
noncomputable def m100 : MCon := mcO oR F100
theorem mon100 : MConOK Tryz.prog 100 m100 := MConOK.mcO (G := [(124, k124)]) (H := []) (.cons con124 .nil) Tryz.func100 fun s rest ob v x' nw hF hok hok' hob => by
  unfold F100 at hF
  split at hF
  · cases hF
    obtain ⟨⟨h2, h3⟩, h4⟩ : rtOK s := hob _ (by simp)
    clear hok' hob
    refine ⟨by simp, by kernel_rfl, fun key => bodyM_go (rs := [.cell 2 64, .tmp 3]) rfl rfl ?_⟩
    obtain ⟨n, X, T, tl⟩ := s
    dsimp only at h2 h3 h4
    simp only [oR_fm, rtF, go_sem, k124, F124]
    have htl : tlOK tl := hok
    intro z hz
    have hz : z = true := by rw [hz]; exact decide_eq_true h2
    subst hz
    simp only [Bool.true_eq_false, false_imp_iff, true_imp_iff, true_and]
    refine loopN_go (fun (i : Nat) => i ≤ n ∧ ∀ j, j < i → mayR T X j = false) (fun i => n - i) (fun i => [(4, i64 i)]) (fun i => []) [0, 1] [9, 10, 11, 12, 13, 14, 15, 18, 19, 20, 21, 22, 23, 24, 25, 26, 27, 28, 29, 30, 31, 32, 33, 34, 35, 36, 37, 38, 39, 40, 41, 42, 43, 44, 45, 46, 47, 48, 49, 50, 51, 52, 53, 54, 55, 56, 57, 58, 59, 3, 16, 17, 4] 0 0 (by kernel_rfl) ⟨Nat.zero_le _, fun j hj => by omega⟩ ⟨[], ?_, ?_, ?_, ?_⟩ ?_
    · simp only [go_sem]
    · simp only [go_sem]
    · simp only [go_sem]
    · simp [goodNames, asg]
    rintro i ⟨hi, hj⟩
    simp only [go_sem, k124, F124, htl]
    refine ⟨fun h => ⟨by omega, h, by omega, fun _ => by omega, fun _ => by omega, fun _ => by omega, fun _ => trivial, fun ht => ⟨by omega, h, by omega, fun z2 k2 => ⟨by omega, h, by omega, by omega, h, by omega, by omega, h, by omega, ?_⟩⟩, fun hf z k1 => ?_⟩, fun h => ?_⟩
    · have hp : mayR T X i = true := by
        unfold mayR
        rw [ht.1, decide_eq_true ht.2]; rfl
      have hlt : i < n := by omega
      have e : tkJ ⟨n, X, T, tl⟩ = i := lst_eq hj hlt hp
      have hx := h4 i hlt
      have k2 : z2 = X i + 1 := by rw [k2]; exact wrap_in (by unfold inR; omega)
      subst k2
      simp only [rkS, rkH, rkE, e, hlt, if_true]
      refine ⟨?_, newP_none rfl⟩
      rw [at_R]
      have e1 : (fun j => if j = i then [i64 (X i + 1)] else [i64 (X j)]) = fun j => [i64 (upI X i (X i + 1) j)] := by
        funext j
        unfold upI
        split <;> rfl
      have e2 : (fun j => if j = i then [bo true] else [bo (T j)]) = fun j => [bo (upB T i true j)] := by
        funext j
        unfold upB
        split <;> rfl
      simp only [go_sem, rtF, e1, e2]
    · have hp : mayR T X i = false := hf
      refine ⟨i + 1, ⟨by omega, fun j hj2 => ?_⟩, by omega, [], by rw [k1, wrap_in (by unfold inR; omega)]; omega, by simp [goodNames, asg]⟩
      by_cases e : j = i
      · subst e; exact hp
      · exact hj j (by omega)
    · have e : tkJ ⟨n, X, T, tl⟩ = n := by
        unfold tkJ
        exact lst_full fun j hj2 => hj j (by have hj2 : j < n := hj2; omega)
      have hn : ¬ n < n := Nat.lt_irrefl _
      simp only [rkS, rkH, rkE, e, hn, if_false]
      exact ⟨rfl, newP_none rfl⟩
  · cases hF
def rsI (s : RtS) (a g : Int) : Bool := rtOk s.n s.T a && (s.G a.toNat == g)
def rrS (s : RtS) (a g : Int) : RtS := if rsI s a g = true then ⟨s.n, s.G, upB s.T a.toNat false, s.tl⟩ else s
def F101 : OFun RtS := fun s rest => match rest with
  | [.agg [.v (.int .i64 a), .v (.int .i64 g)]] => some ([rtOK s], fun _ => i64 (if rsI s a g = true then 0 else 9), some (rrS s a g), fun _ => none)
  | _ => none
noncomputable def m101 : MCon := mcO oR F101
theorem mon101 : MConOK Tryz.prog 101 m101 := MConOK.mcO (G := [(124, k124), (98, k98)]) (H := [(5, ⟨[(7, .slot 0)], []⟩)]) (.cons con124 (.cons con98 .nil)) Tryz.func101 fun s rest ob v x' nw hF hok hok' hob => by
  unfold F101 at hF
  split at hF
  · rename_i a g
    cases hF
    obtain ⟨⟨h2, h3⟩, h4⟩ : rtOK s := hob _ (by simp)
    clear hok' hob
    refine ⟨by simp [clean, cleanCs, cleanC], by kernel_rfl, fun key => bodyM_go (rs := [.tmp 4]) rfl rfl ?_⟩
    obtain ⟨n, X, T, tl⟩ := s
    dsimp only at h2 h3 h4
    have htl : tlOK tl := hok
    simp only [oR_fm, rtF, go_sem, k124, k98, F124, F98, h2]
    intro z hz
    subst hz
    refine ⟨fun h => (by cases h), fun _ z1 hz1 => ?_⟩
    have e : rsI ⟨n, X, T, tl⟩ a g = z1 := hz1.symm
    refine ⟨fun hf => ?_, fun ht => ?_⟩
    · simp only [rrS, e, hf, Bool.false_eq_true, if_false]
      exact ⟨rfl, newP_none rfl⟩
    · have hb : 0 ≤ a ∧ a < n := by
        have : rtOk n T a = true := by
          rw [ht] at hz1; exact (Bool.and_eq_true _ _ ▸ hz1.symm).1
        unfold rtOk at this
        rw [Bool.and_eq_true, decide_eq_true_iff] at this
        exact this.1
      simp only [rrS, e, ht, if_true]
      refine ⟨hb.1, hb.2, by omega, ?_, newP_none rfl⟩
      rw [at_R]
      have e2 : (fun j => if j = a.toNat then [bo false] else [bo (T j)]) = fun j => [bo (upB T a.toNat false j)] := by
        funext j
        unfold upB
        split <;> rfl
      simp only [go_sem, rtF, e2]
  · cases hF
/-- A table of the reference that is made. -/
theorem newRt {key N r1 r2 r3 : Nat} {n : Nat} {X : Nat → Int} {T : Nat → Bool} {m1 : Mem} {v : Nat → AV} (hv : ∀ θ r, renA θ 3 (v r) = v (θ r 0).1) (hk : ∀ G B r, B r → kg G B 3 (v r)) (h1 : look m1 r1 = some (fam1 125 2 [.own r2 0 n 1, .own r3 0 n 1] none)) (h2 : look m1 r2 = some (famN n 1 3 (fun i => [i64 (X i)]) none)) (h3 : look m1 r3 = some (famN n 1 4 (fun i => [bo (T i)]) none)) (h12 : r1 ≠ r2) (h13 : r1 ≠ r3) (h23 : r2 ≠ r3) (N1 : N ≤ r1) (N2 : N ≤ r2) (N3 : N ≤ r3) : NewP key N (v r1) m1 (v key) (some (rtF key ⟨n, X, T, noRows⟩)) := by
  have ix1 : ixP [(r1, 0), (r2, 0), (r3, 0)] r1 0 = 0 := by simp [ixP]
  have ix2 : ixP [(r1, 0), (r2, 0), (r3, 0)] r2 0 = 1 := by simp [ixP, h12]
  have ix3 : ixP [(r1, 0), (r2, 0), (r3, 0)] r3 0 = 2 := by simp [ixP, h13, h23]
  refine newP_list [(r1, 0), (r2, 0), (r3, 0)] (by simp [h12, h13, h23]) (by simp [N1, N2, N3]) (hk _ _ _ (.inr rfl)) (fun ks hks => ?_) (fun ks hks f r g hf => ?_) (fun f hf => ?_)
  · rw [hv]
    simp only [thL]
    rw [if_neg (by omega)]
  · match f, hf with
    | 0, hf =>
      cases hf
      refine ⟨_, h1, ⟨rfl, rfl, rfl, rfl, fun j hj => ⟨?_, fun c hc => ?_⟩⟩, by simp [fam1]⟩
      · show [AV.own key 1 n 1, AV.own key 2 n 1] = [AV.own (thL ks key (ixP [(r1, 0), (r2, 0), (r3, 0)]) r2 0).1 (thL ks key (ixP [(r1, 0), (r2, 0), (r3, 0)]) r2 0).2 n 1, AV.own (thL ks key (ixP [(r1, 0), (r2, 0), (r3, 0)]) r3 0).1 (thL ks key (ixP [(r1, 0), (r2, 0), (r3, 0)]) r3 0).2 n 1]
        simp only [thL]
        rw [if_neg (by omega), if_neg (by omega), ix2, ix3]
      · have hc : c ∈ [AV.own r2 0 n 1, .own r3 0 n 1] := hc
        simp only [List.mem_cons, List.not_mem_nil, or_false] at hc
        rcases hc with rfl | rfl
        · exact .inr (by rw [ix2]; rfl)
        · exact .inr (by rw [ix3]; rfl)
    | 1, hf =>
      cases hf
      refine ⟨_, h2, ⟨rfl, rfl, rfl, rfl, fun j hj => ⟨rfl, fun c hc => ?_⟩⟩, by simp [famN]⟩
      have hc : c ∈ [i64 (X j)] := hc
      simp only [List.mem_cons, List.not_mem_nil, or_false] at hc
      subst hc; trivial
    | 2, hf =>
      cases hf
      refine ⟨_, h3, ⟨rfl, rfl, rfl, rfl, fun j hj => ⟨rfl, fun c hc => ?_⟩⟩, by simp [famN]⟩
      have hc : c ∈ [bo (T j)] := hc
      simp only [List.mem_cons, List.not_mem_nil, or_false] at hc
      subst hc; trivial
    | f + 3, hf => simp at hf
  · match f, hf with
    | f + 3, _ => rfl
noncomputable def F46 : List AV → Option (List Prop × (Nat → AV) × (Nat → Option Fam))
  | [.v (.int .i64 n)] => if 1 ≤ n ∧ n ≤ 64 then some ([], fun k => .tup [.bx k 0, i64 0], fun k => some (rtF k ⟨n.toNat, fun _ => 0, fun _ => false, noRows⟩)) else some ([], fun _ => .tup [.v (.pointer none), i64 3], fun _ => none)
  | _ => none
noncomputable def m46 : MCon := mcK F46
theorem mon46 : MConOK Tryz.prog 46 m46 := MConOK.mcK (G := []) (H := []) .nil Tryz.func46 fun es ob v nw hF hob => by
  unfold F46 at hF
  split at hF
  · rename_i n
    refine ⟨by simp [clean], by kernel_rfl, fun key => bodyM_go (rs := [.tmp 2, .tmp 3]) rfl rfl ?_⟩
    simp only [go_sem]
    refine ⟨fun h => ?_, fun h => ?_⟩
    · rw [if_neg (by omega)] at hF
      cases hF
      exact newP_none rfl
    · rw [if_pos (by omega)] at hF
      cases hF
      have hb : bytesT Tryz.prog 3 = 8 := by kernel_rfl
      have hb4 : bytesT Tryz.prog 4 = 1 := by kernel_rfl
      have hN := newRt (key := key) (N := 0) (v := fun k => .tup [.bx k 0, i64 0]) (n := n.toNat) (X := fun _ => 0) (T := fun _ => false) (r1 := 13) (r2 := 9) (r3 := 11) (m1 := [(13, fam1 125 2 [.own 9 0 n.toNat 1, .own 11 0 n.toNat 1] none), (11, famN n.toNat 1 4 (fun x => [bo false]) none), (9, famN n.toNat 1 3 (fun x => [i64 0]) none)]) (fun _ _ => rfl) (fun G B r hr c hc => by
        simp only [List.mem_cons, List.not_mem_nil, or_false] at hc
        rcases hc with rfl | rfl
        · exact hr
        · trivial) rfl rfl rfl (by decide) (by decide) (by decide) (Nat.zero_le _) (Nat.zero_le _) (Nat.zero_le _)
      exact ⟨by omega, by omega, by rw [hb]; omega, by omega, by omega, by rw [hb4]; omega, hN⟩
  · cases hF
theorem famNK_R {key : Nat} {n : Nat} {X : Nat → Int} {T : Nat → Bool} : famNK key (rtF key ⟨n, X, T, noRows⟩) = True := eq_true fun f j hj c hc => by
  match f with
  | 0 =>
    have hc : c ∈ [AV.own key 1 n 1, .own key 2 n 1] := hc
    simp only [List.mem_cons, List.not_mem_nil, or_false] at hc
    rcases hc with rfl | rfl <;> rfl
  | 1 =>
    have hc : c ∈ [i64 (X j)] := hc
    simp only [List.mem_cons, List.not_mem_nil, or_false] at hc
    subst hc; trivial
  | 2 =>
    have hc : c ∈ [bo (T j)] := hc
    simp only [List.mem_cons, List.not_mem_nil, or_false] at hc
    subst hc; trivial
  | f + 3 => have hj : j < 0 := hj; omega
attribute [go_sem] famNK_R
noncomputable def F99 : List AV → Option (List Prop × (Nat → AV) × (Nat → Option Fam))
  | [.rop [.ro n 1 g, .ro m 1 h]] => some ([0 < n, n ≤ 64, m = n, ints n g, bools n h], fun k => .bx k 0, fun k => some (rtF k ⟨n, gx g 0, fun i => gz (h i), noRows⟩))
  | _ => none
noncomputable def mN99 : MCon := mcKU F99
theorem mN99_eq : mN99 = mcKU F99 := (rfl)
attribute [go_sem] mN99_eq
theorem mon99 : MConOK Tryz.prog 99 mN99 := MConOK.mkU (G := [(124, k124)]) (H := [(3, ⟨[(5, .made 0)], [(6, [.made 0]), (10, [.made 0])]⟩)]) (.cons con124 .nil) Tryz.func99 fun es ob v nw hF hob => by
  unfold F99 at hF
  split at hF
  · rename_i n g m h
    cases hF
    have h2 : 0 < n := hob _ (by simp)
    have h64 : n ≤ 64 := hob _ (by simp)
    have hm : m = n := hob _ (by simp)
    subst hm
    have h3 : ints m g := hob _ (by simp)
    have h4 : bools m h := hob _ (by simp)
    refine ⟨[rtR m (gx g 0) fun i => gz (h i)], fun w I vs hR => ?_, by simp [clean], by kernel_rfl, fun key => bodyM_go (rs := [.tmp 2]) rfl rfl ?_⟩
    · obtain ⟨y, ys, rfl, k1, k2⟩ := hR.inv
      exact .cons (R_rslots h3 h4 k1) k2
    simp only [go_sem, k124, h2, F124]
    have hb : bytesT Tryz.prog 3 = 8 := by kernel_rfl
    have hb4 : bytesT Tryz.prog 4 = 1 := by kernel_rfl
    intro z hz
    subst hz
    refine ⟨fun h => (by cases h), fun _ => ⟨okCells_all fun i => rfl, by rw [hb]; omega, by omega, okCells_all fun i => rfl, by rw [hb4]; omega, by omega, ?_⟩⟩
    simp only [Nat.zero_add, Nat.not_lt_zero, if_false, Nat.sub_zero]
    exact newRt (v := fun k => .bx k 0) (X := fun i => gi (g i) 0) (T := fun i => gz (h i)) (r2 := 9) (r3 := 15) (fun _ _ => rfl) (fun G B r hr => hr) rfl rfl rfl (by decide) (by decide) (by decide) (Nat.zero_le _) (Nat.zero_le _) (Nat.zero_le _)
  · cases hF
def F53 : List AV → Option (List Prop × (Nat → AV) × (Nat → Option Fam))
  | [.ro n 1 g] => some ([n ≤ 100000, ints n g], fun k => .own k 0 n 1, fun k => some (famN n 1 3 (fun i => [i64 (gx g 0 i)]) none))
  | _ => none
noncomputable def mN53 : MCon := mcKU F53
theorem mN53_eq : mN53 = mcKU F53 := (rfl)
theorem mon53 : MConOK Tryz.prog 53 mN53 := MConOK.mkU (G := []) (H := []) .nil Tryz.func53 fun es ob v nw hF hob => by
  unfold F53 at hF
  split at hF
  · rename_i n g
    cases hF
    have h2 : n ≤ 100000 := hob _ (by simp)
    have h3 : ints n g := hob _ (by simp)
    refine ⟨[.ro n 1 fun i => [i64 (gx g 0 i)]], fun w I vs hR => ?_, by simp [clean], by kernel_rfl, fun key => bodyM_go (rs := [.tmp 2]) rfl rfl ?_⟩
    · obtain ⟨y, ys, rfl, k1, k2⟩ := hR.inv
      exact .cons (ro_alike (fun i hi => h3 i hi) k1) k2
    simp only [go_sem, h2]
    have hb : bytesT Tryz.prog 3 = 8 := by kernel_rfl
    refine ⟨okCells_all fun i => rfl, by rw [hb]; omega, by omega, ?_⟩
    simp only [Nat.zero_add, Nat.not_lt_zero, if_false, Nat.sub_zero]
    exact newN rfl (Nat.zero_le _) fun j hj => ⟨rfl, fun c hc => by
      have hc : c ∈ [i64 (gi (g j) 0)] := hc
      simp only [List.mem_cons, List.not_mem_nil, or_false] at hc
      subst hc; rfl⟩
  · cases hF
def F54 : List AV → Option (List Prop × (Nat → AV) × (Nat → Option Fam))
  | [.ro n 1 g] => some ([n ≤ 100000, bools n g], fun k => .own k 0 n 1, fun k => some (famN n 1 4 (fun i => [bo (gz (g i))]) none))
  | _ => none
noncomputable def mN54 : MCon := mcKU F54
theorem mN54_eq : mN54 = mcKU F54 := (rfl)
theorem mon54 : MConOK Tryz.prog 54 mN54 := MConOK.mkU (G := []) (H := []) .nil Tryz.func54 fun es ob v nw hF hob => by
  unfold F54 at hF
  split at hF
  · rename_i n g
    cases hF
    have h2 : n ≤ 100000 := hob _ (by simp)
    have h3 : bools n g := hob _ (by simp)
    refine ⟨[.ro n 1 fun i => [bo (gz (g i))]], fun w I vs hR => ?_, by simp [clean], by kernel_rfl, fun key => bodyM_go (rs := [.tmp 2]) rfl rfl ?_⟩
    · obtain ⟨y, ys, rfl, k1, k2⟩ := hR.inv
      exact .cons (ro_alike (fun i hi => h3 i hi) k1) k2
    simp only [go_sem, h2]
    have hb : bytesT Tryz.prog 4 = 1 := by kernel_rfl
    refine ⟨okCells_all fun i => rfl, by rw [hb]; omega, by omega, ?_⟩
    simp only [Nat.zero_add, Nat.not_lt_zero, if_false, Nat.sub_zero]
    exact newN rfl (Nat.zero_le _) fun j hj => ⟨rfl, fun c hc => by
      have hc : c ∈ [bo (gz (g j))] := hc
      simp only [List.mem_cons, List.not_mem_nil, or_false] at hc
      subst hc; rfl⟩
  · cases hF
end Go.Ax
end

section
/-
  Tables that are restored: the program's, and the reference's.
-/
set_option linter.unusedVariables false
set_option linter.unusedSimpArgs false
set_option maxHeartbeats 4000000
set_option maxRecDepth 100000
namespace Go.Ax
open Go.Proofs
/-! ### A mark in a table whose generations are a row of their own -/
theorem fam1_inj {ty sz : Nat} {l l' : List AV} {g : Option Bool} (h : fam1 ty sz l g = fam1 ty sz l' g) : l = l' := by
  have h0 := congrFun h 0
  simp only [fam1, if_true, Row.mk.injEq, true_and, and_true] at h0
  exact congrFun h0 0
theorem famN_inj {n sz ty : Nat} {X X' : Nat → List AV} {g : Option Bool} (h : famN n sz ty X g = famN n sz ty X' g) : X = X' := by
  have h0 := congrFun h 0
  simp only [famN, if_true, Row.mk.injEq, true_and, and_true] at h0
  exact h0
open Classical in
noncomputable def dW (fam : Fam) : Option (Int × Nat × Nat) := if h : ∃ q : Int × Nat × Nat, fam = fam1 100 2 [u64 q.1, .own q.2.1 0 q.2.2 1] none then some (Classical.choose h) else none
theorem dW_fam {x : Int} {b n : Nat} : dW (fam1 100 2 [u64 x, .own b 0 n 1] none) = some (x, b, n) := by
  have h : ∃ q : Int × Nat × Nat, fam1 100 2 [u64 x, .own b 0 n 1] none = fam1 100 2 [u64 q.1, .own q.2.1 0 q.2.2 1] none := ⟨(x, b, n), rfl⟩
  unfold dW
  rw [dif_pos h]
  have h2 := Classical.choose_spec h
  generalize Classical.choose h = q at h2
  obtain ⟨x', b', n'⟩ := q
  have := fam1_inj h2
  simp at this
  obtain ⟨rfl, rfl, rfl⟩ := this
  rfl
theorem dW_some {fam : Fam} {x : Int} {b n : Nat} (h : dW fam = some (x, b, n)) : fam = fam1 100 2 [u64 x, .own b 0 n 1] none := by
  unfold dW at h
  split at h
  · rename_i hh
    have h2 := Classical.choose_spec hh
    have h : Classical.choose hh = (x, b, n) := Option.some.inj h
    rw [h] at h2
    exact h2
  · cases h
open Classical in
noncomputable def dG (n : Nat) (fam : Fam) : Option (Nat → Int) := if h : ∃ X : Nat → Int, fam = famN n 1 3 (fun i => [i64 (X i)]) none then some (Classical.choose h) else none
theorem dG_fam {n : Nat} {X : Nat → Int} : dG n (famN n 1 3 (fun i => [i64 (X i)]) none) = some X := by
  have h : ∃ Y : Nat → Int, famN n 1 3 (fun i => [i64 (X i)]) none = famN n 1 3 (fun i => [i64 (Y i)]) none := ⟨X, rfl⟩
  unfold dG
  rw [dif_pos h]
  have h2 := Classical.choose_spec h
  generalize Classical.choose h = Y at h2
  have h3 := famN_inj h2
  have : X = Y := by
    funext i
    have := congrFun h3 i
    simpa using this
  rw [this]
theorem dG_some {n : Nat} {fam : Fam} {X : Nat → Int} (h : dG n fam = some X) : fam = famN n 1 3 (fun i => [i64 (X i)]) none := by
  unfold dG at h
  split at h
  · rename_i hh
    have h2 := Classical.choose_spec hh
    have h : Classical.choose hh = X := Option.some.inj h
    rw [h] at h2
    exact h2
  · cases h
noncomputable def w89c (K : Nat) (i x : Int) (b n : Nat) : Option (Nat → Int) → Option Eff
  | some X => some ⟨[K ≠ b, 0 ≤ x, x < 18446744073709551616, 0 ≤ i, i < 64], .tup [], .many [(K, fam1 100 2 [u64 (setX x i), .own b 0 n 1] none), (b, famN n 1 3 (fun i => [i64 (X i)]) none)] none⟩
  | none => none
noncomputable def w89b (K : Nat) (i x : Int) (b n : Nat) : Option Fam → Option Eff
  | some fam => w89c K i x b n (dG n fam)
  | none => none
noncomputable def w89d (K : Nat) (i : Int) (m : Mem) : Option (Int × Nat × Nat) → Option Eff
  | some (x, b, n) => w89b K i x b n (look m b)
  | none => none
noncomputable def w89a (K : Nat) (i : Int) (m : Mem) : Option Fam → Option Eff
  | some fam => w89d K i m (dW fam)
  | none => none
noncomputable def m89W : MCon := fun key m es => match es with
  | [.bx K 0, .v (.int .i64 i)] => w89a K i m (look m K)
  | _ => none
theorem m89W_eq {key K : Nat} {m : Mem} {i : Int} : m89W key m [.bx K 0, i64 i] = w89a K i m (look m K) := (rfl)
theorem w89a_fam {K : Nat} {i : Int} {m : Mem} {x : Int} {b n : Nat} : w89a K i m (some (fam1 100 2 [u64 x, .own b 0 n 1] none)) = w89b K i x b n (look m b) := by
  unfold w89a
  dsimp only
  rw [dW_fam]
  rfl
theorem w89b_fam {K : Nat} {i : Int} {x : Int} {b n : Nat} {X : Nat → Int} : w89b K i x b n (some (famN n 1 3 (fun i => [i64 (X i)]) none)) = some ⟨[K ≠ b, 0 ≤ x, x < 18446744073709551616, 0 ≤ i, i < 64], .tup [], .many [(K, fam1 100 2 [u64 (setX x i), .own b 0 n 1] none), (b, famN n 1 3 (fun i => [i64 (X i)]) none)] none⟩ := by
  unfold w89b
  dsimp only
  rw [dG_fam]
  rfl
theorem row1_ren {θ : Nat → Nat → Nat × Nat} {g : Nat → Nat → Prop} {B : Nat → Prop} {x : Int} {b n : Nat} (hθ : θ 1 0 = (b, 0)) (hg : g 1 0) (f : Nat) : rowRen θ g B (fam1 100 2 [u64 x, .own 1 0 n 1] none f) (fam1 100 2 [u64 x, .own b 0 n 1] none f) := by
  by_cases hf : f = 0
  · subst hf
    refine ⟨rfl, rfl, rfl, rfl, fun j hj => ⟨?_, fun c hc => ?_⟩⟩
    · show [u64 x, AV.own b 0 n 1] = [u64 x, AV.own (θ 1 0).1 (θ 1 0).2 n 1]
      rw [hθ]
    · have hc : c ∈ [u64 x, AV.own 1 0 n 1] := hc
      simp only [List.mem_cons, List.not_mem_nil, or_false] at hc
      rcases hc with rfl | rfl
      · trivial
      · exact hg
  · unfold fam1
    rw [if_neg hf, if_neg hf]
    exact ⟨rfl, rfl, rfl, rfl, fun j hj => by have hj : j < 0 := hj; omega⟩
theorem row2_ren {θ : Nat → Nat → Nat × Nat} {g : Nat → Nat → Prop} {B : Nat → Prop} {n : Nat} {X : Nat → Int} (f : Nat) : rowRen θ g B (famN n 1 3 (fun i => [i64 (X i)]) none f) (famN n 1 3 (fun i => [i64 (X i)]) none f) := by
  refine rowRen_clean' (.refl _) fun j hj c hc => ?_
  by_cases hf : f = 0
  · subst hf
    have hc : c ∈ [i64 (X j)] := hc
    simp only [List.mem_cons, List.not_mem_nil, or_false] at hc
    subst hc; rfl
  · unfold famN at hj
    rw [if_neg hf] at hj
    have hj : j < 0 := hj
    omega
theorem mon89W : MConOK Tryz.prog 89 m89W := by
  refine MConOK.of (G := []) (H := []) .nil Tryz.func89 fun key m es e hc hob => ?_
  unfold m89W at hc
  split at hc
  · rename_i K i
    unfold w89a at hc
    split at hc
    · rename_i fam hl
      unfold w89d at hc
      split at hc
      · rename_i x b n hd
        obtain rfl := dW_some hd
        unfold w89b at hc
        split at hc
        · rename_i famb hl2
          unfold w89c at hc
          split at hc
          · rename_i X hX
            obtain rfl := dG_some hX
            cases hc
            have hne : K ≠ b := hob _ (by simp)
            have h0 : 0 ≤ x := hob _ (by simp)
            have h1 : x < 18446744073709551616 := hob _ (by simp)
            have h2 : 0 ≤ i := hob _ (by simp)
            have h3 : i < 64 := hob _ (by simp)
            refine ⟨[K, b], [(0, fam1 100 2 [u64 x, .own 1 0 n 1] none), (1, famN n 1 3 (fun i => [i64 (X i)]) none)], [.bx 0 0, i64 i], ⟨by simp [hne], rfl, fun a ha => ?_, fun j hj => ?_, fun q z hq => ?_⟩, by kernel_rfl, ?_⟩
            · simp only [List.mem_cons, List.not_mem_nil, or_false] at ha
              rcases ha with rfl | rfl
              · show (0 : Nat) < 2
                omega
              · trivial
            · match j, hj with
              | 0, _ => exact ⟨_, _, rfl, hl, fun f => ⟨by unfold fam1; split <;> rfl, row1_ren (θ := thE [K, b]) (g := lowG 2) (B := lowB 2) rfl (by show (1 : Nat) < 2; omega) f⟩⟩
              | 1, _ => exact ⟨_, _, rfl, hl2, fun f => ⟨by unfold famN; split <;> rfl, row2_ren f⟩⟩
              | j + 2, hj =>
                have hj : j + 2 < 2 := hj
                omega
            · by_cases e : q = 0
              · subst e; simp
              · by_cases e2 : q = 1
                · subst e2; simp
                · simp [look, Ne.symm e, Ne.symm e2] at hq
            · have hb : bodyM Tryz.prog [] [] Tryz.f89 [.bx 0 0, i64 i] [(0, fam1 100 2 [u64 x, .own 1 0 n 1] none), (1, famN n 1 3 (fun i => [i64 (X i)]) none)] 2 fun a m1 => a = .tup [] ∧ look m1 0 = some (fam1 100 2 [u64 (setX x i), .own 1 0 n 1] none) ∧ look m1 1 = some (famN n 1 3 (fun i => [i64 (X i)]) none) := by
                refine bodyM_go (rs := []) rfl rfl ?_
                simp only [go_sem]
                obtain ⟨k, rfl⟩ : ∃ k : Nat, i = k := ⟨i.toNat, by omega⟩
                obtain ⟨a, rfl⟩ : ∃ a : Nat, x = a := ⟨x.toNat, by omega⟩
                intro z1 e1
                have hk := fun z2 e2 => setX_nat (z3 := 0) (by omega : k < 64) (by omega : a < _) e1 (z2 := z2) e2
                refine ⟨(hk _ rfl).1, fun z2 e2 z3 e3 => ?_⟩
                obtain ⟨_, rfl, hp⟩ := hk z2 e2
                have e : z3 = setX a k := by
                  rw [e3, orI_nat (by omega) hp]
                  rfl
                rw [e]
              refine hb.mono fun a m1 ⟨q1, q2, q3⟩ => ⟨fun _ => none, fun _ _ => 0, [fam1 100 2 [u64 (setX x i), .own b 0 n 1] none, famN n 1 3 (fun i => [i64 (X i)]) none], none, rfl, ⟨fun f r g h => by simp at h, by rw [q1]; rfl, (by rw [q1]; exact fun c hc => (by cases hc)), rfl, fun j hj => ?_, fun _ => rfl⟩⟩
              match j, hj with
              | 0, _ => exact .inr ⟨_, _, q2, rfl, fun f => ⟨row1_ren (θ := thL [K, b] key fun _ _ => 0) (g := newG 2 (fun _ => none) fun _ _ => 0) (B := newB 2 fun _ => none) rfl (.inl (by omega)) f, by unfold fam1; split <;> simp⟩⟩
              | 1, _ => exact .inr ⟨_, _, q3, rfl, fun f => ⟨row2_ren f, by unfold famN; split <;> simp⟩⟩
              | j + 2, hj =>
                have hj : j + 2 < 2 := hj
                omega
          · cases hc
        · cases hc
      · cases hc
    · cases hc
  · cases hc
/-! ### Restored -/
def roB : AV → Option (List Prop × Nat × (Nat → Bool))
  | .ro n 1 g => some ([bools n g], n, fun i => gz (g i))
  | .v (.slice none 0 0) => some ([], 0, fun _ => false)
  | _ => none
def roJ : AV → Option (List Prop × Nat × (Nat → Int))
  | .ro n 1 g => some ([ints n g], n, gx g 0)
  | .v (.slice none 0 0) => some ([], 0, fun _ => 0)
  | _ => none
theorem roB_sound {a : AV} {ob : List Prop} {n : Nat} {T : Nat → Bool} {w : World} {ρ : Env} {v : Value} (h : roB a = some (ob, n, T)) (hob : ∀ p ∈ ob, p) (hR : R w ρ a v) : R w ρ (.ro n 1 fun i => [bo (T i)]) v := by
  unfold roB at h
  split at h
  · rename_i n g
    cases h
    have h1 : bools n g := hob _ (by simp)
    exact ro_alike (fun i hi => h1 i hi) hR
  · cases h; exact alk_nil w ρ v hR
  · cases h
theorem roJ_sound {a : AV} {ob : List Prop} {n : Nat} {X : Nat → Int} {w : World} {ρ : Env} {v : Value} (h : roJ a = some (ob, n, X)) (hob : ∀ p ∈ ob, p) (hR : R w ρ a v) : R w ρ (.ro n 1 fun i => [i64 (X i)]) v := by
  unfold roJ at h
  split at h
  · rename_i n g
    cases h
    have h1 : ints n g := hob _ (by simp)
    exact ro_alike (fun i hi => h1 i hi) hR
  · cases h; exact alk_nil w ρ v hR
  · cases h
def badG (G : Nat → Int) (i : Nat) : Bool := decide (G i < 0) || decide (2147483647 < G i)
def badT (G : Nat → Int) (T : Nat → Bool) (i : Nat) : Bool := T i && (G i == 0)
def rsE (n m : Nat) (G : Nat → Int) (T : Nat → Bool) : Int := if n < 1 ∨ 64 < n then 3 else if lst (badG G) n < n then 3 else if m ≠ n then 4 else if lst (badT G T) n < n then 4 else 0
def xOf (T : Nat → Bool) : Nat → Int
  | 0 => 0
  | i + 1 => if T i = true then setX (xOf T i) i else xOf T i
theorem xOf_lt {T : Nat → Bool} : ∀ {k : Nat}, k ≤ 64 → 0 ≤ xOf T k ∧ xOf T k < 18446744073709551616
  | 0, _ => ⟨Int.le_refl 0, by show (0 : Int) < _; omega⟩
  | k + 1, h => by
    have ih := xOf_lt (T := T) (k := k) (by omega)
    unfold xOf
    split
    · unfold setX
      have := setN_lt (a := (xOf T k).toNat) (k := k) (by omega) (by omega)
      rw [Int.toNat_natCast]
      omega
    · exact ih
theorem xOf_bit {T : Nat → Bool} {j : Nat} : ∀ {k : Nat}, (xOf T k).toNat.testBit j = (decide (j < k) && T j)
  | 0 => by simp [xOf]
  | k + 1 => by
    have ih := xOf_bit (T := T) (j := j) (k := k)
    unfold xOf
    have hlt : decide (j < k + 1) = (decide (j < k) || decide (j = k)) := by rw [← Bool.decide_or]; exact decide_eq_decide.2 (by omega)
    rw [hlt]
    split
    · rename_i ht
      unfold setX
      rw [Int.toNat_natCast, Int.toNat_natCast, setN_bit, ih]
      by_cases e : j = k
      · subst e; simp [ht]
      · rw [decide_eq_false e, Bool.or_false, Bool.or_false]
    · rename_i ht
      rw [ih]
      by_cases e : j = k
      · subst e
        have : T j = false := by simpa using ht
        rw [this]; simp
      · rw [decide_eq_false e, Bool.or_false]
noncomputable def F55f : Option (List Prop × Nat × (Nat → Int)) → Option (List Prop × Nat × (Nat → Bool)) → Option (List Prop × (Nat → AV) × (Nat → Option Fam))
  | some (o1, n, G), some (o2, m, T) => if rsE n m G T = 0 then some (o1 ++ o2, fun k => .tup [.bx k 0, i64 0], fun k => some (slF k ⟨xOf T n, n, G, noRows⟩)) else some (o1 ++ o2, fun _ => .tup [.v (.pointer none), i64 (rsE n m G T)], fun _ => none)
  | _, _ => none
noncomputable def F55 : List AV → Option (List Prop × (Nat → AV) × (Nat → Option Fam))
  | [a, b] => F55f (roJ a) (roB b)
  | _ => none
noncomputable def mN55 : MCon := mcKU F55
theorem mN55_eq : mN55 = mcKU F55 := (rfl)
theorem mon55 : MConOK Tryz.prog 55 mN55 := MConOK.mkU (G := [(91, .wr mN91), (89, .wr m89W)]) (H := []) (.mcons mon91 (.mcons mon89W .nil)) Tryz.func55 fun es ob v nw hF hob => by
  unfold F55 at hF
  split at hF
  · rename_i a b
    unfold F55f at hF
    split at hF
    · rename_i o1 n G o2 m T ha hb
      have hob' : ∀ p ∈ o1 ++ o2, p := by
        split at hF <;> (cases hF; exact hob)
      refine ⟨[.ro n 1 fun i => [i64 (G i)], .ro m 1 fun i => [bo (T i)]], fun w I vs hR => ?_, by simp [clean], by kernel_rfl, fun key => bodyM_go (rs := [.tmp 4, .tmp 5]) rfl rfl ?_⟩
      · obtain ⟨y, ys, rfl, k1, k2⟩ := hR.inv
        obtain ⟨y2, ys2, rfl, k3, k4⟩ := k2.inv
        exact .cons (roJ_sound ha (fun p hp => hob' p (by simp [hp])) k1) (.cons (roB_sound hb (fun p hp => hob' p (by simp [hp])) k3) k4)
      have fin : ∀ (e : Int) (m1 : Mem), rsE n m G T = e → e ≠ 0 → NewP key 0 (.tup [.v (.pointer none), i64 e]) m1 (v key) (nw key) := fun e m1 he hne => by
        rw [if_neg (by rw [he]; exact hne)] at hF
        cases hF
        rw [he]
        exact newP_none rfl
      simp only [go_sem, m89W]
      refine ⟨fun h => fin 3 _ (by unfold rsE; rw [if_pos (by omega)]) (by decide), fun h => ?_⟩
      have hn : ¬ (n < 1 ∨ 64 < n) := by omega
      refine loopN_go (fun (i : Nat) => i ≤ n ∧ ∀ j, j < i → badG G j = false) (fun i => n - i) (fun i => [(21, i64 i)]) (fun i => []) [] [22, 23, 24, 7, 25, 26, 27, 28, 29, 30, 4, 5, 31, 21] 0 0 (by kernel_rfl) ⟨Nat.zero_le _, fun j hj => by omega⟩ ⟨[], ?_, ?_, ?_, ?_⟩ ?_
      · simp only [go_sem]
      · simp only [go_sem]
      · simp only [go_sem]
      · simp [goodNames, asg]
      rintro i ⟨hi, hj⟩
      have n1 : 0 < n := by omega
      have n2 : n ≤ 64 := by omega
      simp only [go_sem, m89W, F91, n1, n2]
      refine ⟨fun h => ⟨by omega, h, fun hb => fin 3 _ ?_ (by decide), fun hb z hz => ⟨i + 1, ⟨by omega, fun j h2 => ?_⟩, by omega, [], by rw [hz, wrap_in (by unfold inR; omega)]; omega, by simp [goodNames, asg]⟩⟩, fun h => ?_⟩
      · have hb : badG G i = true := by
          unfold badG
          rw [Bool.or_eq_true, decide_eq_true_iff, decide_eq_true_iff]; exact hb
        unfold rsE
        rw [if_neg hn, if_pos]
        rw [lst_eq hj (by omega : i < n) hb]; omega
      · by_cases e : j = i
        · subst e
          unfold badG
          rw [decide_eq_false hb.1, decide_eq_false hb.2]; rfl
        · exact hj j (by omega)
      have hG : ¬ lst (badG G) n < n := by rw [lst_full fun j h2 => hj j (by omega)]; omega
      refine ⟨fun hne => fin 4 _ ?_ (by decide), fun heq => ?_⟩
      · have hne : (m : Int) ≠ n := by simpa using hne
        unfold rsE
        rw [if_neg hn, if_neg hG, if_pos (by omega)]
      have hmn : m = n := by
        have : (m : Int) = n := by simpa using heq
        omega
      subst hmn
      refine loopN_go (fun (i : Nat) => i ≤ m ∧ ∀ j, j < i → badT G T j = false) (fun i => m - i) (fun i => [(43, i64 i)]) (fun i => [(22, fam1 100 2 [u64 (xOf T i), .own 20 0 m 1] none)]) [20] [44, 45, 46, 47, 9, 10, 48, 49, 50, 51, 52, 53, 54, 4, 5, 55, 56, 57, 58, 59, 60, 43] 0 0 (by kernel_rfl) ⟨Nat.zero_le _, fun j hj => by omega⟩ ⟨[], ?_, ?_, ?_, ?_⟩ ?_
      · simp only [go_sem]
      · simp only [go_sem]
        rfl
      · simp only [go_sem]
      · simp [goodNames, asg]
      rintro k ⟨hk, hkj⟩
      simp only [go_sem, m89W, m89W_eq, w89a_fam, w89b_fam]
      have hX := xOf_lt (T := T) (k := k) (by omega)
      have hfit : ∀ (y : Nat) (x : Int), x = xOf T y → fitRows 27 27 [] [(22, fam1 100 2 [u64 x, AV.own 20 0 m 1] none), (20, famN m 1 3 (fun i => [i64 (G i)]) none)] [(22, fam1 100 2 [u64 (xOf T y), AV.own 20 0 m 1] none)] := fun y x hx => by
        simp only [go_sem]
        exact hx
      have hstep : badT G T k = false → ∀ j, j < k + 1 → badT G T j = false := fun hp j hj2 => by
        by_cases e : j = k
        · subst e; exact hp
        · exact hkj j (by omega)
      refine ⟨fun h1 => ⟨by omega, h1, fun hf z hz => ⟨k + 1, ⟨by omega, hstep (by unfold badT; rw [hf]; rfl)⟩, by omega, [], by rw [hz, wrap_in (by unfold inR; omega)]; omega, hfit _ _ (by rw [xOf, if_neg (by rw [hf]; decide)]), by simp [goodNames, asg]⟩, fun ht => ⟨by omega, h1, fun h0 => fin 4 _ ?_ (by decide), fun h0 => ⟨by decide, hX.1, hX.2, by omega, by omega, fun z hz => ⟨k + 1, ⟨by omega, hstep (by unfold badT; rw [h0, Bool.and_false])⟩, by omega, [], by rw [hz, wrap_in (by unfold inR; omega)]; omega, hfit _ _ (by rw [xOf, if_pos ht]), by simp [goodNames, asg]⟩⟩⟩⟩, fun h1 => ?_⟩
      · have hb : badT G T k = true := by unfold badT; rw [ht, h0]; rfl
        unfold rsE
        rw [if_neg hn, if_neg hG, if_neg (by simp), if_pos]
        rw [lst_eq hkj (by omega : k < m) hb]; omega
      · have e : k = m := by omega
        subst e
        have h0 : rsE k k G T = 0 := by
          unfold rsE
          rw [if_neg hn, if_neg hG, if_neg (by simp), if_neg]
          rw [lst_full fun j h2 => hkj j (by omega)]; omega
        rw [if_pos h0] at hF
        cases hF
        exact newS (v := fun k => .tup [.bx k 0, i64 0]) (X := G) (r1 := 22) (r2 := 20) (fun _ _ => rfl) (fun G B r hr c hc => by
          simp only [List.mem_cons, List.not_mem_nil, or_false] at hc
          rcases hc with rfl | rfl
          · exact hr
          · trivial) rfl rfl (by decide) (Nat.zero_le _) (Nat.zero_le _)
    · cases hF
  · cases hF
noncomputable def F56f : Option (List Prop × Nat × (Nat → Int)) → Option (List Prop × Nat × (Nat → Bool)) → Option (List Prop × (Nat → AV) × (Nat → Option Fam))
  | some (o1, n, G), some (o2, m, T) => if rsE n m G T = 0 then some (o1 ++ o2, fun k => .tup [.bx k 0, i64 0], fun k => some (rtF k ⟨n, G, T, noRows⟩)) else some (o1 ++ o2, fun _ => .tup [.v (.pointer none), i64 (rsE n m G T)], fun _ => none)
  | _, _ => none
noncomputable def F56 : List AV → Option (List Prop × (Nat → AV) × (Nat → Option Fam))
  | [a, b] => F56f (roJ a) (roB b)
  | _ => none
noncomputable def mN56 : MCon := mcKU F56
theorem mN56_eq : mN56 = mcKU F56 := (rfl)
theorem mon56 : MConOK Tryz.prog 56 mN56 := MConOK.mkU (G := []) (H := []) .nil Tryz.func56 fun es ob v nw hF hob => by
  unfold F56 at hF
  split at hF
  · rename_i a b
    unfold F56f at hF
    split at hF
    · rename_i o1 n G o2 m T ha hb
      have hob' : ∀ p ∈ o1 ++ o2, p := by
        split at hF <;> (cases hF; exact hob)
      refine ⟨[.ro n 1 fun i => [i64 (G i)], .ro m 1 fun i => [bo (T i)]], fun w I vs hR => ?_, by simp [clean], by kernel_rfl, fun key => bodyM_go (rs := [.tmp 4, .tmp 5]) rfl rfl ?_⟩
      · obtain ⟨y, ys, rfl, k1, k2⟩ := hR.inv
        obtain ⟨y2, ys2, rfl, k3, k4⟩ := k2.inv
        exact .cons (roJ_sound ha (fun p hp => hob' p (by simp [hp])) k1) (.cons (roB_sound hb (fun p hp => hob' p (by simp [hp])) k3) k4)
      have fin : ∀ (e : Int) (m1 : Mem), rsE n m G T = e → e ≠ 0 → NewP key 0 (.tup [.v (.pointer none), i64 e]) m1 (v key) (nw key) := fun e m1 he hne => by
        rw [if_neg (by rw [he]; exact hne)] at hF
        cases hF
        rw [he]
        exact newP_none rfl
      simp only [go_sem]
      refine ⟨fun h => fin 3 _ (by unfold rsE; rw [if_pos (by omega)]) (by decide), fun h => ?_⟩
      have hn : ¬ (n < 1 ∨ 64 < n) := by omega
      have n1 : 0 < n := by omega
      have n2 : n ≤ 64 := by omega
      refine loopN_go (fun (i : Nat) => i ≤ n ∧ ∀ j, j < i → badG G j = false) (fun i => n - i) (fun i => [(6, i64 i)]) (fun i => []) [] [16, 17, 18, 19, 22, 23, 24, 25, 26, 27, 28, 29, 30, 31, 32, 33, 4, 5, 20, 21, 6] 0 0 (by kernel_rfl) ⟨Nat.zero_le _, fun j hj => by omega⟩ ⟨[], ?_, ?_, ?_, ?_⟩ ?_
      · simp only [go_sem]
      · simp only [go_sem]
      · simp only [go_sem]
      · simp [goodNames, asg]
      rintro i ⟨hi, hj⟩
      simp only [go_sem]
      refine ⟨fun h => ⟨by omega, h, fun _ => by omega, fun _ => h, fun hb => fin 3 _ ?_ (by decide), fun hb z hz => ⟨i + 1, ⟨by omega, fun j h2 => ?_⟩, by omega, [], by rw [hz, wrap_in (by unfold inR; omega)]; omega, by simp [goodNames, asg]⟩⟩, fun h => ?_⟩
      · have hb : badG G i = true := by
          unfold badG
          rw [Bool.or_eq_true, decide_eq_true_iff, decide_eq_true_iff]; exact hb
        unfold rsE
        rw [if_neg hn, if_pos]
        rw [lst_eq hj (by omega : i < n) hb]; omega
      · by_cases e : j = i
        · subst e
          unfold badG
          rw [decide_eq_false hb.1, decide_eq_false hb.2]; rfl
        · exact hj j (by omega)
      have hG : ¬ lst (badG G) n < n := by rw [lst_full fun j h2 => hj j (by omega)]; omega
      refine ⟨fun hne => fin 4 _ ?_ (by decide), fun heq => ?_⟩
      · have hne : (m : Int) ≠ n := by simpa using hne
        unfold rsE
        rw [if_neg hn, if_neg hG, if_pos (by omega)]
      have hmn : m = n := by
        have : (m : Int) = n := by simpa using heq
        omega
      subst hmn
      refine loopN_go (fun (i : Nat) => i ≤ m ∧ ∀ j, j < i → badT G T j = false) (fun i => m - i) (fun i => [(7, i64 i)]) (fun i => []) [] [39, 40, 41, 42, 45, 46, 47, 48, 49, 50, 51, 52, 53, 54, 55, 4, 5, 43, 44, 7] 0 0 (by kernel_rfl) ⟨Nat.zero_le _, fun j hj => by omega⟩ ⟨[], ?_, ?_, ?_, ?_⟩ ?_
      · simp only [go_sem]
      · simp only [go_sem]
      · simp only [go_sem]
      · simp [goodNames, asg]
      rintro k ⟨hk, hkj⟩
      simp only [go_sem]
      refine ⟨fun h1 => ⟨by omega, h1, fun _ => by omega, fun _ => h1, fun hb => fin 4 _ ?_ (by decide), fun hf z hz => ⟨k + 1, ⟨by omega, fun j h2 => ?_⟩, by omega, [], by rw [hz, wrap_in (by unfold inR; omega)]; omega, by simp [goodNames, asg]⟩⟩, fun h1 => ?_⟩
      · have hb : badT G T k = true := by unfold badT; rw [hb.1, hb.2]; rfl
        unfold rsE
        rw [if_neg hn, if_neg hG, if_neg (by simp), if_pos]
        rw [lst_eq hkj (by omega : k < m) hb]; omega
      · by_cases e : j = k
        · subst e; exact hf
        · exact hkj j (by omega)
      · have e : k = m := by omega
        subst e
        have h0 : rsE k k G T = 0 := by
          unfold rsE
          rw [if_neg hn, if_neg hG, if_neg (by simp), if_neg]
          rw [lst_full fun j h2 => hkj j (by omega)]; omega
        rw [if_pos h0] at hF
        cases hF
        have hb3 : bytesT Tryz.prog 3 = 8 := by kernel_rfl
        have hb4 : bytesT Tryz.prog 4 = 1 := by kernel_rfl
        refine ⟨okCells_all fun i => rfl, by rw [hb3]; omega, by omega, okCells_all fun i => rfl, by rw [hb4]; omega, by omega, ?_⟩
        simp only [Nat.zero_add, Nat.not_lt_zero, if_false, Nat.sub_zero]
        exact newRt (v := fun k => .tup [.bx k 0, i64 0]) (X := G) (T := T) (r1 := 32) (r2 := 27) (r3 := 30) (fun _ _ => rfl) (fun G B r hr c hc => by
          simp only [List.mem_cons, List.not_mem_nil, or_false] at hc
          rcases hc with rfl | rfl
          · exact hr
          · trivial) rfl rfl rfl (by decide) (by decide) (by decide) (Nat.zero_le _) (Nat.zero_le _) (Nat.zero_le _)
    · cases hF
  · cases hF
end Go.Ax
end

section
/-
  The shelf's contracts at this program, in plain words (written by a tool of the kit's).
-/
namespace Go.Proofs
open Go.Shelf
def Tryz.keysA_ren : Go.Shelf.Ren := ⟨fun | 7 => 108 | 10 => 131 | n => n, fun | 23 => 101 | 26 => 3 | 3 => 32 | 28 => 134 | 0 => 0 | 27 => 133 | 33 => 113 | 4 => 4 | n => n, fun | n => n⟩
theorem Tryz.keysA : Go.Proofs.SlLaysZI.n7 Tryz.prog Tryz.keysA_ren := {
  mixed := by kernel_rfl
  f7 := ⟨Tryz.f108.name, by decide, Tryz.func108.trans (congrArg some (by kernel_rfl))⟩
  f10 := ⟨Tryz.f131.name, by decide, Tryz.func131.trans (congrArg some (by kernel_rfl))⟩
  t0 := Tryz.underlying0
  a0 := Tryz.isAgg0
  z0 := Tryz.sizeOf0
  v0 := Tryz.zeroValue0
  t4 := Tryz.underlying4
  a4 := Tryz.isAgg4
  z4 := Tryz.sizeOf4
  v4 := Tryz.zeroValue4
  t23 := Tryz.underlying101
  a23 := Tryz.isAgg101
  z23 := Tryz.sizeOf101
  v23 := Tryz.zeroValue101
  t26 := Tryz.underlying3
  a26 := Tryz.isAgg3
  z26 := Tryz.sizeOf3
  v26 := Tryz.zeroValue3
  t27 := Tryz.underlying133
  a27 := Tryz.isAgg133
  z27 := Tryz.sizeOf133
  v27 := Tryz.zeroValue133
  t28 := Tryz.underlying134
  a28 := Tryz.isAgg134
  z28 := Tryz.sizeOf134
  v28 := Tryz.zeroValue134
  t33 := Tryz.underlying113
  a33 := Tryz.isAgg113
  z33 := Tryz.sizeOf113
  v33 := Tryz.zeroValue113 }
def Tryz.sortedA_ren : Go.Shelf.Ren := ⟨fun | 6 => 107 | 8 => 129 | 9 => 130 | 11 => 154 | 13 => 111 | 12 => 155 | 23 => 140 | 24 => 141 | 14 => 164 | 15 => 165 | 16 => 166 | 17 => 167 | 18 => 168 | 19 => 169 | 20 => 170 | 21 => 171 | 22 => 172 | 25 => 175 | 26 => 157 | 27 => 158 | 28 => 176 | 29 => 177 | 30 => 113 | 31 => 178 | n => n, fun | 26 => 3 | 28 => 134 | 24 => 22 | 0 => 0 | 3 => 3 | 37 => 139 | 48 => 163 | 50 => 96 | 4 => 4 | 40 => 156 | 39 => 155 | 45 => 160 | 5 => 5 | 9 => 9 | 51 => 173 | 55 => 177 | 57 => 187 | 58 => 188 | 33 => 113 | n => n, fun | n => n⟩
theorem Tryz.sortedA : Go.Proofs.SlLaysZI.n6 Tryz.prog Tryz.sortedA_ren := {
  mixed := by kernel_rfl
  f6 := ⟨Tryz.f107.name, by decide, Tryz.func107.trans (congrArg some (by kernel_rfl))⟩
  f8 := ⟨Tryz.f129.name, by decide, Tryz.func129.trans (congrArg some (by kernel_rfl))⟩
  f11 := ⟨Tryz.f154.name, by decide, Tryz.func154.trans (congrArg some (by kernel_rfl))⟩
  t0 := Tryz.underlying0
  a0 := Tryz.isAgg0
  z0 := Tryz.sizeOf0
  v0 := Tryz.zeroValue0
  t24 := Tryz.underlying22
  a24 := Tryz.isAgg22
  z24 := Tryz.sizeOf22
  v24 := Tryz.zeroValue22
  t26 := Tryz.underlying3
  a26 := Tryz.isAgg3
  z26 := Tryz.sizeOf3
  v26 := Tryz.zeroValue3
  t28 := Tryz.underlying134
  a28 := Tryz.isAgg134
  z28 := Tryz.sizeOf134
  v28 := Tryz.zeroValue134
  i26 := by kernel_rfl }
def Tryz.sortA_ren : Go.Shelf.Ren := ⟨fun | 5 => 130 | 8 => 111 | 7 => 155 | 19 => 140 | 20 => 141 | 10 => 164 | 11 => 165 | 12 => 166 | 13 => 167 | 14 => 168 | 15 => 169 | 16 => 170 | 17 => 171 | 18 => 172 | 30 => 175 | 31 => 157 | 32 => 158 | 33 => 176 | 34 => 177 | 35 => 113 | 40 => 178 | n => n, fun | 23 => 22 | 25 => 3 | 3 => 3 | 32 => 139 | 22 => 22 | 0 => 0 | 44 => 163 | 46 => 96 | 4 => 4 | 36 => 156 | 35 => 155 | 41 => 160 | 5 => 5 | 9 => 9 | 53 => 173 | 57 => 177 | 63 => 187 | 64 => 188 | n => n, fun | n => n⟩
theorem Tryz.sortA : Go.Proofs.SlLaysM.n5 Tryz.prog Tryz.sortA_ren := {
  mixed := by kernel_rfl
  f5 := ⟨Tryz.f130.name, by decide, Tryz.func130.trans (congrArg some (by kernel_rfl))⟩
  f7 := ⟨Tryz.f155.name, by decide, Tryz.func155.trans (congrArg some (by kernel_rfl))⟩
  f8 := Tryz.func111.trans (congrArg some (by kernel_rfl))
  f10 := ⟨Tryz.f164.name, by decide, Tryz.func164.trans (congrArg some (by kernel_rfl))⟩
  f11 := ⟨Tryz.f165.name, by decide, Tryz.func165.trans (congrArg some (by kernel_rfl))⟩
  f12 := ⟨Tryz.f166.name, by decide, Tryz.func166.trans (congrArg some (by kernel_rfl))⟩
  f13 := ⟨Tryz.f167.name, by decide, Tryz.func167.trans (congrArg some (by kernel_rfl))⟩
  f14 := ⟨Tryz.f168.name, by decide, Tryz.func168.trans (congrArg some (by kernel_rfl))⟩
  f15 := ⟨Tryz.f169.name, by decide, Tryz.func169.trans (congrArg some (by kernel_rfl))⟩
  f16 := ⟨Tryz.f170.name, by decide, Tryz.func170.trans (congrArg some (by kernel_rfl))⟩
  f17 := ⟨Tryz.f171.name, by decide, Tryz.func171.trans (congrArg some (by kernel_rfl))⟩
  f18 := ⟨Tryz.f172.name, by decide, Tryz.func172.trans (congrArg some (by kernel_rfl))⟩
  f19 := Tryz.func140.trans (congrArg some (by kernel_rfl))
  f20 := Tryz.func141.trans (congrArg some (by kernel_rfl))
  f30 := ⟨Tryz.f175.name, by decide, Tryz.func175.trans (congrArg some (by kernel_rfl))⟩
  f31 := Tryz.func157.trans (congrArg some (by kernel_rfl))
  f32 := Tryz.func158.trans (congrArg some (by kernel_rfl))
  f33 := ⟨Tryz.f176.name, by decide, Tryz.func176.trans (congrArg some (by kernel_rfl))⟩
  f34 := ⟨Tryz.f177.name, by decide, Tryz.func177.trans (congrArg some (by kernel_rfl))⟩
  f35 := ⟨Tryz.f113.name, by decide, Tryz.func113.trans (congrArg some (by kernel_rfl))⟩
  f40 := ⟨Tryz.f178.name, by decide, Tryz.func178.trans (congrArg some (by kernel_rfl))⟩
  t0 := Tryz.underlying0
  a0 := Tryz.isAgg0
  z0 := Tryz.sizeOf0
  v0 := Tryz.zeroValue0
  t3 := Tryz.underlying3
  a3 := Tryz.isAgg3
  z3 := Tryz.sizeOf3
  v3 := Tryz.zeroValue3
  t4 := Tryz.underlying4
  a4 := Tryz.isAgg4
  z4 := Tryz.sizeOf4
  v4 := Tryz.zeroValue4
  t5 := Tryz.underlying5
  a5 := Tryz.isAgg5
  z5 := Tryz.sizeOf5
  v5 := Tryz.zeroValue5
  t9 := Tryz.underlying9
  a9 := Tryz.isAgg9
  z9 := Tryz.sizeOf9
  v9 := Tryz.zeroValue9
  t22 := Tryz.underlying22
  a22 := Tryz.isAgg22
  z22 := Tryz.sizeOf22
  v22 := Tryz.zeroValue22
  t23 := Tryz.underlying22
  a23 := Tryz.isAgg22
  z23 := Tryz.sizeOf22
  v23 := Tryz.zeroValue22
  t25 := Tryz.underlying3
  a25 := Tryz.isAgg3
  z25 := Tryz.sizeOf3
  v25 := Tryz.zeroValue3
  t32 := Tryz.underlying139
  a32 := Tryz.isAgg139
  z32 := Tryz.sizeOf139
  v32 := Tryz.zeroValue139
  t35 := Tryz.underlying155
  a35 := Tryz.isAgg155
  z35 := Tryz.sizeOf155
  v35 := Tryz.zeroValue155
  t36 := Tryz.underlying156
  a36 := Tryz.isAgg156
  z36 := Tryz.sizeOf156
  v36 := Tryz.zeroValue156
  t41 := Tryz.underlying160
  a41 := Tryz.isAgg160
  z41 := Tryz.sizeOf160
  v41 := Tryz.zeroValue160
  t44 := Tryz.underlying163
  a44 := Tryz.isAgg163
  z44 := Tryz.sizeOf163
  v44 := Tryz.zeroValue163
  t46 := Tryz.underlying96
  a46 := Tryz.isAgg96
  z46 := Tryz.sizeOf96
  v46 := Tryz.zeroValue96
  t53 := Tryz.underlying173
  a53 := Tryz.isAgg173
  z53 := Tryz.sizeOf173
  v53 := Tryz.zeroValue173
  t57 := Tryz.underlying177
  a57 := Tryz.isAgg177
  z57 := Tryz.sizeOf177
  v57 := Tryz.zeroValue177
  t63 := Tryz.underlying187
  a63 := Tryz.isAgg187
  z63 := Tryz.sizeOf187
  v63 := Tryz.zeroValue187
  t64 := Tryz.underlying188
  a64 := Tryz.isAgg188
  z64 := Tryz.sizeOf188
  v64 := Tryz.zeroValue188 }
def Tryz.sortF_ren : Go.Shelf.Ren := ⟨fun | 6 => 65 | 15 => 111 | 14 => 110 | 28 => 140 | 29 => 141 | 20 => 132 | 21 => 133 | 22 => 134 | 23 => 135 | 24 => 136 | 25 => 137 | 26 => 138 | 27 => 139 | 46 => 156 | 47 => 157 | 48 => 158 | 49 => 159 | 50 => 160 | 57 => 173 | n => n, fun | 22 => 22 | 24 => 3 | 25 => 28 | 3 => 3 | 39 => 139 | 0 => 0 | 53 => 163 | 55 => 96 | 4 => 4 | 46 => 156 | 45 => 155 | 50 => 160 | 5 => 5 | 9 => 9 | 66 => 173 | 70 => 177 | 76 => 187 | 77 => 188 | n => n, fun | n => n⟩
theorem Tryz.sortF : Go.Proofs.SlLaysF.n6 Tryz.prog Tryz.sortF_ren := {
  mixed := by kernel_rfl
  f6 := ⟨Tryz.f65.name, by decide, Tryz.func65.trans (congrArg some (by kernel_rfl))⟩
  f14 := ⟨Tryz.f110.name, by decide, Tryz.func110.trans (congrArg some (by kernel_rfl))⟩
  f15 := Tryz.func111.trans (congrArg some (by kernel_rfl))
  f20 := ⟨Tryz.f132.name, by decide, Tryz.func132.trans (congrArg some (by kernel_rfl))⟩
  f21 := ⟨Tryz.f133.name, by decide, Tryz.func133.trans (congrArg some (by kernel_rfl))⟩
  f22 := ⟨Tryz.f134.name, by decide, Tryz.func134.trans (congrArg some (by kernel_rfl))⟩
  f23 := ⟨Tryz.f135.name, by decide, Tryz.func135.trans (congrArg some (by kernel_rfl))⟩
  f24 := ⟨Tryz.f136.name, by decide, Tryz.func136.trans (congrArg some (by kernel_rfl))⟩
  f25 := ⟨Tryz.f137.name, by decide, Tryz.func137.trans (congrArg some (by kernel_rfl))⟩
  f26 := ⟨Tryz.f138.name, by decide, Tryz.func138.trans (congrArg some (by kernel_rfl))⟩
  f27 := ⟨Tryz.f139.name, by decide, Tryz.func139.trans (congrArg some (by kernel_rfl))⟩
  f28 := Tryz.func140.trans (congrArg some (by kernel_rfl))
  f29 := Tryz.func141.trans (congrArg some (by kernel_rfl))
  f46 := ⟨Tryz.f156.name, by decide, Tryz.func156.trans (congrArg some (by kernel_rfl))⟩
  f47 := Tryz.func157.trans (congrArg some (by kernel_rfl))
  f48 := Tryz.func158.trans (congrArg some (by kernel_rfl))
  f49 := ⟨Tryz.f159.name, by decide, Tryz.func159.trans (congrArg some (by kernel_rfl))⟩
  f50 := ⟨Tryz.f160.name, by decide, Tryz.func160.trans (congrArg some (by kernel_rfl))⟩
  f57 := ⟨Tryz.f173.name, by decide, Tryz.func173.trans (congrArg some (by kernel_rfl))⟩
  t0 := Tryz.underlying0
  a0 := Tryz.isAgg0
  z0 := Tryz.sizeOf0
  v0 := Tryz.zeroValue0
  t3 := Tryz.underlying3
  a3 := Tryz.isAgg3
  z3 := Tryz.sizeOf3
  v3 := Tryz.zeroValue3
  t4 := Tryz.underlying4
  a4 := Tryz.isAgg4
  z4 := Tryz.sizeOf4
  v4 := Tryz.zeroValue4
  t5 := Tryz.underlying5
  a5 := Tryz.isAgg5
  z5 := Tryz.sizeOf5
  v5 := Tryz.zeroValue5
  t9 := Tryz.underlying9
  a9 := Tryz.isAgg9
  z9 := Tryz.sizeOf9
  v9 := Tryz.zeroValue9
  t22 := Tryz.underlying22
  a22 := Tryz.isAgg22
  z22 := Tryz.sizeOf22
  v22 := Tryz.zeroValue22
  a24 := Tryz.isAgg3
  z24 := Tryz.sizeOf3
  t25 := Tryz.underlying28
  a25 := Tryz.isAgg28
  z25 := Tryz.sizeOf28
  v25 := Tryz.zeroValue28
  t39 := Tryz.underlying139
  a39 := Tryz.isAgg139
  z39 := Tryz.sizeOf139
  v39 := Tryz.zeroValue139
  t45 := Tryz.underlying155
  a45 := Tryz.isAgg155
  z45 := Tryz.sizeOf155
  v45 := Tryz.zeroValue155
  t46 := Tryz.underlying156
  a46 := Tryz.isAgg156
  z46 := Tryz.sizeOf156
  v46 := Tryz.zeroValue156
  t50 := Tryz.underlying160
  a50 := Tryz.isAgg160
  z50 := Tryz.sizeOf160
  v50 := Tryz.zeroValue160
  t53 := Tryz.underlying163
  a53 := Tryz.isAgg163
  z53 := Tryz.sizeOf163
  v53 := Tryz.zeroValue163
  t55 := Tryz.underlying96
  a55 := Tryz.isAgg96
  z55 := Tryz.sizeOf96
  v55 := Tryz.zeroValue96
  t66 := Tryz.underlying173
  a66 := Tryz.isAgg173
  z66 := Tryz.sizeOf173
  v66 := Tryz.zeroValue173
  t70 := Tryz.underlying177
  a70 := Tryz.isAgg177
  z70 := Tryz.sizeOf177
  v70 := Tryz.zeroValue177
  t76 := Tryz.underlying187
  a76 := Tryz.isAgg187
  z76 := Tryz.sizeOf187
  v76 := Tryz.zeroValue187
  t77 := Tryz.underlying188
  a77 := Tryz.isAgg188
  z77 := Tryz.sizeOf188
  v77 := Tryz.zeroValue188 }
def Tryz.sortP_ren : Go.Shelf.Ren := ⟨fun | 6 => 73 | 15 => 111 | 14 => 115 | 28 => 140 | 29 => 141 | 20 => 142 | 21 => 143 | 22 => 144 | 23 => 145 | 24 => 146 | 25 => 147 | 26 => 148 | 27 => 149 | 46 => 161 | 47 => 157 | 48 => 158 | 49 => 162 | 50 => 163 | 57 => 174 | n => n, fun | 22 => 35 | 24 => 95 | 25 => 115 | 3 => 3 | 39 => 139 | 0 => 0 | 53 => 163 | 55 => 96 | 4 => 4 | 46 => 156 | 45 => 155 | 50 => 160 | 5 => 5 | 9 => 9 | 66 => 173 | 70 => 177 | 76 => 187 | 77 => 188 | n => n, fun | n => n⟩
theorem Tryz.sortP : Go.Proofs.SlLaysF0.n6 Tryz.prog Tryz.sortP_ren := {
  mixed := by kernel_rfl
  f6 := ⟨Tryz.f73.name, by decide, Tryz.func73.trans (congrArg some (by kernel_rfl))⟩
  f14 := ⟨Tryz.f115.name, by decide, Tryz.func115.trans (congrArg some (by kernel_rfl))⟩
  f15 := Tryz.func111.trans (congrArg some (by kernel_rfl))
  f20 := ⟨Tryz.f142.name, by decide, Tryz.func142.trans (congrArg some (by kernel_rfl))⟩
  f21 := ⟨Tryz.f143.name, by decide, Tryz.func143.trans (congrArg some (by kernel_rfl))⟩
  f22 := ⟨Tryz.f144.name, by decide, Tryz.func144.trans (congrArg some (by kernel_rfl))⟩
  f23 := ⟨Tryz.f145.name, by decide, Tryz.func145.trans (congrArg some (by kernel_rfl))⟩
  f24 := ⟨Tryz.f146.name, by decide, Tryz.func146.trans (congrArg some (by kernel_rfl))⟩
  f25 := ⟨Tryz.f147.name, by decide, Tryz.func147.trans (congrArg some (by kernel_rfl))⟩
  f26 := ⟨Tryz.f148.name, by decide, Tryz.func148.trans (congrArg some (by kernel_rfl))⟩
  f27 := ⟨Tryz.f149.name, by decide, Tryz.func149.trans (congrArg some (by kernel_rfl))⟩
  f28 := Tryz.func140.trans (congrArg some (by kernel_rfl))
  f29 := Tryz.func141.trans (congrArg some (by kernel_rfl))
  f46 := ⟨Tryz.f161.name, by decide, Tryz.func161.trans (congrArg some (by kernel_rfl))⟩
  f47 := Tryz.func157.trans (congrArg some (by kernel_rfl))
  f48 := Tryz.func158.trans (congrArg some (by kernel_rfl))
  f49 := ⟨Tryz.f162.name, by decide, Tryz.func162.trans (congrArg some (by kernel_rfl))⟩
  f50 := ⟨Tryz.f163.name, by decide, Tryz.func163.trans (congrArg some (by kernel_rfl))⟩
  f57 := ⟨Tryz.f174.name, by decide, Tryz.func174.trans (congrArg some (by kernel_rfl))⟩
  t0 := Tryz.underlying0
  a0 := Tryz.isAgg0
  z0 := Tryz.sizeOf0
  v0 := Tryz.zeroValue0
  t3 := Tryz.underlying3
  a3 := Tryz.isAgg3
  z3 := Tryz.sizeOf3
  v3 := Tryz.zeroValue3
  t4 := Tryz.underlying4
  a4 := Tryz.isAgg4
  z4 := Tryz.sizeOf4
  v4 := Tryz.zeroValue4
  t5 := Tryz.underlying5
  a5 := Tryz.isAgg5
  z5 := Tryz.sizeOf5
  v5 := Tryz.zeroValue5
  t9 := Tryz.underlying9
  a9 := Tryz.isAgg9
  z9 := Tryz.sizeOf9
  v9 := Tryz.zeroValue9
  t22 := Tryz.underlying35
  a22 := Tryz.isAgg35
  z22 := Tryz.sizeOf35
  v22 := Tryz.zeroValue35
  t25 := Tryz.underlying115
  a25 := Tryz.isAgg115
  z25 := Tryz.sizeOf115
  v25 := Tryz.zeroValue115
  t39 := Tryz.underlying139
  a39 := Tryz.isAgg139
  z39 := Tryz.sizeOf139
  v39 := Tryz.zeroValue139
  t45 := Tryz.underlying155
  a45 := Tryz.isAgg155
  z45 := Tryz.sizeOf155
  v45 := Tryz.zeroValue155
  t46 := Tryz.underlying156
  a46 := Tryz.isAgg156
  z46 := Tryz.sizeOf156
  v46 := Tryz.zeroValue156
  t50 := Tryz.underlying160
  a50 := Tryz.isAgg160
  z50 := Tryz.sizeOf160
  v50 := Tryz.zeroValue160
  t53 := Tryz.underlying163
  a53 := Tryz.isAgg163
  z53 := Tryz.sizeOf163
  v53 := Tryz.zeroValue163
  t55 := Tryz.underlying96
  a55 := Tryz.isAgg96
  z55 := Tryz.sizeOf96
  v55 := Tryz.zeroValue96
  t66 := Tryz.underlying173
  a66 := Tryz.isAgg173
  z66 := Tryz.sizeOf173
  v66 := Tryz.zeroValue173
  t70 := Tryz.underlying177
  a70 := Tryz.isAgg177
  z70 := Tryz.sizeOf177
  v70 := Tryz.zeroValue177
  t76 := Tryz.underlying187
  a76 := Tryz.isAgg187
  z76 := Tryz.sizeOf187
  v76 := Tryz.zeroValue187
  t77 := Tryz.underlying188
  a77 := Tryz.isAgg188
  z77 := Tryz.sizeOf188
  v77 := Tryz.zeroValue188 }
end Go.Proofs
end

section
/-
  The ids of a map, sorted, ars a new slice: the shelf's contracts, laid here.
-/
set_option linter.unusedVariables false
set_option linter.unusedSimpArgs false
set_option maxHeartbeats 4000000
set_option maxRecDepth 100000
namespace Go.Proofs
open Go.RowKit Go.Maps Go.Sort Go.Shelf
/-- slices.Sort's two contracts here. -/
theorem Tryz.sortsA (m : Nat) : AnyZI.SortsIn Tryz.prog Tryz.sortedA_ren Fence.wide m :=
  ⟨fun blk off cap ss W hH hblk hsz => callsIn_wide.2 (AnyM.slices_Sort_int Tryz.sortA blk off cap ss W hH hblk hsz),
   fun p cap W => callsIn_wide.2 (AnyM.slices_Sort_int_none Tryz.sortA p cap W)⟩
theorem Tryz.sorted_keys {H : Type} (Bm b nn : Nat) (D0 : DataW H) (R : Value → Option (DataW H × List MemPlace)) (w : World) (hBm : Bm < w.heap.size) (hm : w.cell? ⟨Bm, 0, none⟩ = some (.map (some b)))
    (hown : w.ownsMap Tryz.prog 3 R b nn D0) (hmax : Maps.size D0 ≤ maxLen) (hbytes : Maps.size D0 * 8 ≤ 140737488355328) :
    Calls Tryz.prog 107 #[.func (.func 131) #[] #[.pointer (some ⟨Bm, 0, none⟩)]] w fun e w' => ∃ (v : Value) (ss : List Int), e = .returned v ∧ ss.Perm (intKeys D0) ∧
      w'.ownsRow w.heap.size 3 1 v ss.length ((ss.mergeSort (fun x y => decide (x ≤ y))).map encZ) ∧ (v = .slice none 0 0 ↔ ss = []) ∧ Below w.heap.size w w' := by
  refine (callsIn_wide (n := 5)).1 ?_
  have hseq : SeqGives Fence.wide 2 Tryz.prog 131 #[.pointer (some ⟨Bm, 0, none⟩)] encZ (fun ss => ss.Perm (intKeys D0)) (Maps.size D0) w :=
    AnyZI.keys_gives (ρ := Tryz.keysA_ren) { Tryz.keysA with } Fence.wide _ trivial rfl (by omega) Bm b nn D0 _ hBm hm hown
  have cS := AnyZI.sorted_in Tryz.sortedA Fence.wide 5 trivial trivial trivial trivial rfl (by omega) (Tryz.sortsA _) (enters_of Tryz.func130 (by kernel_rfl) rfl) 131 #[.pointer (some ⟨Bm, 0, none⟩)] trivial (enters_of Tryz.func131 (by kernel_rfl) rfl) _ _ hmax hbytes _ hseq
  exact cS
end Go.Proofs
namespace Go.Ax
open Go.Proofs Go.Maps Go.MapKept Go.RowKit
/-- A slice that lies in a block of its own, new since a world. -/
theorem slice_post {w0 : Base} {J : Nat → Prop} {w w' : World} {key n sz : Nat} {ty : TypeId} {get : Nat → List AV} {v : Value} {xs : List Value} {ob : List Prop} (hty : ty < 1000000) (hR : Rel w0 (.ext J) [] (fun _ => False) w) (hb : Below w.heap.size w w') (hrow : w'.ownsRow w.heap.size ty sz v n xs)
    (hlen : ∀ i, i < n → (get i).length = sz) (hget : ∀ i k c x, i < n → (get i)[k]? = some c → xs[i * sz + k]? = some x → R w' (.ext J) c x) : Post w0 (.ext J) [] (fun _ => False) key ⟨ob, .own key 0 n sz, .many [] (some (famN n sz ty get none))⟩ w v w' := by
  have hR' := hR.stay hb
  have hsame : Same J w w' := fun b hb' => hb.block b (hR.imm2 b hb').1
  have main : ∀ gb cap : Nat, w.heap.size ≤ gb → n ≤ cap → (0 < cap → ∃ c : Array Value, w'.heap[gb]? = some (.cells c ty (0, 0)) ∧ c.size = cap * sz ∧ c.toList.take (n * sz) = xs) →
      Rel w0 (Env.add (.ext J) key gb cap) (insRow key (famN n sz ty get none) []) (fun r => False ∨ r = key) w' := fun gb cap hg hn hc => by
    have bk : ∀ f, (Env.add (.ext J) key gb cap).blk key f = gb := fun f => by simp [Env.add]
    have cp : ∀ f, (Env.add (.ext J) key gb cap).cap key f = if f = 0 then cap else 0 := fun f => by simp [Env.add]
    have lk : ∀ r x, look (insRow key (famN n sz ty get none) []) r = some x → r = key ∧ x = famN n sz ty get none := fun r x hx => by
      simp only [insRow, look] at hx
      split at hx
      · rename_i e; cases hx; exact ⟨e.symm, rfl⟩
      · cases hx
    have hnJ : ¬ J gb := fun h => by have := (hR.imm2 gb h).1; omega
    have hw0 : w0.heap.size ≤ w.heap.size := hR.below.size
    refine ⟨hR'.below, fun b hb => hR'.imm2 b hb, fun r hr => ?_, fun r x hx => .inr (lk r x hx).1, fun r x f hx hg' => ?_, fun r x f r' x' f' hx hx' hg1 hg2 hc1 hc2 e => ?_, fun p hp => ?_, fun p hp => hR'.kept p hp⟩
    · rcases hr with hr | hr
      · exact .inl hr
      · exact .inr hr
    · obtain ⟨rfl, rfl⟩ := lk r x hx
      refine ⟨.inr rfl, ?_⟩
      match f with
      | 0 =>
        refine ⟨by rw [cp]; exact hn, fun h => ?_, fun i hi => hlen i hi, fun i k c x hi h1 h2 => ?_⟩
        · rw [cp, if_pos rfl] at h
          obtain ⟨c, h1, h2, h3⟩ := hc h
          rw [bk, cp, if_pos rfl]
          exact ⟨by omega, hnJ, _, h1, .inl ⟨c, rfl, h2, hty⟩⟩
        · have hi : i < n := hi
          have hcap : 0 < cap := by omega
          obtain ⟨cc, k1, k2, k3⟩ := hc hcap
          rw [bk] at h2
          have hk : k < sz := by
            have : (get i)[k]? = some c := h1
            have h4 := (List.getElem?_eq_some_iff.1 this).1
            rw [hlen i hi] at h4
            exact h4
          have hlt : i * sz + k < n * sz := by
            have := Nat.mul_le_mul_right sz (show i + 1 ≤ n by omega)
            rw [Nat.add_mul] at this
            omega
          have hx : xs[i * sz + k]? = some x := by
            have h2 : Has w' gb (i * sz + k) x := h2
            unfold Has World.cell? at h2
            simp only [k1] at h2
            rw [← k3, List.getElem?_take, if_pos hlt, Array.getElem?_toList]
            exact h2
          exact (hget i k c x hi h1 hx).mono ⟨fun r h => h.elim, fun r f h => h.elim, fun r f h => h.elim, fun b h => h⟩ (fun b hb => rfl)
      | f + 1 => exact ⟨by rw [cp]; exact Nat.zero_le _, fun h => by rw [cp, if_neg (by omega)] at h; omega, fun i hi => by have hi : i < 0 := hi; omega, fun i k c x hi => by have hi : i < 0 := hi; omega⟩
    · obtain ⟨rfl, _⟩ := lk r x hx
      obtain ⟨rfl, _⟩ := lk r' x' hx'
      refine ⟨rfl, ?_⟩
      rw [cp] at hc1 hc2
      have a1 : f = 0 := Classical.byContradiction fun h => by rw [if_neg h] at hc1; omega
      have a2 : f' = 0 := Classical.byContradiction fun h => by rw [if_neg h] at hc2; omega
      rw [a1, a2]
    · obtain ⟨p1, p2, p3, p4⟩ := hR.fix p hp
      refine ⟨p1, fun r x f hx hg1 hc1 e => ?_, p3, (hR'.fix p hp).2.2.2⟩
      obtain ⟨rfl, _⟩ := lk r x hx
      rw [bk] at e
      have := (Array.getElem?_eq_some_iff.1 p4).1
      omega
  rcases hrow with ⟨hl, ⟨rfl, rfl⟩ | ⟨g, cap, cur, rfl, h1, h2, h3, h4, h5, h6⟩⟩
  · refine ⟨Env.add (.ext J) key w.heap.size 0, ?_, main _ 0 (Nat.le_refl _) (Nat.le_refl _) (fun h => by omega), Env.le_add (fun h => h.elim), hsame⟩
    have h := R.own (w := w') (ρ := Env.add (.ext J) key w.heap.size 0) (r := key) (f := 0) (n := 0) (sz := sz) (a := none) (.inr rfl) (Nat.zero_le _) (fun h => by simp [Env.add] at h)
    have e : (Env.add (.ext J) key w.heap.size 0).cap key 0 = 0 := by simp [Env.add]
    rw [e] at h
    exact h
  · refine ⟨Env.add (.ext J) key g cap, ?_, main g cap h1 h3 (fun _ => ⟨cur, h2, h5, h6⟩), Env.le_add (fun h => h.elim), hsame⟩
    have e1 : (Env.add (.ext J) key g cap).cap key 0 = cap := by simp [Env.add]
    have e2 : (Env.add (.ext J) key g cap).blk key 0 = g := by simp [Env.add]
    have h := R.own (w := w') (ρ := Env.add (.ext J) key g cap) (r := key) (f := 0) (n := n) (sz := sz) (a := some ⟨g, 0, none⟩) (.inr rfl) (by rw [e1]; exact h3) (fun h => by rw [e2])
    rw [e1] at h
    exact h
def vInt : Value → Int
  | .int _ z => z
  | _ => 0
/-- The map that lies behind a map's value, for the shelf. -/
theorem MapIs.owns {P : Program} {k : TypeId} (hk : P.underlying k = some (.int .i64)) {n b : Nat} {L : Ents} {ob : Go.Obj} {w : World} (hb : w.heap[b]? = some ob) (h : MapIs n L ob) (hl : L.length ≤ maxLen) :
    ∃ D0 : DataW Unit, w.ownsMap P k (fun _ => some (.nil, [])) b L.length D0 ∧ (intKeys D0).Perm (L.map (·.1)) ∧ Maps.size D0 = L.length := by
  obtain ⟨es, clock, rfl, hst, hp, hnd, hall⟩ := h
  have hlen : es.size = L.length := by have := hp.length_eq; simpa using this
  have hrd : ∀ x ∈ es.toList, ∃ p ∈ L, x.key = .int .i64 p.1 ∧ WideElems.rd P k (fun _ => some ((.nil : DataW Unit), [])) x = some (.int .i64 p.1, .nil) := fun x hx => by
    have : (x.key, x.val) ∈ L.map entV := hp.mem_iff.1 (List.mem_map.2 ⟨x, hx, rfl⟩)
    obtain ⟨p, hp1, hp2⟩ := List.mem_map.1 this
    have e : x.key = .int .i64 p.1 := by have := congrArg Prod.fst hp2; exact this.symm
    refine ⟨p, hp1, e, ?_⟩
    unfold WideElems.rd
    rw [e]
    obtain ⟨k1, k2⟩ := (hall p hp1).2
    have hmin : IntKind.i64.min = -9223372036854775808 := by decide
    have hmax : IntKind.i64.max = 9223372036854775807 := by decide
    rw [keyOf_int_mk hk (by simp only [Lit.wf, hmin, hmax, Bool.and_eq_true, decide_eq_true_eq]; omega)]
    rfl
  have hperm : ((es.toList.map (WideElems.rg P k (fun _ => some ((.nil : DataW Unit), [])))).map fun p => intOf p.1) = (es.toList.map fun e => (e.key, e.val)).map fun q : Value × Value => vInt q.1 := by
    rw [List.map_map, List.map_map]
    refine List.map_congr_left fun x hx => ?_
    obtain ⟨p, hp1, e, hr⟩ := hrd x hx
    simp only [Function.comp, WideElems.rg, hr, e, Option.getD, vInt, intOf]
  refine ⟨_, ⟨es, clock, hb, ⟨by omega, hst, fun x hx => ?_⟩, by omega, rfl⟩, ?_, ?_⟩
  · obtain ⟨p, hp1, e, hr⟩ := hrd x hx
    exact ⟨_, hr⟩
  · show (List.map (fun p : Lit × DataW Unit => intOf p.1) _).Perm _
    refine ((WideShapes.sorted_perm _).map _).trans ?_
    rw [hperm]
    refine (hp.map _).trans ?_
    rw [List.map_map]
    exact List.Perm.of_eq (List.map_congr_left fun p hp => rfl)
  · show List.length _ = _
    rw [length_sorted]
    simpa using hlen
def mcKf (key : Nat) : Option (List Prop × (Nat → AV) × (Nat → Option Fam)) → Option Eff
  | some (ob, v, nw) => some ⟨ob, v key, .many [] (nw key)⟩
  | none => none
theorem mcK_eq {F : List AV → Option (List Prop × (Nat → AV) × (Nat → Option Fam))} {key : Nat} {m : Mem} {es : List AV} : mcK F key m es = mcKf key (F es) := by
  unfold mcK mcKf
  cases F es <;> rfl
theorem mcKf_some {key : Nat} {ob : List Prop} {v : Nat → AV} {nw : Nat → Option Fam} : mcKf key (some (ob, v, nw)) = some ⟨ob, v key, .many [] (nw key)⟩ := (rfl)
attribute [go_sem] mcK_eq mcKf_some
def F108 : List AV → Option (List Prop × (Nat → AV) × (Nat → Option Fam))
  | [.rm 4 L] => some ([], fun k => .fn 131 [.bx k 0], fun k => some (fam1 101 1 [.rm 4 L] none))
  | _ => none
noncomputable def mN108 : MCon := mcK F108
theorem mN108_eq : mN108 = mcK F108 := (rfl)
theorem F108_eq {L : Ents} : F108 [.rm 4 L] = some ([], fun k => .fn 131 [.bx k 0], fun k => some (fam1 101 1 [.rm 4 L] none)) := (rfl)
attribute [go_sem] mN108_eq F108_eq
theorem fnKey {key r : Nat} {ty : TypeId} {sz : Nat} {c : AV} {f : FuncId} {m1 : Mem} (hc : clean 3 c = true) (h : look m1 r = some (fam1 ty sz [c] none)) : NewP key 0 (.fn f [.bx r 0]) m1 (.fn f [.bx key 0]) (some (fam1 ty sz [c] none)) := by
  refine newP_list [(r, 0)] (by simp) (by simp) (fun c hc => ?_) (fun ks hks => ?_) (fun ks hks f r' g hf => ?_) (fun f hf => ?_)
  · simp only [List.mem_cons, List.not_mem_nil, or_false] at hc
    subst hc
    exact .inr (by simp [sgP])
  · show AV.fn _ [AV.bx key 0] = AV.fn _ [AV.bx (thL ks key (ixP [(r, 0)]) r 0).1 0]
    simp only [thL]
    rw [if_neg (by omega)]
  · match f, hf with
    | 0, hf =>
      cases hf
      refine ⟨_, h, ⟨rfl, rfl, rfl, rfl, fun j hj => ?_⟩, by simp [fam1]⟩
      have hh : ∀ a ∈ [c], clean 3 a = true := by simpa using hc
      obtain ⟨k1, k2⟩ := cleans_ren (θ := thL ks key (ixP [(r, 0)])) (g := newG 0 (sgP [(r, 0)]) (ixP [(r, 0)])) (B := newB 0 (sgP [(r, 0)])) hh
      exact ⟨k1.symm, k2⟩
    | f + 1, hf => simp at hf
  · have : 1 ≤ f := hf
    simp only [fam1]
    rw [if_neg (by omega)]
theorem mon108 : MConOK Tryz.prog 108 mN108 := MConOK.mcK (G := []) (H := []) .nil Tryz.func108 fun es ob v nw hF hob => by
  unfold F108 at hF
  split at hF
  · rename_i L
    cases hF
    refine ⟨by simp [clean], by kernel_rfl, fun key => bodyM_go (rs := [.tmp 2]) rfl rfl ?_⟩
    simp only [go_sem]
    exact fnKey rfl rfl
  · cases hF
/-- The ids, sorted. -/
def srtK (L : Ents) : List Int := (L.map (·.1)).mergeSort (fun x y => decide (x ≤ y))
theorem srtK_len {L : Ents} : (srtK L).length = L.length := by simp [srtK]
/-- The sorted ids, out of what the iterator over the map captured. -/
def oneRm (fam : Fam) : Option Ents := match (fam 0).n, (fam 0).g, (fam 0).get 0 with
  | 1, none, [.rm 4 L] => some L
  | _, _, _ => none
def F107 (key : Nat) : Option Ents → Option Eff
  | some L => some ⟨[L.length ≤ 1000], .own key 0 L.length 1, .many [] (some (famN L.length 1 3 (fun i => [i64 ((srtK L).getD i 0)]) none))⟩
  | none => none
def M107 (key : Nat) : Option Fam → Option Eff
  | some fam => F107 key (oneRm fam)
  | none => none
def mN107 : MCon := fun key m es => match es with
  | [.fn 131 [.bx r 0]] => M107 key (look m r)
  | _ => none
theorem mN107_eq {key r : Nat} {m : Mem} : mN107 key m [.fn 131 [.bx r 0]] = M107 key (look m r) := (rfl)
theorem M107_1 {key : Nat} {ty : TypeId} {sz : Nat} {L : Ents} : M107 key (some (fam1 ty sz [.rm 4 L] none)) = some ⟨[L.length ≤ 1000], .own key 0 L.length 1, .many [] (some (famN L.length 1 3 (fun i => [i64 ((srtK L).getD i 0)]) none))⟩ := (rfl)
attribute [go_sem] mN107_eq M107_1
theorem mon107 : MConOK Tryz.prog 107 mN107 := by
  intro w0 ρ m m' D w key aas vs e hR hk hm hRs hc hob _
  unfold mN107 at hc
  split at hc
  · rename_i r
    unfold M107 at hc
    split at hc
    · rename_i fam hl
      unfold F107 at hc
      split at hc
      · rename_i L hL
        cases hc
        have hlen : L.length ≤ 1000 := hob _ (by simp)
        unfold oneRm at hL
        split at hL
        · rename_i g1 g2 g3
          cases hL
          obtain ⟨y, ys, rfl, k1, k2⟩ := hRs.inv
          have hy0 : ys = [] := by have := k2.1; simpa using this
          subst hy0
          cases k1 with
          | fn hlv hv =>
            rename_i cap
            match cap, hlv with
            | [x], _ =>
              have hx := hv 0 _ x rfl rfl
              cases hx with
              | bx hd =>
                obtain ⟨q1, q2⟩ := hR.row r fam 0 (hm _ _ hl) (by rw [g2]; simp)
                obtain ⟨b1, b2, cc, b3, b4⟩ := q2.cells (by omega)
                have hsz : (fam 0).sz = 1 := by have := q2.len 0 (by omega); rw [g3] at this; exact this.symm
                have hcap : 0 < ρ.cap r 0 := by have := q2.n_le; omega
                have hcs : 0 < cc.size := by rw [b4, hsz]; omega
                have hHas : Has w (ρ.blk r 0) (0 * (fam 0).sz + 0) cc[0] := by
                  unfold Has World.cell?
                  simp [b3, hcs]
                have hrm := q2.rel 0 0 (.rm 4 L) cc[0] (by omega) (by rw [g3]; rfl) hHas
                have hcell : w.cell? ⟨ρ.blk r 0, 0, none⟩ = some cc[0] := by
                  have := hHas
                  rw [Nat.zero_mul] at this
                  exact this
                generalize cc[0] = z at hrm hcell
                cases hrm with
                | rm b hi hb hM =>
                  obtain ⟨D0, h1, h2, h3⟩ := MapIs.owns (P := Tryz.prog) (k := 3) Tryz.underlying3 hb hM (by unfold maxLen; omega)
                  have hblt : ρ.blk r 0 < w.heap.size := (Array.getElem?_eq_some_iff.1 b3).1
                  refine .inr ⟨enters_of Tryz.func107 (by kernel_rfl) rfl _ _, (Tryz.sorted_keys (ρ.blk r 0) b L.length D0 _ w hblt hcell h1 (by rw [h3]; unfold maxLen; omega) (by rw [h3]; omega)).mono fun e w' ⟨v, ss, he, hp, hrow, _, hbl⟩ => ⟨v, he, ?_⟩⟩
                  have hs : ss.mergeSort (fun x y => decide (x ≤ y)) = srtK L := mergeSort_of_perm_i (hp.trans h2)
                  have hn : ss.length = L.length := by have := (hp.trans h2).length_eq; simpa using this
                  rw [hs, hn] at hrow
                  refine view_post hR hk (by simp [nk]) (by rw [okN_some, famNK_ints]; trivial) (slice_post (ob := []) (by decide) (view_rel hR) hbl hrow (fun i hi => rfl) fun i k c x hi h1 h2 => ?_)
                  match k, h1 with
                  | 0, h1 =>
                    cases h1
                    simp only [Nat.mul_one, Nat.add_zero, List.getElem?_map, Option.map_eq_some_iff] at h2
                    obtain ⟨z, h5, rfl⟩ := h2
                    rw [List.getD_eq_getElem?_getD, h5]
                    exact .v
                  | k + 1, h1 => simp at h1
        · cases hL
      · cases hc
    · cases hc
  · cases hc
def F59 : List AV → Option (List Prop × (Nat → AV) × (Nat → Option Fam))
  | [.rop [.rm 4 L]] => some ([L.length ≤ 1000], fun k => .own k 0 L.length 1, fun k => some (famN L.length 1 3 (fun i => [i64 ((srtK L).getD i 0)]) none))
  | _ => none
noncomputable def mN59 : MCon := mcKU F59
theorem mN59_eq : mN59 = mcKU F59 := (rfl)
theorem F59_eq {L : Ents} : F59 [.rop [.rm 4 L]] = some ([L.length ≤ 1000], fun k => .own k 0 L.length 1, fun k => some (famN L.length 1 3 (fun i => [i64 ((srtK L).getD i 0)]) none)) := (rfl)
attribute [go_sem] mN59_eq F59_eq
theorem mon59 : MConOK Tryz.prog 59 mN59 := MConOK.mkU (G := [(75, c75), (108, .wr mN108), (107, .wr mN107)]) (H := []) (.cons con75 (.mcons mon108 (.mcons mon107 .nil))) Tryz.func59 fun es ob v nw hF hob => by
  unfold F59 at hF
  split at hF
  · rename_i L
    cases hF
    have h2 : L.length ≤ 1000 := hob _ (by simp)
    refine ⟨[.rop [.rm 4 L]], fun w I vs hR => hR, by simp [clean], by kernel_rfl, fun key => bodyM_go (rs := [.tmp 2]) rfl rfl ?_⟩
    simp only [go_sem, c75, h2]
    rintro z rfl
    exact ⟨fun h => (by cases h), fun _ => newN rfl (Nat.zero_le _) fun j hj => ⟨rfl, fun c hc => by
      simp only [List.mem_cons, List.not_mem_nil, or_false] at hc
      subst hc; rfl⟩⟩
  · cases hF
end Go.Ax
end

section
/-
  Exact whole numbers of two words.
-/
set_option linter.unusedVariables false
set_option linter.unusedSimpArgs false
set_option maxHeartbeats 1000000
set_option maxRecDepth 100000
namespace Go.Ax
open Go.Proofs

/-! ### Sums with a carry -/
theorem Pur.run {P : Program} {f : FuncId} {es : List AV} {r : AV} (h : ∀ (I : Nat → Prop) (w : World) (vs : List Value), (∀ b, I b → b < w.heap.size) → Rs w (.ext I) es vs → ∃ v, (callFunc f vs.toArray).run P w = .ok (.value v) w ∧ R w (.ext (New I w w)) r v) : Pur P f es r := fun I w vs hI hR => by
  obtain ⟨v, h1, h2⟩ := h I w vs hI hR
  exact .inl ⟨v, w, h1, h2, RowKit.Below.refl _ _⟩
theorem R_v {w : World} {ρ : Env} {x v : Value} (h : R w ρ (.v x) v) : v = x := by cases h; rfl
theorem R_tup2 {w : World} {ρ : Env} {x y : Value} : R w ρ (.tup [.v x, .v y]) (.tuple #[x, y]) := .tup (vs := [x, y]) (by simp) fun i a z e1 e2 => by
  match i with
  | 0 => cases e1; cases e2; exact .v
  | 1 => cases e1; cases e2; exact .v
  | i + 2 => simp at e1
def cz217 : Con
  | [.v (.int .u64 x), .v (.int .u64 y), .v (.int .u64 c)] => some ([inU x, inU y, 0 ≤ c ∧ c ≤ 1], .tup [u64 ((x + y + c) % 18446744073709551616), u64 ((x + y + c) / 18446744073709551616)])
  | _ => none
def cz218 : Con
  | [.v (.int .u64 x), .v (.int .u64 y), .v (.int .u64 c)] => some ([inU x, inU y, 0 ≤ c ∧ c ≤ 1], .tup [u64 ((x - y - c) % 18446744073709551616), u64 (if x < y + c then 1 else 0)])
  | _ => none
/-- The model's row for Sub64. -/
def sub64Row : Array Value → Sem Value := fun vs => do
  let (x, y, b) ← Extern.MathBitsCarry.three "Sub64" vs
  pure (Extern.MathBitsCarry.pair ((x + Extern.MathBitsCarry.m64 - y - b) % Extern.MathBitsCarry.m64) (if x < y + b then 1 else 0))
theorem run_sub64Row {P : Program} (x y c : Nat) (hx : x < 18446744073709551616) (hy : y < 18446744073709551616) (hc : c ≤ 1) (w : World) :
    (sub64Row #[.int .u64 (x : Int), .int .u64 (y : Int), .int .u64 (c : Int)]).run P w = .ok (.tuple #[.int .u64 (((x : Int) - y - c) % 18446744073709551616), .int .u64 (if (x : Int) < y + c then 1 else 0)]) w := by
  have key : (sub64Row #[.int .u64 (x : Int), .int .u64 (y : Int), .int .u64 (c : Int)]).run P w = .ok (Extern.MathBitsCarry.pair ((x + Extern.MathBitsCarry.m64 - y - c) % Extern.MathBitsCarry.m64) (if x < y + c then 1 else 0)) w := by
    have : c = 0 ∨ c = 1 := by omega
    rcases this with rfl | rfl <;> rfl
  rw [key]
  have e1 : Int.ofNat ((x + Extern.MathBitsCarry.m64 - y - c) % Extern.MathBitsCarry.m64) = ((x : Int) - y - c) % 18446744073709551616 := by
    have : Extern.MathBitsCarry.m64 = 18446744073709551616 := by decide
    rw [this]
    show ((((x + 18446744073709551616 - y - c) % 18446744073709551616 : Nat)) : Int) = _
    omega
  have e2 : Int.ofNat (if x < y + c then 1 else 0) = if (x : Int) < y + c then 1 else 0 := by
    by_cases h : x < y + c
    · rw [if_pos h, if_pos (by omega)]; rfl
    · rw [if_neg h, if_neg (by omega)]; rfl
  unfold Extern.MathBitsCarry.pair
  rw [e1, e2]
/-- An exact value: of the program, and of the reference. -/
abbrev ex (g : Bool) (m : Int) : AV := .agg [bo g, u64 (m % 18446744073709551616), u64 (m / 18446744073709551616)]
abbrev wd (g : Bool) (m : Int) : AV := .agg [bo g, u64 (m / 18446744073709551616), u64 (m % 18446744073709551616)]
def jn (h l : Int) : Int := h * 18446744073709551616 + l
theorem jn_mod {h l : Int} (hl : inU l) : jn h l % 18446744073709551616 = l := by unfold jn; unfold inU at hl; omega
theorem jn_div {h l : Int} (hl : inU l) : jn h l / 18446744073709551616 = h := by unfold jn; unfold inU at hl; omega
theorem mod_jn (m : Int) : jn (m / 18446744073709551616) (m % 18446744073709551616) = m := by unfold jn; omega

def cz199 : Con
  | [.v (.int .i64 v)] => some ([inR v], ex (decide (v < 0)) (ab v))
  | _ => none
def cz230 : Con
  | [.v (.int .u64 v)] => some ([], bo false)
  | _ => none
def cmpS (x y : Int) : Int := if x < y then -1 else if y < x then 1 else 0
def cz227 : Con
  | [.v (.int .u64 x), .v (.int .u64 y)] => some ([], i64 (cmpS x y))
  | _ => none
def cz196 : Con
  | [.agg [.v (.bool g), .v (.int .u64 l), .v (.int .u64 h)]] => some ([inU l, inU h], ex g (jn h l / 4294967296))
  | _ => none
def cz200 : Con
  | [.agg [.v (.bool g), .v (.int .u64 l), .v (.int .u64 h)]] => some ([inU l, inU h, h < 4294967296], ex g (jn h l * 4294967296))
  | _ => none
def cz197 : Con
  | [.agg [.v (.bool g), .v (.int .u64 l), .v (.int .u64 h)], .v (.bool f)] => some ([inU l, inU h], .agg [i64 (ftV (sgn g (jn h l))), bo (ftF (sgn g (jn h l)) || f)])
  | _ => none
def cz186 : Con
  | [.v (.int .u64 x), .v (.int .u64 y)] => some ([inU x, inU y], .tup [u64 (x * y / 18446744073709551616), u64 (x * y % 18446744073709551616)])
  | _ => none
end Go.Ax
end

section
/-
  Sums and products of exact values; numbers.
-/
set_option linter.unusedVariables false
set_option linter.unusedSimpArgs false
set_option maxHeartbeats 1000000
set_option maxRecDepth 100000
namespace Go.Ax
open Go.Proofs

/-! ### Comparing -/
def orS (X : Nat → Int) : Nat → Nat → Int
  | _, 0 => 0
  | i, k + 1 => if X i ≠ 0 then X i else orS X (i + 1) k
def c67 : Con
  | [.ro n 1 g] => some ([∀ i, i < n → g i = [i64 (gx g 0 i)], n ≤ 1000], i64 (orS (gx g 0) 0 n))
  | _ => none
theorem vc67 (n : Nat) (X : Nat → Int) (hn : n ≤ 1000) : fnVC Tryz.prog [] [] Tryz.f67 [.ro n 1 fun i => [i64 (X i)]] (· = i64 (orS X 0 n)) := by
  refine fnVC_go (rs := [.tmp 2]) rfl rfl ?_
  simp only [go_sem]
  refine loopC_go (fun (i : Nat) => i ≤ n ∧ orS X 0 n = orS X i (n - i)) (fun i => n - i) (fun i => [(8, i64 i)]) (fun _ => []) [] [9, 10, 11, 5, 12, 13, 14, 15, 2, 16, 8] 0 (by kernel_rfl) ?_ ⟨Nat.zero_le _, rfl⟩ ?_ ?_
  · intro x _; simp [goodNames]
  · simp only [go_sem]
  · intro i hi
    simp only [go_sem]
    refine ⟨fun h => ⟨by omega, h, fun hx => ?_, fun hx z hz => ⟨i + 1, ⟨by omega, ?_⟩, by omega, ?_⟩⟩, fun h => ?_⟩
    · rw [hi.2, show n - i = (n - i - 1) + 1 by omega]
      unfold orS
      rw [if_pos (by simpa using hx)]
    · rw [hi.2, show n - i = (n - i - 1) + 1 by omega]
      conv => lhs; unfold orS
      rw [if_neg (by simpa using hx)]
      rw [show n - (i + 1) = n - i - 1 by omega]
    · rw [hz, wrap_in (by unfold inR; omega)]; rfl
    · rw [hi.2, show n - i = 0 by omega]; rfl
theorem con67 : ConOK Tryz.prog 67 c67 := ConOK.go (G := []) (H := []) .nil Tryz.func67 fun l ob r hc hob => by
  unfold c67 at hc
  split at hc
  · rename_i n g
    cases hc
    have hs : ∀ i, i < n → g i = [i64 (gx g 0 i)] := hob _ (by simp)
    refine ⟨[.ro n 1 fun i => [i64 (gx g 0 i)]], fun w I vs h => Rs_one (fun v => ro_alike fun i hi => hs i hi) h, by kernel_rfl, vc67 n _ (hob _ (by simp))⟩
  · cases hc
def cz221 : Con
  | [.agg [.v (.int .u64 l), .v (.int .u64 h)], .agg [.v (.int .u64 k), .v (.int .u64 i)]] => some ([inU l, inU h, inU k, inU i], i64 (cmpS (jn h l) (jn i k)))
  | _ => none
def cz194 : Con
  | [.v (.int .i64 a), .v (.int .i64 b)] => some ([inR a, inR b], ex (decide (a < 0) != decide (b < 0)) (ab (a * b)))
  | _ => none
def plG (g : Bool) (m : Int) (g' : Bool) (m' : Int) : Bool := if g = g' then g else if m < m' then g' else g
def plM (g : Bool) (m : Int) (g' : Bool) (m' : Int) : Int := if g = g' then m + m' else if m < m' then m' - m else m - m'
def cz195 : Con
  | [.agg [.v (.bool g), .v (.int .u64 l), .v (.int .u64 h)], .agg [.v (.bool g'), .v (.int .u64 k), .v (.int .u64 i)]] => some ([inU l, inU h, inU k, inU i, jn h l + jn i k < 340282366920938463463374607431768211456], ex (plG g (jn h l) g' (jn i k)) (plM g (jn h l) g' (jn i k)))
  | _ => none
def cz153 : Con
  | [.agg [.v (.int .i64 v), .v (.bool f)]] => some ([], .agg [i64 (whV v), bo (whF v f)])
  | _ => none
theorem pl_sgn {g g' : Bool} {m m' : Int} : sgn (plG g m g' m') (plM g m g' m') = sgn g m + sgn g' m' := by
  unfold sgn plG plM
  cases g <;> cases g' <;> simp <;> (try split) <;> (try simp) <;> omega
theorem plM_nonneg {g g' : Bool} {m m' : Int} (h : 0 ≤ m) (h' : 0 ≤ m') : 0 ≤ plM g m g' m' := by
  unfold plM; split
  · omega
  · split <;> omega
theorem plM_le {g g' : Bool} {m m' : Int} (h : 0 ≤ m) (h' : 0 ≤ m') : plM g m g' m' ≤ m + m' := by
  unfold plM; split
  · omega
  · split <;> omega
theorem sgn_div {g : Bool} {m d : Int} (hm : 0 ≤ m) : sgn g (m / d) = (sgn g m).tdiv d := by
  have e : m / d = m.tdiv d := (Int.tdiv_eq_ediv_of_nonneg hm).symm
  unfold sgn
  cases g
  · simpa using e
  · simp only [if_true]
    rw [e, Int.neg_tdiv]
theorem sgn_mul_sgn {a b : Int} : sgn (decide (a < 0) != decide (b < 0)) (ab (a * b)) = a * b := by
  rw [ab_natAbs]
  rcases Int.lt_or_le a 0 with ha | ha <;> rcases Int.lt_or_le b 0 with hb | hb
  · have := Int.mul_pos_of_neg_of_neg ha hb
    unfold sgn; simp [ha, hb]; omega
  · have := Int.mul_nonpos_of_nonpos_of_nonneg (Int.le_of_lt ha) hb
    unfold sgn; rw [decide_eq_true ha, decide_eq_false (by omega)]; simp; omega
  · have := Int.mul_nonpos_of_nonneg_of_nonpos ha (Int.le_of_lt hb)
    unfold sgn; rw [decide_eq_true hb, decide_eq_false (by omega)]; simp; omega
  · have := Int.mul_nonneg ha hb
    unfold sgn; rw [decide_eq_false (by omega), decide_eq_false (by omega)]; simp; omega
end Go.Ax
end

section
/-
  Numbers: the program's arithmetic.
-/
set_option linter.unusedVariables false
set_option linter.unusedSimpArgs false
set_option maxHeartbeats 1000000
set_option maxRecDepth 100000
namespace Go.Ax
open Go.Proofs

/-! ### Truth values in cells -/
def gib (cs : List AV) (k : Nat) : Bool := match cs[k]? with
  | some (.v (.bool b)) => b
  | _ => false
theorem gib_1 {a : AV} {x : Bool} {l : List AV} : gib (a :: .v (.bool x) :: l) 1 = x := (rfl)
def gb (g : Nat → List AV) (k i : Nat) : Bool := gib (g i) k
theorem gb_eq {g : Nat → List AV} {k i : Nat} : gb g k i = gib (g i) k := (rfl)
attribute [go_sem] gb_eq gib_1
def anyB (G : Nat → Bool) : Nat → Bool
  | 0 => false
  | n + 1 => anyB G n || G n
theorem anyB_iff {G : Nat → Bool} : ∀ {n : Nat}, anyB G n = true ↔ ∃ i, i < n ∧ G i = true
  | 0 => by simp [anyB]
  | n + 1 => by
    unfold anyB
    rw [Bool.or_eq_true, anyB_iff]
    constructor
    · rintro (⟨i, h1, h2⟩ | h)
      · exact ⟨i, by omega, h2⟩
      · exact ⟨n, by omega, h⟩
    · rintro ⟨i, h1, h2⟩
      by_cases e : i = n
      · subst e; exact .inr h2
      · exact .inl ⟨i, by omega, h2⟩
def nums (n : Nat) (g : Nat → List AV) : Prop := ∀ i, i < n → g i = [i64 (gx g 0 i), bo (gb g 1 i)] ∧ inR (gx g 0 i)
/-- A number with the value x, if there is one. -/
abbrev nu (x : Int) (f : Bool) : AV := .agg [i64 (ftV x), bo (ftF x || f)]

def cz198 : Con
  | [.ro n 2 g] => some ([nums n g, n ≤ 1000], bo (anyB (gb g 1) n))
  | _ => none
theorem nums2 {a b : Int} {e f : Bool} {g : Nat → List AV} (h0 : g 0 = [i64 a, bo e]) (h1 : g 1 = [i64 b, bo f]) (ha : inR a) (hb : inR b) : nums 2 g := by
  intro i hi
  have : i = 0 ∨ i = 1 := by omega
  rcases this with rfl | rfl
  · simp only [gx, gb, h0, gi_0, gib_1]; exact ⟨trivial, ha⟩
  · simp only [gx, gb, h1, gi_0, gib_1]; exact ⟨trivial, hb⟩
theorem nums4 {a b c d : Int} {e f p q : Bool} {g : Nat → List AV} (h0 : g 0 = [i64 a, bo e]) (h1 : g 1 = [i64 b, bo f]) (h2 : g 2 = [i64 c, bo p]) (h3 : g 3 = [i64 d, bo q]) (ha : inR a) (hb : inR b) (hc : inR c) (hd : inR d) : nums 4 g := by
  intro i hi
  have : i = 0 ∨ i = 1 ∨ i = 2 ∨ i = 3 := by omega
  rcases this with rfl | rfl | rfl | rfl
  · simp only [gx, gb, h0, gi_0, gib_1]; exact ⟨trivial, ha⟩
  · simp only [gx, gb, h1, gi_0, gib_1]; exact ⟨trivial, hb⟩
  · simp only [gx, gb, h2, gi_0, gib_1]; exact ⟨trivial, hc⟩
  · simp only [gx, gb, h3, gi_0, gib_1]; exact ⟨trivial, hd⟩
theorem any2 {a b : Int} {e f : Bool} {g : Nat → List AV} (h0 : g 0 = [i64 a, bo e]) (h1 : g 1 = [i64 b, bo f]) : anyB (gb g 1) 2 = (e || f) := by
  simp only [anyB, gb, h0, h1, gib_1, Bool.false_or]
theorem any4 {a b c d : Int} {e f p q : Bool} {g : Nat → List AV} (h0 : g 0 = [i64 a, bo e]) (h1 : g 1 = [i64 b, bo f]) (h2 : g 2 = [i64 c, bo p]) (h3 : g 3 = [i64 d, bo q]) : anyB (gb g 1) 4 = (e || f || p || q) := by
  simp only [anyB, gb, h0, h1, h2, h3, gib_1, Bool.false_or]

/-! ### What comes of exact values -/
theorem inU_mod {x : Int} : inU (x % 18446744073709551616) := by unfold inU; omega
theorem inU_div {x : Int} (h : 0 ≤ x) (h2 : x < 340282366920938463463374607431768211456) : inU (x / 18446744073709551616) := by unfold inU; omega
theorem sgn_ab_div {g : Bool} {x d : Int} : sgn g (ab x / d) = (sgn g (ab x)).tdiv d := sgn_div (ab_nonneg x)
theorem sgn_pl_div {g : Bool} {e f : Bool} {x y d : Int} : sgn g (plM e (ab x) f (ab y) / d) = (sgn g (plM e (ab x) f (ab y))).tdiv d := sgn_div (plM_nonneg (ab_nonneg x) (ab_nonneg y))
theorem ab_le {x k : Int} (h : -k ≤ x) (h2 : x ≤ k) : ab x ≤ k := by unfold ab; split <;> omega
theorem mul_rg {a b : Int} (ha : inR a) (hb : inR b) : ab (a * b) ≤ 85070591730234615865843651857942052864 := by
  unfold inR at ha hb
  have em : ab (a * b) = ab a * ab b := by rw [ab_natAbs, ab_natAbs, ab_natAbs, Int.natAbs_mul, Int.natCast_mul]
  rw [em]
  have h1 : ab a ≤ 9223372036854775808 := ab_le (by omega) (by omega)
  have h2 : ab b ≤ 9223372036854775808 := ab_le (by omega) (by omega)
  exact Int.le_trans (Int.mul_le_mul h1 h2 (ab_nonneg b) (by omega)) (by omega)
theorem inR_wh {v : Int} (h : inR v) : inR (whV v) := rg_inR (whV_rg h)
theorem rows2 {a b c d : AV} : rowsOf 2 [a, b, c, d] 0 = [a, b] ∧ rowsOf 2 [a, b, c, d] 1 = [c, d] := ⟨rfl, rfl⟩

def c112 : Con
  | [.v (.int .i64 v)] => some ([], bo false)
  | _ => none
theorem con112 : ConOK Tryz.prog 112 c112 := ConOK.of (G := []) (H := []) .nil Tryz.func112 fun l ob r hc hob => by
  unfold c112 at hc
  split at hc
  · rename_i v
    cases hc
    refine ⟨by kernel_rfl, fnVC_go (rs := [.tmp 2]) rfl rfl ?_⟩
    simp only [go_sem]
    exact bne_self
  · cases hc
def c68 : Con
  | [.v (.int .i64 x), .v (.int .i64 y)] => some ([], i64 (cmpS x y))
  | _ => none
theorem con68 : ConOK Tryz.prog 68 c68 := ConOK.of (G := [(112, c112)]) (H := []) (.cons con112 .nil) Tryz.func68 fun l ob r hc hob => by
  unfold c68 at hc
  split at hc
  · rename_i x y
    cases hc
    refine ⟨by kernel_rfl, fnVC_go (rs := [.tmp 4]) rfl rfl ?_⟩
    simp only [go_sem, c112]
    intro z hz z1 hz1
    subst hz hz1
    unfold cmpS
    refine ⟨fun h => (by cases h), fun _ => ⟨fun h => (by cases h), fun _ => ⟨fun h => by rw [if_pos h], fun h => ⟨fun h2 => by rw [if_neg h, if_pos h2], fun h2 => by rw [if_neg h, if_neg h2]⟩⟩⟩⟩
  · cases hc
def cz127 : Con
  | [.v (.int .i64 n)] => some ([inR n], nu (n * 4294967296) false)
  | _ => none
def cz179 : Con
  | [.agg [.v (.int .i64 v), .v (.bool f)]] => some ([inR v], .agg [i64 (-whV v), bo (whF v f)])
  | _ => none
def cz126 : Con
  | [.agg [.v (.int .i64 v), .v (.bool f)]] => some ([inR v], .agg [i64 (ab (whV v)), bo (whF v f)])
  | _ => none
def cz129 : Con
  | [.agg [.v (.int .i64 v), .v (.bool f)], .agg [.v (.int .i64 u), .v (.bool e)]] => some ([inR v, inR u], nu ((whV v * whV u).tdiv 4294967296) (whF v f || whF u e))
  | _ => none
def cz125 : Con
  | [.agg [.v (.int .i64 v), .v (.bool f)], .agg [.v (.int .i64 u), .v (.bool e)], .agg [.v (.int .i64 x), .v (.bool p)], .agg [.v (.int .i64 y), .v (.bool q)]] => some ([inR v, inR u, inR x, inR y], nu ((whV v * whV u + whV x * whV y).tdiv 4294967296) (whF v f || whF u e || whF x p || whF y q))
  | _ => none
def cz88 : Con
  | [.agg [.v (.int .i64 v), .v (.bool f)], .agg [.v (.int .i64 u), .v (.bool e)]] => some ([], i64 (cmpS (whV v) (whV u)))
  | _ => none
def cz128 : Con
  | [.agg [.v (.int .i64 v), .v (.bool f)]] => some ([inR v], i64 ((whV v + 2147483648) / 4294967296))
  | _ => none
def cz211 : Con
  | [.v (.int .i64 a), .v (.int .i64 b), .v (.int .i64 c), .v (.int .i64 d)] => some ([inR a, inR b, inR c, inR d], i64 (cmpS (a * b) (c * d)))
  | _ => none
/-- The first i values. -/
def uptN (i : Nat) (Z : Nat → Int) (j : Nat) : Int := if j < i then Z j else 0
theorem uptN_zero {Z : Nat → Int} {j : Nat} : uptN 0 Z j = 0 := by unfold uptN; rw [if_neg (by omega)]
theorem uptN_self {i : Nat} {Z : Nat → Int} : uptN (i + 1) Z i = Z i := by unfold uptN; rw [if_pos (by omega)]
theorem uptN_lt {i j : Nat} {Z : Nat → Int} (h : j < i) : uptN i Z j = Z j := by unfold uptN; rw [if_pos h]
theorem uptN_ne {i j : Nat} {Z : Nat → Int} (h : j ≠ i) : uptN (i + 1) Z j = uptN i Z j := by
  unfold uptN
  by_cases e : j < i
  · rw [if_pos e, if_pos (by omega)]
  · rw [if_neg e, if_neg (by omega)]
/-- The values of numbers, and whether one is flagged. -/
def wvS (g : Nat → List AV) (i : Nat) : Int := whV (gx g 0 i)
def wfS (n : Nat) (g : Nat → List AV) : Bool := anyB (fun i => whF (gx g 0 i) (gb g 1 i)) n
def cz222 : Con
  | [.ro n 2 g] => some ([nums n g, n ≤ 1000], .tup [.ro n 1 fun i => [i64 (uptN n (wvS g) i)], bo (wfS n g)])
  | _ => none
/-- A sum. -/
def suS (X : Nat → Int) : Nat → Int
  | 0 => 0
  | n + 1 => suS X n + X n
theorem suS_le {X : Nat → Int} {n : Nat} (h : ∀ i, i < n → rg (X i)) : ∀ i, i ≤ n → -(9223372036854775807 * i) ≤ suS X i ∧ suS X i ≤ 9223372036854775807 * i
  | 0, _ => by simp [suS]
  | i + 1, hi => by
    have := suS_le h i (by omega)
    have := h i (by omega)
    unfold rg at this
    unfold suS
    omega
theorem suS_upto {X : Nat → Int} {n : Nat} : ∀ i, i ≤ n → suS (uptN n X) i = suS X i
  | 0, _ => rfl
  | i + 1, h => by unfold suS; rw [suS_upto i (by omega), uptN_lt (by omega)]
/-- What is summed up. -/
def smG (X : Nat → Int) : Nat → Bool × Int
  | 0 => (false, 0)
  | i + 1 => (plG (smG X i).1 (smG X i).2 (decide (X i < 0)) (ab (X i)), plM (smG X i).1 (smG X i).2 (decide (X i < 0)) (ab (X i)))
theorem smG_ok {X : Nat → Int} : ∀ i, sgn (smG X i).1 (smG X i).2 = suS X i ∧ 0 ≤ (smG X i).2
  | 0 => ⟨rfl, Int.le_refl 0⟩
  | i + 1 => by
    obtain ⟨h1, h2⟩ := smG_ok (X := X) i
    unfold smG suS
    exact ⟨by rw [pl_sgn, h1, sgn_ab], plM_nonneg h2 (ab_nonneg _)⟩
theorem smG_le {X : Nat → Int} {n : Nat} (h : ∀ i, i < n → rg (X i)) : ∀ i, i ≤ n → (smG X i).2 ≤ 9223372036854775807 * i
  | 0, _ => by simp [smG]
  | i + 1, hi => by
    have h0 := smG_le h i (by omega)
    have h1 := h i (by omega)
    unfold rg at h1
    have h2 : ab (X i) ≤ 9223372036854775807 := ab_le (by omega) (by omega)
    have h3 := plM_le (g := (smG X i).1) (g' := decide (X i < 0)) (smG_ok (X := X) i).2 (ab_nonneg (X i))
    unfold smG
    dsimp only
    omega
def cz201 : Con
  | [.ro n 2 g] => some ([nums n g, n ≤ 1000], nu (suS (wvS g) n) (wfS n g))
  | _ => none
theorem sum2 {a b : Int} {e f : Bool} {g : Nat → List AV} (h0 : g 0 = [i64 a, bo e]) (h1 : g 1 = [i64 b, bo f]) : suS (wvS g) 2 = whV a + whV b ∧ wfS 2 g = (whF a e || whF b f) := by
  simp only [suS, wvS, wfS, anyB, gx, gb, h0, h1, gi_0, gib_1, Bool.false_or, Int.zero_add, and_self]
def cz160 : Con
  | [.agg [.v (.int .i64 v), .v (.bool f)], .agg [.v (.int .i64 u), .v (.bool e)]] => some ([inR v, inR u], nu (whV v - whV u) (whF v f || whF u e))
  | _ => none
/-- The least of some values and one more (o = 1), or the greatest. -/
def exS (o f : Int) (X : Nat → Int) : Nat → Int
  | 0 => f
  | i + 1 => if (o = 1 ∧ X i < exS o f X i) ∨ (o = -1 ∧ exS o f X i < X i) then X i else exS o f X i
def cz229 : Con
  | [.v (.int .i64 o), .v (.int .i64 f), .ro n 1 g] => some ([o = 1 ∨ o = -1, ∀ i, i < n → g i = [i64 (gx g 0 i)], n ≤ 1000], i64 (exS o f (gx g 0) n))
  | _ => none
theorem exS_congr {o f : Int} {X Y : Nat → Int} : ∀ {n : Nat}, (∀ i, i < n → X i = Y i) → exS o f X n = exS o f Y n
  | 0, _ => rfl
  | n + 1, h => by unfold exS; rw [exS_congr (n := n) fun i hi => h i (by omega), h n (by omega)]
def msS (o : Int) (X : Nat → Int) (n : Nat) : Int := exS o (X 0) (fun i => X (i + 1)) (n - 1)
def moV (o : Int) (n : Nat) (g : Nat → List AV) : Int := if n = 0 then 0 else msS o (wvS g) n
abbrev moS (o : Int) (n : Nat) (g : Nat → List AV) : AV := .agg [i64 (moV o n g), bo (wfS n g)]
def cz224 : Con
  | [.v (.int .i64 o), .ro n 2 g] => some ([o = 1 ∨ o = -1, nums n g, n ≤ 1000], moS o n g)
  | _ => none
def cz212 : Con
  | [.ro n 2 g] => some ([nums n g, n ≤ 1000], moS 1 n g)
  | _ => none
def cz214 : Con
  | [.ro n 2 g] => some ([nums n g, n ≤ 1000], moS (-1) n g)
  | _ => none
theorem mo2 {o a b : Int} {g : Nat → List AV} {e f : Bool} (h0 : g 0 = [i64 a, bo e]) (h1 : g 1 = [i64 b, bo f]) : moV o 2 g = if (o = 1 ∧ whV b < whV a) ∨ (o = -1 ∧ whV a < whV b) then whV b else whV a := by
  show msS o (wvS g) 2 = _
  simp only [msS, exS, wvS, gx, h0, h1, gi_0]
def cz171 : Con
  | [.agg [.v (.int .i64 x), .v (.bool f)], .agg [.v (.int .i64 l), .v (.bool p)], .agg [.v (.int .i64 h), .v (.bool q)]] => some ([inR x, inR l, inR h], .agg [i64 (max (whV l) (min (whV x) (whV h))), bo (whF l p || (whF x f || whF h q))])
  | _ => none
end Go.Ax
end

section
/-
  The closures of the sweep's queries.
-/
set_option linter.unusedVariables false
set_option linter.unusedSimpArgs false
set_option maxHeartbeats 4000000
set_option maxRecDepth 100000
namespace Go.Ax
open Go.Proofs
def c113 : Con
  | [.v (.int .i64 v)] => some ([], bo false)
  | _ => none
theorem con113 : ConOK Tryz.prog 113 c113 := ConOK.of (G := []) (H := []) .nil Tryz.func113 fun l ob r hc hob => by
  unfold c113 at hc
  split at hc
  · rename_i v
    cases hc
    refine ⟨by kernel_rfl, fnVC_go (rs := [.tmp 2]) rfl rfl ?_⟩
    simp only [go_sem]
    exact bne_self
  · cases hc
def c69 : Con
  | [.v (.int .i64 x), .v (.int .i64 y)] => some ([], i64 (cmpS x y))
  | _ => none
theorem con69 : ConOK Tryz.prog 69 c69 := ConOK.of (G := [(113, c113)]) (H := []) (.cons con113 .nil) Tryz.func69 fun l ob r hc hob => by
  unfold c69 at hc
  split at hc
  · rename_i x y
    cases hc
    refine ⟨by kernel_rfl, fnVC_go (rs := [.tmp 4]) rfl rfl ?_⟩
    simp only [go_sem, c113]
    intro z hz z1 hz1
    subst hz hz1
    unfold cmpS
    refine ⟨fun h => (by cases h), fun _ => ⟨fun h => (by cases h), fun _ => ⟨fun h => by rw [if_pos h], fun h => ⟨fun h2 => by rw [if_neg h, if_pos h2], fun h2 => by rw [if_neg h, if_neg h2]⟩⟩⟩⟩
  · cases hc
theorem or2 {z z1 : Int} : orS (gx (rowsOf 1 [i64 z, i64 z1]) 0) 0 2 = if z ≠ 0 then z else z1 := by
  show (if z ≠ 0 then z else if z1 ≠ 0 then z1 else 0) = _
  split
  · rfl
  · split
    · rfl
    · omega
theorem or2_ok {z z1 : Int} : ∀ i, i < 2 → List.take 1 (List.drop (i * 1) [i64 z, i64 z1]) = [i64 (gi (List.take 1 (List.drop (i * 1) [i64 z, i64 z1])) 0)]
  | 0, _ => rfl
  | 1, _ => rfl
  | i + 2, h => by omega
/-- The boxes of a map are made of numbers of the machine. -/
def selIn (L : Ents) : Prop := ∀ k j, inR (selAt (memSel L k) j)
def c71 : Con
  | [.v (.int .i64 k), .rop [.rop [.rm 4 L]], .rop (.v (.int .i64 a) :: l)] => some ([], bo (decide (selAt (memSel L k) 2 < a)))
  | _ => none
theorem con71 : ConOK Tryz.prog 71 c71 := ConOK.of (G := []) (H := []) .nil Tryz.func71 fun l ob rr hc hob => by
  unfold c71 at hc
  split at hc
  · rename_i k L a l
    cases hc
    refine ⟨by kernel_rfl, fnVC_go (rs := [.tmp 4]) rfl rfl ?_⟩
    simp only [go_sem]
    skip
  · cases hc
def c66 : Con
  | [.v (.int .i64 a), .v (.int .i64 b), .rop [.rop [.rm 4 L]]] => some ([], i64 (if cmpS (selAt (memSel L a) 0) (selAt (memSel L b) 0) ≠ 0 then cmpS (selAt (memSel L a) 0) (selAt (memSel L b) 0) else cmpS a b))
  | _ => none
theorem con66 : ConOK Tryz.prog 66 c66 := ConOK.of (G := [(68, c68), (69, c69), (67, c67)]) (H := []) (.cons con68 (.cons con69 (.cons con67 .nil))) Tryz.func66 fun l ob rr hc hob => by
  unfold c66 at hc
  split at hc
  · rename_i a b L
    cases hc
    refine ⟨by kernel_rfl, fnVC_go (rs := [.tmp 5]) rfl rfl ?_⟩
    simp only [go_sem, c68, c69, c67]
    rintro z rfl z1 rfl z2 rfl
    exact ⟨or2_ok, or2⟩
  · cases hc
def c74 : Con
  | [.agg [.v (.int .i64 a), .v (.int .i64 b)], .agg [.v (.int .i64 c), .v (.int .i64 d)]] => some ([], i64 (if cmpS a c ≠ 0 then cmpS a c else cmpS b d))
  | _ => none
theorem con74 : ConOK Tryz.prog 74 c74 := ConOK.of (G := [(69, c69), (67, c67)]) (H := []) (.cons con69 (.cons con67 .nil)) Tryz.func74 fun l ob rr hc hob => by
  unfold c74 at hc
  split at hc
  · rename_i a b c d
    cases hc
    refine ⟨by kernel_rfl, fnVC_go (rs := [.tmp 4]) rfl rfl ?_⟩
    simp only [go_sem, c69, c67]
    rintro z rfl z1 rfl z2 rfl
    exact ⟨or2_ok, or2⟩
  · cases hc
def c102 : Con
  | [.agg [.v (.int .i64 x), .v (.int .i64 y), .v (.int .i64 z), .v (.int .i64 t)], .rop [.v (.int .i64 a), .v (.int .i64 b), .v (.int .i64 c), .v (.int .i64 d)]] => some ([inR x, inR y, inR z, inR t, inR a, inR b, inR c, inR d], bo (meetsS x y z t a b c d))
  | _ => none
theorem con102 : ConOK Tryz.prog 102 c102 := ConOK.of (G := [(72, c72)]) (H := []) (.cons con72 .nil) Tryz.func102 fun l ob rr hc hob => by
  unfold c102 at hc
  split at hc
  · rename_i x y z t a b c d
    cases hc
    have h_0 : inR x := hob _ (by simp)
    have h_1 : inR y := hob _ (by simp)
    have h_2 : inR z := hob _ (by simp)
    have h_3 : inR t := hob _ (by simp)
    have h_4 : inR a := hob _ (by simp)
    have h_5 : inR b := hob _ (by simp)
    have h_6 : inR c := hob _ (by simp)
    have h_7 : inR d := hob _ (by simp)
    refine ⟨by kernel_rfl, fnVC_go (rs := [.tmp 3]) rfl rfl ?_⟩
    simp only [go_sem, c72, h_0, h_1, h_2, h_3, h_4, h_5, h_6, h_7]
    exact fun _ => trivial
  · cases hc
def c116 : Con
  | [.v (.int .i64 k), .rop [.fn 102 [.rop [.v (.int .i64 a), .v (.int .i64 b), .v (.int .i64 c), .v (.int .i64 d)]]], .rop [.rop [.rm 4 L]]] => some ([selIn L, inR a, inR b, inR c, inR d], bo (!meetsS (selAt (memSel L k) 0) (selAt (memSel L k) 1) (selAt (memSel L k) 2) (selAt (memSel L k) 3) a b c d))
  | _ => none
theorem con116 : ConOK Tryz.prog 116 c116 := ConOK.of (G := [(102, c102)]) (H := []) (.cons con102 .nil) Tryz.func116 fun l ob rr hc hob => by
  unfold c116 at hc
  split at hc
  · rename_i k a b c d L
    cases hc
    have h_0 : selIn L := hob _ (by simp)
    have h_1 : inR a := hob _ (by simp)
    have h_2 : inR b := hob _ (by simp)
    have h_3 : inR c := hob _ (by simp)
    have h_4 : inR d := hob _ (by simp)
    refine ⟨by kernel_rfl, fnVC_go (rs := [.tmp 4]) rfl rfl ?_⟩
    simp only [go_sem, c102, h_0, h_1, h_2, h_3, h_4, h_0 k 0, h_0 k 1, h_0 k 2, h_0 k 3]
    rintro z rfl
    rfl
  · cases hc
end Go.Ax
end
