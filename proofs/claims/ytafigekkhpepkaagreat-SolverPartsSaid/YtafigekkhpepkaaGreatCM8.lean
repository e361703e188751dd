/-
  Lists of bodies and contacts that are the same; copies of contacts.
-/
import Derived.Test.YtafigekkhpepkaaGreatCM7
import Derived.ShutString
import Derived.ChangeOld
import Derived.Below
import Derived.Test.YtafigekkhpepkaaGreatRows
import Derived.JoinedOf
section
set_option linter.unusedVariables false
set_option linter.unusedSimpArgs false
set_option maxHeartbeats 4000000
set_option maxRecDepth 100000
namespace Go.Ax
open Go.Proofs
def kSaB : Con := cL fun N B rest => match rest with
  | [b] => some ([N ≤ 1000, inBs N B, b = .ro N 27 (bsC B)], bo true)
  | _ => none
theorem con18 : ConOK Tryz.prog 18 kSaB := ConOK.cL (G := [(36, kb36)]) (H := []) (.cons konb36 .nil) Tryz.func18 fun N B rest ob r hc hob => by
  split at hc
  · rename_i b
    cases hc
    have hN : N ≤ 1000 := hob _ (by simp)
    have hB : inBs N B := hob _ (by simp)
    have hb : b = .ro N 27 (bsC B) := hob _ (by simp)
    clear hob
    subst hb
    refine ⟨by kernel_rfl, fnVC_go (rs := [.tmp 4]) rfl rfl ?_⟩
    simp only [go_sem, kb36]
    refine ⟨fun h => by simp at h, fun h => ?_⟩
    refine loopC_go (fun (i : Nat) => i ≤ N) (fun i => N - i) (fun i => [(5, i64 (i : Int))]) (fun _ => []) [] [11, 12, 13, 14, 17, 18, 19, 20, 21, 22, 23, 24, 25, 26, 4, 15, 16, 5] 0 (by kernel_rfl) ?_ (Nat.zero_le _) ?_ ?_
    · intro x _; simp [goodNames, asg]
    · simp only [go_sem]
    intro i hi
    by_cases hiN : i < N
    · obtain ⟨i1, i2⟩ := hB i hiN
      simp only [go_sem, kb36, cB_eq, i1, i2, forall_eq]
      exact ⟨fun h => ⟨by omega, h, by omega, h, by simp, fun _ => ⟨i + 1, by omega, by omega, by rw [wrap_in (by unfold inR; omega)]; rfl⟩⟩, fun _ => trivial⟩
    · simp only [go_sem, kb36, cB_eq, forall_eq]
      exact ⟨fun h => absurd h (by omega), fun _ => trivial⟩
  · cases hc
def manC (v : V2) (n : Nat) (P : Nat → V2) (D : Nat → Nb) : AV := .agg [i64 v.1.1, bo v.1.2, i64 v.2.1, bo v.2.2, .ro n 6 (tchs P D)]
theorem vc87 (v : V2) (n : Nat) (P : Nat → V2) (D : Nat → Nb) (hn : n ≤ 1000) : fnVC Tryz.prog [] [] Tryz.f87 [manC v n P D, manC v n P D] (· = bo true) := by
  refine fnVC_go (rs := [.tmp 4]) rfl rfl ?_
  simp only [manC, go_sem, beq_self_eq_true, bne_self_eq_false, reduceCtorEq, or_self, false_imp_iff, true_imp_iff, and_self]
  refine loopC_go (fun (i : Nat) => i ≤ n) (fun i => n - i) (fun i => [(5, i64 (i : Int))]) (fun _ => []) [1, 0] [20, 21, 22, 23, 24, 27, 28, 29, 30, 31, 32, 33, 34, 35, 36, 37, 4, 25, 26, 5] 0 (by kernel_rfl) ?_ (Nat.zero_le _) ?_ ?_
  · intro x _; simp [goodNames, asg]
  · simp only [go_sem]
  intro i hi
  simp only [go_sem, tchs_at, tchC, beq_self_eq_true, forall_eq]
  exact ⟨fun h => ⟨by omega, h, by omega, h, fun _ => ⟨i + 1, by omega, by omega, by rw [wrap_in (by unfold inR; omega)]; rfl⟩⟩, fun _ => trivial⟩
def kSaM : Con
  | [.agg [.v (.int .i64 x), .v (.bool e), .v (.int .i64 y), .v (.bool f), .ro n 6 g], b] => some ([g = tchs (tchP g) (tchD g), n ≤ 1000, b = .agg [i64 x, bo e, i64 y, bo f, .ro n 6 g]], bo true)
  | _ => none
theorem con87 : ConOK Tryz.prog 87 kSaM := ConOK.of (G := []) (H := []) .nil Tryz.func87 fun l ob r hc hob => by
  unfold kSaM at hc
  split at hc
  · rename_i x e y f n g b
    cases hc
    have hg : g = tchs (tchP g) (tchD g) := hob _ (by simp)
    have hn : n ≤ 1000 := hob _ (by simp)
    have hb : b = .agg [i64 x, bo e, i64 y, bo f, .ro n 6 g] := hob _ (by simp)
    subst hb
    refine ⟨by kernel_rfl, ?_⟩
    have := vc87 ((x, e), (y, f)) n (tchP g) (tchD g) hn
    unfold manC at this
    rw [← hg] at this
    exact this
  · cases hc
def kSaC : Con
  | [.agg l, b] => some ([l = contC (contD l), (contD l).n ≤ 1000, b = .agg (contC (contD l))], bo true)
  | _ => none
theorem con21 : ConOK Tryz.prog 21 kSaC := ConOK.of (G := [(87, kSaM)]) (H := []) (.cons con87 .nil) Tryz.func21 fun l ob r hc hob => by
  unfold kSaC at hc
  split at hc
  · rename_i l b
    cases hc
    have e : l = contC (contD l) := hob _ (by simp)
    have hn : (contD l).n ≤ 1000 := hob _ (by simp)
    have hb : b = .agg (contC (contD l)) := hob _ (by simp)
    clear hob
    generalize contD l = c at *
    subst e hb
    refine ⟨by kernel_rfl, fnVC_go (rs := [.tmp 4]) rfl rfl ?_⟩
    simp only [contC, go_sem, kSaM, beq_self_eq_true, hn]
    exact fun z hz => ⟨fun _ => rfl, hz⟩
  · cases hc
theorem con17 : ConOK Tryz.prog 17 kCon := ConOK.of (G := []) (H := []) .nil Tryz.func17 fun l ob r hc hob => by
  unfold kCon at hc
  split at hc
  · rename_i l
    cases hc
    have e : l = contC (contD l) := hob _ (by simp)
    have hn : (contD l).n ≤ 1000 := hob _ (by simp)
    clear hob
    generalize contD l = c at *
    subst e
    refine ⟨by kernel_rfl, fnVC_go (rs := [.cell 2 32]) rfl rfl ?_⟩
    simp only [contC, go_sem]
    refine loopN_go (fun (i : Nat) => i ≤ c.n) (fun i => c.n - i) (fun i => [(4, i64 (i : Int)), (3, .own 4 0 i 6)]) (fun i => [(4, famN i 6 69 (tchs c.P c.D) none)]) [1, 0] [5, 6, 7, 8, 9, 10, 13, 14, 15, 16, 17, 18, 19, 20, 21, 3, 11, 12, 4] 1 0 (by kernel_rfl) (Nat.zero_le _) ⟨[(4, none)], ?_, ?_, ?_, ?_⟩ ?_
    · simp only [go_sem]
    · simp only [go_sem]
    · simp only [go_sem]
    · simp [goodNames, asg]
    intro i hi
    simp only [go_sem, tchs_at, tchC, byt69, forall_eq]
    refine ⟨fun h => ⟨by omega, h, by omega, by omega, i + 1, by omega, by omega, [(4, some 19)], ?_⟩, fun h => ?_⟩
    · simp only [go_sem]
      refine ⟨by rw [wrap_in (by unfold inR; omega)]; rfl, fun j hj => ?_, by simp [goodNames, asg]⟩
      by_cases e : j < i
      · rw [if_pos e]; exact fitL_clean rfl
      · have e : j = i := by omega
        subst e
        rw [if_neg (by omega), Nat.sub_self]
        exact fitL_clean rfl
    · have e : i = c.n := by omega
      subst e
      rfl
  · cases hc
end Go.Ax
end

section
/-
  SolverParts: its body.
-/
set_option linter.unusedVariables false
set_option linter.unusedSimpArgs false
set_option maxHeartbeats 4000000
set_option maxRecDepth 100000
namespace Go.Ax
open Go.Proofs
/-- Lists of few bodies, ars a law gets them. -/
def kLitL : Con := cL fun N B rest => match rest with
  | [] => some ([N ≤ 9223372036854775807, ∀ i, i < N → (B i).n ≤ 9223372036854775807], bo (decide (∀ i, i < N → (B i).n ≤ 12)))
  | _ => none
theorem konLL14 : ConOK Tryz.prog 14 kLitL := fun l ob r he hob => by
  unfold kLitL cL at he
  split at he
  · rename_i N g rest
    split at he
    · rename_i ob' r' hF
      cases he
      dsimp only at hF
      split at hF
      · cases hF
        have h1 : g = bsC (bsD g) := hob _ (by simp)
        have h2 : N ≤ 9223372036854775807 := hob _ (by simp)
        have h3 : ∀ i, i < N → (bsD g i).n ≤ 9223372036854775807 := hob _ (by simp)
        exact kon14L [.ro N 27 g] _ _ rfl (owe2 h2 fun i hi => ⟨by rw [h1]; rfl, h3 i hi⟩)
      · cases hF
    · cases he
  · cases he
theorem vc3 (N : Nat) (B : Nat → Bd) (c : Ct) (hN : N ≤ 9223372036854775807) (hB : ∀ i, inB (B i) ∧ (B i).n ≤ 9223372036854775807) (hc : inC c) (hn : c.n ≤ 9223372036854775807) :
    fnVC Tryz.prog [(14, kLitL), (15, c15), (16, kBs), (17, kCon), (19, kPar), (20, kPar), (18, kSaB), (21, kSaC)] [(3, ⟨[(6, .made 4)], []⟩)] Tryz.f3 [.ro N 27 (bsC B), .agg (contC c)] (· = bo true) := by
  refine fnVC_go (rs := [.tmp 4]) rfl rfl ?_
  have q6 : List.drop 6 (contC c) = .ro c.n 6 (tchs c.P c.D) :: List.drop 7 (contC c) := rfl
  simp only [go_sem, kLitL, c15, kBs, kCon, kPar, kPar, kSaB, kSaC, cL_eq, bsD_C, q6]
  intro z hz
  refine ⟨fun _ => trivial, fun _ => hN, fun _ i _ => (hB i).2, fun _ _ => trivial, fun h => ?_⟩
  have h12 : ∀ i, i < N → (B i).n ≤ 12 := of_decide_eq_true (hz.symm.trans h.1.2)
  have hN5 : N ≤ 1000 := by omega
  have hb : inBs N B := fun i hi => ⟨(hB i).1, by have := h12 i hi; omega⟩
  have hcn : c.n ≤ 1000 := by omega
  simp only [hN5, hb, hcn, hc, par_in, forall_eq, implies_true, and_self]
end Go.Ax
end

section
/-
  The frame of a law: its arguments ars abstract values, and what they read ars behind the call.
-/
set_option linter.unusedSimpArgs false
set_option linter.unusedVariables false
namespace Go.Ax
open Go.ChangeShapes Go.WideShapes Go.ChangeAt Go.RowKit

/-- What an argument is. -/
inductive ShV where
  | int (k : IntKind)
  | bool
  | agg (es : List Sh)
  | slice (sz : Nat) (es : List Sh)

def shV (P : Program) (t : TypeId) : Option ShV :=
  match P.underlying t with
  | some .bool => some .bool
  | some (.int k) => some (.int k)
  | some (.slice _) => match shT P 9 t with
    | some [.slice sz es] => some (.slice sz es)
    | _ => none
  | some (.struct _) => (shT P 9 t).map .agg
  | some (.array _ _) => (shT P 9 t).map .agg
  | _ => none

def fitV : ShV → AV → Prop
  | .int k, a => ∃ n, a = .v (.int k n) ∧ (Lit.int k n).wf = true
  | .bool, a => ∃ b, a = .v (.bool b)
  | .agg es, a => ∃ l, a = .agg l ∧ fitS es l
  | .slice sz es, a => ∃ (n : Nat) (get : Nat → List AV), a = .ro n sz get ∧ n ≤ maxLen ∧ ∀ i, fitS es (get i)

def shVs (P : Program) : List TypeId → Option (List ShV)
  | [] => some []
  | t :: ts => match shV P t, shVs P ts with
    | some s, some r => some (s :: r)
    | _, _ => none
def fitVs : List ShV → List AV → Prop
  | [], l => l = []
  | s :: ss, l => ∃ a r, l = a :: r ∧ fitV s a ∧ fitVs ss r

section
variable {H : Type} {enc : TypeId × Value → H} {P : Program} {w : World} {spare : Nat → Bool} {held : Bool} {base : Nat}

theorem okWide_agg_struct {t : TypeId} {fs : Array Field} {v : Value} (ht : P.underlying t = some (.struct fs)) (h : Value.okWide P w .any base t v) : ∃ cs, v = .agg cs := by
  obtain ⟨cs, h, _⟩ := okWide_struct ht h
  exact ⟨cs, h⟩
theorem trod_agg_array {t e : TypeId} {n : Nat} {v : Value} {x : DataW H} {ps : List MemPlace} (ht : P.underlying t = some (.array n e)) (h : Value.okWide P w .any base t v) : ∃ cs, v = .agg cs := by
  cases v <;> simp [Value.okWide, Value.ok, ht] at h <;> exact ⟨_, rfl⟩

theorem arg_read {t : TypeId} {s : ShV} {v : Value} {x : DataW H} {ps : List MemPlace} (hs : shV P t = some s) (ho : Value.okWide P w .any base t v) (h : DataW.Trod enc P w 0 spare held t v x ps) : ∃ a, fitV s a ∧ R w (.ext (All w)) a v := by
  unfold shV at hs
  split at hs
  · rename_i hu
    cases hs
    obtain ⟨b, rfl⟩ := okWide_bool hu ho
    exact ⟨_, ⟨b, rfl⟩, .v⟩
  · rename_i k hu
    cases hs
    obtain ⟨n, rfl, _, _, hw⟩ := open_int hu ho h
    exact ⟨_, ⟨n, rfl, hw⟩, .v⟩
  · rename_i e hu
    split at hs
    · rename_i sz es he
      cases hs
      obtain ⟨a, len, cap, rfl⟩ := okWide_slice hu ho
      obtain ⟨n, get, h1, h2, h3⟩ := slice_read he h
      exact ⟨_, ⟨n, get, rfl, h1, h2⟩, h3⟩
    · cases hs
  · rename_i fs hu
    obtain ⟨es, he, rfl⟩ := Option.map_eq_some_iff.1 hs
    obtain ⟨cs, rfl⟩ := okWide_agg_struct hu ho
    obtain ⟨l, h1, h2⟩ := agg_read he h
    exact ⟨_, ⟨l, rfl, h1⟩, h2⟩
  · rename_i n e hu
    obtain ⟨es, he, rfl⟩ := Option.map_eq_some_iff.1 hs
    obtain ⟨cs, rfl⟩ := trod_agg_array (x := x) (ps := ps) hu ho
    obtain ⟨l, h1, h2⟩ := agg_read he h
    exact ⟨_, ⟨l, rfl, h1⟩, h2⟩
  · cases hs

theorem args_read : ∀ {ts : List TypeId} {ss : List ShV} {vs : List Value} {ds : List (DataW H)} {ps : List MemPlace}, shVs P ts = some ss → (∀ (j : Nat) t v, ts[j]? = some t → vs[j]? = some v → Value.okWide P w .any base t v) →
    DataW.TrodAll enc P w 0 spare held ts vs ds ps → ∃ l, fitVs ss l ∧ Rs w (.ext (All w)) l vs
  | [], ss, vs, ds, ps, hs, ho, h => by
    simp only [shVs, Option.some.injEq] at hs
    subst hs
    obtain ⟨rfl, rfl, rfl⟩ := trodAll_nil h
    exact ⟨[], rfl, .nil⟩
  | t :: ts, ss, vs, ds, ps, hs, ho, h => by
    simp only [shVs] at hs
    split at hs
    · rename_i s r h1 h2
      cases hs
      obtain ⟨v, vs', d, ds', p, q, rfl, rfl, rfl, h3, h4⟩ := trodAll_cons h
      obtain ⟨a, a1, a2⟩ := arg_read h1 (ho 0 t v rfl rfl) h3
      obtain ⟨l, b1, b2⟩ := args_read h2 (fun j t v hj hv => ho (j + 1) t v (by simpa using hj) (by simpa using hv)) h4
      exact ⟨a :: l, ⟨a, l, rfl, a1, b1⟩, Rs.cons a2 b2⟩
    · cases hs

/-- Types that may be read whole. -/
def readOK (P : Program) (ts : List TypeId) : Bool := ts.all fun t => P.readableRec t && decide (t < P.types.size)

theorem args_stay {W W' : World} (hl : laidOutB P = true) (hb : Below W.heap.size W W') : ∀ {ts : List TypeId} {vs : List Value} {ds : List (DataW H)} {ps : List MemPlace}, readOK P ts = true →
    DataW.TrodAll enc P W 0 (fun _ => true) true ts vs ds ps → ∃ ps, DataW.TrodAll enc P W' 0 (fun b => decide (b < W.heap.size)) true ts vs ds ps
  | [], vs, ds, ps, _, h => by
    obtain ⟨rfl, rfl, rfl⟩ := trodAll_nil h
    exact ⟨[], rfl⟩
  | t :: ts, vs, ds, ps, hr, h => by
    obtain ⟨v, vs', d, ds', p, q, rfl, rfl, rfl, h3, h4⟩ := trodAll_cons h
    simp only [readOK, List.all_cons, Bool.and_eq_true, decide_eq_true_eq] at hr
    obtain ⟨q', h5⟩ := args_stay hl hb (by simpa [readOK] using hr.2) h4
    refine ⟨_, trodAll_cons_mk (Below.trod hl hr.1.1 hr.1.2 h3 hb ?_) h5⟩
    obtain ⟨m, hm⟩ := h3
    exact DataW.trod_lt m _ _ _ hm
end
end Go.Ax
end

section
/-
  Laws about bodies: their arguments.
-/
set_option linter.unusedVariables false
set_option linter.unusedSimpArgs false
set_option maxHeartbeats 4000000
set_option maxRecDepth 100000
namespace Go.Ax
open Go.Proofs
abbrev shB : List Sh := [.int .i64, .int .i64, .int .i64, .int .i64, .slice 2 [.int .i64, .int .i64], .int .i64, .bool, .int .i64, .bool, .int .i64, .bool, .int .i64, .bool, .int .i64, .bool, .int .i64, .bool, .int .i64, .bool, .int .i64, .bool, .int .i64, .bool, .int .i64, .bool, .bool, .int .i64]
theorem row2 {l : List AV} (h : fitS [.int .i64, .int .i64] l) : l = [i64 (gi l 0), i64 (gi l 1)] ∧ inR (gi l 0) ∧ inR (gi l 1) := by
  obtain ⟨_, _, rfl, ⟨x0, rfl, k0⟩, _, _, rfl, ⟨x1, rfl, k1⟩, rfl⟩ := h
  exact ⟨rfl, wf_i64 k0, wf_i64 k1⟩
theorem rowB {l : List AV} (h : fitS shB l) : l = bodyC (bodyD l) ∧ inB (bodyD l) ∧ (bodyD l).n ≤ 9223372036854775807 := by
  obtain ⟨_, _, rfl, ⟨x0, rfl, k0⟩, _, _, rfl, ⟨x1, rfl, k1⟩, _, _, rfl, ⟨x2, rfl, k2⟩, _, _, rfl, ⟨x3, rfl, k3⟩, _, _, rfl, ⟨n, get, rfl, hn, hf⟩, _, _, rfl, ⟨y0, rfl, m0⟩, _, _, rfl, ⟨e0, rfl⟩, _, _, rfl, ⟨y1, rfl, m1⟩, _, _, rfl, ⟨e1, rfl⟩, _, _, rfl, ⟨y2, rfl, m2⟩, _, _, rfl, ⟨e2, rfl⟩, _, _, rfl, ⟨y3, rfl, m3⟩, _, _, rfl, ⟨e3, rfl⟩, _, _, rfl, ⟨y4, rfl, m4⟩, _, _, rfl, ⟨e4, rfl⟩, _, _, rfl, ⟨y5, rfl, m5⟩, _, _, rfl, ⟨e5, rfl⟩, _, _, rfl, ⟨y6, rfl, m6⟩, _, _, rfl, ⟨e6, rfl⟩, _, _, rfl, ⟨y7, rfl, m7⟩, _, _, rfl, ⟨e7, rfl⟩, _, _, rfl, ⟨y8, rfl, m8⟩, _, _, rfl, ⟨e8, rfl⟩, _, _, rfl, ⟨z0, rfl, w0⟩, _, _, rfl, ⟨u0, rfl⟩, _, _, rfl, ⟨u1, rfl⟩, _, _, rfl, ⟨z1, rfl, w1⟩, rfl⟩ := h
  have hg : get = fun i => [i64 (gx get 0 i), i64 (gx get 1 i)] := funext fun i => (row2 (hf i)).1
  refine ⟨?_, ⟨wf_i64 k0, wf_i64 k1, wf_i64 k2, wf_i64 k3, fun j _ => (row2 (hf j)).2, wf_i64 m0, wf_i64 m1, wf_i64 m2, wf_i64 m3, wf_i64 m4, wf_i64 m5, wf_i64 m6, wf_i64 m7, wf_i64 m8, wf_i64 w0, wf_i64 w1⟩, ?_⟩
  rotate_left
  · show n ≤ 9223372036854775807; unfold maxLen at hn; omega
  rw [bodyD_lit]
  show [i64 x0, i64 x1, i64 x2, i64 x3, AV.ro n 2 get, i64 y0, bo e0, i64 y1, bo e1, i64 y2, bo e2, i64 y3, bo e3, i64 y4, bo e4, i64 y5, bo e5, i64 y6, bo e6, i64 y7, bo e7, i64 y8, bo e8, i64 z0, bo u0, bo u1, i64 z1] = [i64 x0, i64 x1, i64 x2, i64 x3, AV.ro n 2 fun i => [i64 (gx get 0 i), i64 (gx get 1 i)], i64 y0, bo e0, i64 y1, bo e1, i64 y2, bo e2, i64 y3, bo e3, i64 y4, bo e4, i64 y5, bo e5, i64 y6, bo e6, i64 y7, bo e7, i64 y8, bo e8, i64 z0, bo u0, bo u1, i64 z1]
  rw [← hg]
end Go.Ax
end

section
/-
  Laws about bodies and contacts: their arguments.
-/
set_option linter.unusedVariables false
set_option linter.unusedSimpArgs false
set_option maxHeartbeats 4000000
set_option maxRecDepth 100000
namespace Go.Ax
open Go.Proofs
abbrev shC : List Sh := [.int .i64, .int .i64, .int .i64, .bool, .int .i64, .bool, .slice 6 [.int .i64, .bool, .int .i64, .bool, .int .i64, .bool], .int .i64, .bool, .int .i64, .bool, .int .i64, .bool, .int .i64, .bool]
theorem row6 {l : List AV} (h : fitS [.int .i64, .bool, .int .i64, .bool, .int .i64, .bool] l) : l = tchC ((gi l 0, gib l 1), (gi l 2, gib l 3)) (gi l 4, gib l 5) ∧ inR (gi l 0) ∧ inR (gi l 2) ∧ inR (gi l 4) := by
  obtain ⟨_, _, rfl, ⟨x0, rfl, k0⟩, _, _, rfl, ⟨e0, rfl⟩, _, _, rfl, ⟨x1, rfl, k1⟩, _, _, rfl, ⟨e1, rfl⟩, _, _, rfl, ⟨x2, rfl, k2⟩, _, _, rfl, ⟨e2, rfl⟩, rfl⟩ := h
  exact ⟨rfl, wf_i64 k0, wf_i64 k1, wf_i64 k2⟩
theorem rowC {l : List AV} (h : fitS shC l) : l = contC (contD l) ∧ inC (contD l) ∧ (contD l).n ≤ 9223372036854775807 := by
  obtain ⟨_, _, rfl, ⟨x0, rfl, k0⟩, _, _, rfl, ⟨x1, rfl, k1⟩, _, _, rfl, ⟨y0, rfl, m0⟩, _, _, rfl, ⟨e0, rfl⟩, _, _, rfl, ⟨y1, rfl, m1⟩, _, _, rfl, ⟨e1, rfl⟩, _, _, rfl, ⟨n, get, rfl, hn, hf⟩, _, _, rfl, ⟨y2, rfl, m2⟩, _, _, rfl, ⟨e2, rfl⟩, _, _, rfl, ⟨y3, rfl, m3⟩, _, _, rfl, ⟨e3, rfl⟩, _, _, rfl, ⟨y4, rfl, m4⟩, _, _, rfl, ⟨e4, rfl⟩, _, _, rfl, ⟨y5, rfl, m5⟩, _, _, rfl, ⟨e5, rfl⟩, rfl⟩ := h
  have hg : get = tchs (tchP get) (tchD get) := funext fun i => (row6 (hf i)).1
  refine ⟨?_, ⟨wf_i64 k0, wf_i64 k1, wf_i64 m0, wf_i64 m1, fun j _ => (row6 (hf j)).2, wf_i64 m2, wf_i64 m3, wf_i64 m4, wf_i64 m5⟩, ?_⟩
  rotate_left
  · show n ≤ 9223372036854775807; unfold maxLen at hn; omega
  show [i64 x0, i64 x1, i64 y0, bo e0, i64 y1, bo e1, AV.ro n 6 get, i64 y2, bo e2, i64 y3, bo e3, i64 y4, bo e4, i64 y5, bo e5] = [i64 x0, i64 x1, i64 y0, bo e0, i64 y1, bo e1, AV.ro n 6 (tchs (tchP get) (tchD get)), i64 y2, bo e2, i64 y3, bo e3, i64 y4, bo e4, i64 y5, bo e5]
  rw [← hg]
theorem rowsB {get : Nat → List AV} (h : ∀ i, fitS shB (get i)) : get = bsC (bsD get) ∧ ∀ i, inB (bsD get i) ∧ (bsD get i).n ≤ 9223372036854775807 :=
  ⟨funext fun i => (rowB (h i)).1, fun i => (rowB (h i)).2⟩
end Go.Ax
end

section
/-
  What the rows say of the whole program, word by word.
-/
namespace Go.Ax
open Go.Proofs
theorem andT {a b : Bool} (h : a = true) (k : b = true) : (a && b) = true := by rw [h, k]; rfl
theorem laidOut : laidOutB Tryz.prog = true := by kernel_rfl
theorem fRowed : mapsRowed Tryz.prog = true := by kernel_rfl
theorem fStops : (Tryz.prog.stops == []) = true := by kernel_rfl
theorem fStopK : (Tryz.prog.stopKnobs == []) = true := by kernel_rfl
theorem fPlain : (true == Tryz.prog.plainKeys) = true := by kernel_rfl
theorem fHeard : Tryz.prog.stopsHeard = true := by kernel_rfl
theorem fMay : Tryz.prog.mayEnter = true := by kernel_rfl
theorem fLift : (false == Tryz.prog.liftsFinal) = true := by kernel_rfl
theorem fMake : (Tryz.prog.make == some YtafigekkhpepkaaGreat.Rows.solverMovesRow.make) = true := by kernel_rfl
end Go.Ax
end
