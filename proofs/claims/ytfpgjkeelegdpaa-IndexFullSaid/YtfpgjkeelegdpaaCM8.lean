/-
  The laws' sweeps: put.
-/
import Derived.Test.YtfpgjkeelegdpaaCM7
import Derived.ShutString
import Derived.ChangeOld
import Derived.Below
section
set_option linter.unusedVariables false
set_option linter.unusedSimpArgs false
set_option maxHeartbeats 4000000
set_option maxRecDepth 100000
namespace Go.Ax
open Go.Proofs
/-- Boxes that are valid, one an element. -/
def bxOK (n : Nat) (g : Nat → List AV) : Prop := ∀ i, i < n → g i = [i64 (gx g 0 i), i64 (gx g 1 i), i64 (gx g 2 i), i64 (gx g 3 i)] ∧ checkBoxS (gx g 0 i) (gx g 1 i) (gx g 2 i) (gx g 3 i) = 0
def bxI (g : Nat → List AV) (i : Nat) : List Int := [gx g 0 i, gx g 1 i, gx g 2 i, gx g 3 i]
/-- What has been put after i of n, from the first one on or from the last one on. -/
def ptAt (n : Nat) (last : Bool) (i : Nat) : Nat := if last = true then n - 1 - i else i
def ptL (n : Nat) (last : Bool) (B : Nat → List Int) : Nat → Ents
  | 0 => []
  | i + 1 => ptL n last B i ++ [((ptAt n last i : Int), B (ptAt n last i))]
theorem selNone {k : Int} : ∀ {L : Ents}, k ∉ L.map (·.1) → memSel L k = none
  | [], _ => rfl
  | (q, x) :: L, h => by
    rw [List.map_cons, List.mem_cons, not_or] at h
    unfold memSel
    rw [if_neg (fun e => h.1 e.symm), selNone h.2]
theorem memPut_end {k : Int} {x : List Int} : ∀ {L : Ents}, k ∉ L.map (·.1) → memPut L k x = L ++ [(k, x)]
  | [], _ => rfl
  | (q, y) :: L, h => by
    rw [List.map_cons, List.mem_cons, not_or] at h
    unfold memPut
    rw [if_neg (fun e => h.1 e.symm), memPut_end h.2]
    rfl
theorem ptL_len {n : Nat} {last : Bool} {B : Nat → List Int} : ∀ i, (ptL n last B i).length = i
  | 0 => rfl
  | i + 1 => by rw [ptL, List.length_append, ptL_len i]; rfl
theorem ptAt_lt {n i : Nat} {last : Bool} (h : i < n) : ptAt n last i < n := by unfold ptAt; split <;> omega
theorem ptL_mem {n : Nat} {last : Bool} {B : Nat → List Int} {k : Int} : ∀ {i}, k ∈ (ptL n last B i).map (·.1) ↔ ∃ j, j < i ∧ k = ptAt n last j
  | 0 => by simp [ptL]
  | i + 1 => by
    rw [ptL, List.map_append, List.mem_append, ptL_mem]
    constructor
    · rintro (⟨j, h1, h2⟩ | h)
      · exact ⟨j, by omega, h2⟩
      · exact ⟨i, by omega, by simpa using h⟩
    · rintro ⟨j, h1, h2⟩
      by_cases e : j = i
      · subst e; exact .inr (by simpa using h2)
      · exact .inl ⟨j, by omega, h2⟩
theorem ptL_no {n i : Nat} {last : Bool} {B : Nat → List Int} (h : i < n) : (ptAt n last i : Int) ∉ (ptL n last B i).map (·.1) := by
  rw [ptL_mem]
  rintro ⟨j, h1, h2⟩
  unfold ptAt at h2
  split at h2 <;> omega
theorem put_ok {n i : Nat} {last : Bool} {B : Nat → List Int} {tl : Fam} {a b c d : Int} (h : i < n) (hn : n ≤ 256) (hB : B (ptAt n last i) = [a, b, c, d]) (hc : checkBoxS a b c d = 0) : putE (ptL n last B i) (ptAt n last i : Nat) a b c d = 0 ∧ putW ⟨ptL n last B i, tl⟩ (ptAt n last i : Nat) a b c d = ⟨ptL n last B (i + 1), tl⟩ := by
  have hlt := ptAt_lt (last := last) h
  have hl := ptL_len (n := n) (last := last) (B := B) i
  have e : putE (ptL n last B i) (ptAt n last i : Nat) a b c d = 0 := by
    unfold putE
    rw [if_neg (by omega), if_neg (by rw [hc]; simp), selNone (ptL_no h), if_neg (by simp), if_neg (by omega)]
  refine ⟨e, ?_⟩
  unfold putW
  dsimp only
  rw [e, if_pos rfl, memPut_end (ptL_no h), ptL, hB]
theorem cleanCs_of : ∀ {l : List AV}, (∀ c ∈ l, cleanC c = true) → cleanCs l = true
  | [], _ => rfl
  | a :: l, h => by
    simp only [cleanCs, Bool.and_eq_true]
    exact ⟨h a (by simp), cleanCs_of fun c hc => h c (by simp [hc])⟩
theorem fitF_self {N M : Nat} {x : Fam} (h : ∀ f, (x f).g = none ∧ ∀ j, j < (x f).n → fitL N M [] ((x f).get j) ((x f).get j)) : fitF N M [] x (some x) := by
  intro f
  exact ⟨rfl, rfl, rfl, (h f).1, (h f).1, (h f).2⟩
theorem fitF_sw {N M K : Nat} {L : Ents} {tl : Fam} (hK : K < N) (ht : tlOK tl) : fitF N M [] (famR [⟨1, 1, 73, fun _ => [.mp K 1], none⟩, mapR 4 L] tl) (some (famR [⟨1, 1, 73, fun _ => [.mp K 1], none⟩, mapR 4 L] tl)) :=
  fitF_self fun f => match f with
    | 0 => ⟨rfl, fun j hj => ⟨⟨rfl, hK⟩, trivial⟩⟩
    | 1 => ⟨rfl, fun j hj => by have hj : j < 0 := hj; omega⟩
    | f + 2 => ⟨(ht f).1, fun j hj => fitL_clean (cleanCs_of ((ht f).2 j hj))⟩
theorem fitF_sl {N M K : Nat} {s : SlS} (hK : K < M) (ht : tlOK s.tl) : fitF N M [] (slF K s) (some (slF K s)) :=
  fitF_self fun f => match f with
    | 0 => ⟨rfl, fun j hj => ⟨⟨rfl, trivial⟩, ⟨hK, rfl⟩, trivial⟩⟩
    | 1 => ⟨rfl, fun j hj => ⟨⟨rfl, trivial⟩, trivial⟩⟩
    | f + 2 => ⟨(ht f).1, fun j hj => fitL_clean (cleanCs_of ((ht f).2 j hj))⟩
noncomputable def F9 : List AV → Option (List Prop × (Nat → AV) × (Nat → Option Fam))
  | [.ro n 4 g, .v (.bool last)] => some ([n ≤ 256, bxOK n g], fun k => .bx k 0, fun k => some (swF k ⟨ptL n last (bxI g) n, noRows⟩))
  | _ => none
noncomputable def mN9 : MCon := mcKU F9
theorem mN9_eq : mN9 = mcKU F9 := (rfl)
attribute [go_sem] mN9_eq
theorem mon9 : MConOK Try.prog 9 mN9 := MConOK.mkU (G := [(19, .wr mN19), (17, .wr m17)]) (H := []) (.mcons mon19 (.mcons mon17 .nil)) Try.func9 fun es ob v nw hF hob => by
  unfold F9 at hF
  split at hF
  · rename_i n g last
    cases hF
    have hn : n ≤ 256 := hob _ (by simp)
    have hg : bxOK n g := hob _ (by simp)
    refine ⟨[.ro n 4 fun i => [i64 (gx g 0 i), i64 (gx g 1 i), i64 (gx g 2 i), i64 (gx g 3 i)], bo last], fun w I vs hR => ?_, by simp [clean], by kernel_rfl, fun key => bodyM_go (rs := [.tmp 4]) rfl rfl ?_⟩
    · obtain ⟨y, ys, rfl, k1, k2⟩ := hR.inv
      exact .cons (ro_alike (fun i hi => (hg i hi).1) k1) k2
    have hc := fun i hi => (hg i hi).2
    have hg' : ∀ i, i < n → bxI g i = [gx g 0 i, gx g 1 i, gx g 2 i, gx g 3 i] := fun i _ => rfl
    generalize bxI g = B at hg'
    generalize gx g 0 = A0 at hc hg'
    generalize gx g 1 = A1 at hc hg'
    generalize gx g 2 = A2 at hc hg'
    generalize gx g 3 = A3 at hc hg'
    have hr : ∀ i, i < n → inR (A0 i) ∧ inR (A1 i) ∧ inR (A2 i) ∧ inR (A3 i) := fun i hi => by
      have := checkBoxS_iff.1 (hc i hi)
      unfold inR; omega
    simp only [go_sem, m17, swF_eq, famNK_W']
    refine loopN_go (fun (i : Nat) => i ≤ n) (fun i => n - i) (fun i => [(6, i64 i)]) (fun i => [(1, famR [⟨1, 1, 73, fun _ => [.mp 1 1], none⟩, mapR 4 (ptL n last B i)] noRows)]) [] [9, 10, 11, 12, 13, 14, 15, 16, 19, 7, 20, 21, 22, 23, 24, 25, 7, 26, 27, 28, 29, 30, 31, 32, 33, 4, 17, 18, 6] 0 0 (by kernel_rfl) (Nat.zero_le _) ⟨[], ?_, ?_, ?_, ?_⟩ ?_
    · simp only [go_sem]
    · simp only [go_sem]
      exact fitF_sw (by decide) (fun f => ⟨rfl, fun j hj => by have hj : j < 0 := hj; omega⟩)
    · simp only [go_sem]
    · simp [goodNames, asg]
    intro i hi
    simp only [go_sem, m17, F17, famNK_W', swF_eq]
    have tl0 : tlOK noRows := fun f => ⟨rfl, fun j hj => by have hj : j < 0 := hj; omega⟩
    have hin : ∀ z : Int, i < n → z = (ptAt n last i : Nat) → 0 ≤ z ∧ z < n ∧ ∀ zz : Int, zz = putE (ptL n last B i) z (A0 z.toNat) (A1 z.toNat) (A2 z.toNat) (A3 z.toNat) → zz = 0 ∧ putW ⟨ptL n last B i, noRows⟩ z (A0 z.toNat) (A1 z.toNat) (A2 z.toNat) (A3 z.toNat) = ⟨ptL n last B (i + 1), noRows⟩ ∧ inR (A0 z.toNat) ∧ inR (A1 z.toNat) ∧ inR (A2 z.toNat) ∧ inR (A3 z.toNat) := fun z hlt hz => by
      have hl := ptAt_lt (last := last) hlt
      subst hz
      rw [Int.toNat_natCast]
      obtain ⟨p1, p2⟩ := put_ok (tl := noRows) hlt hn (hg' _ hl) (hc _ hl)
      refine ⟨by omega, by omega, fun zz hzz => ⟨by rw [hzz, p1], p2, hr _ hl⟩⟩
    have hnext : ∀ z : Int, z = IntKind.i64.wrap (i + 1) → i < n → z = ((i + 1 : Nat) : Int) := fun z hz hlt => by rw [hz, wrap_in (by unfold inR; omega)]; omega
    refine ⟨fun hlt => ⟨fun hl z1 k1 z2 k2 => ?_, fun hl => ?_⟩, fun hge => ?_⟩
    · have e : z2 = (ptAt n last i : Nat) := by
        unfold ptAt
        rw [if_pos hl, k2, k1, wrap_in (x := (n : Int) - 1) (by unfold inR; omega), wrap_in (by unfold inR; omega)]
        omega
      obtain ⟨q1, q2, q3⟩ := hin z2 (by omega) e
      refine ⟨q1, q2, fun z hz => ?_⟩
      obtain ⟨q4, q5, q6, q7, q8, q9⟩ := q3 z hz
      rw [q5, q4]
      refine ⟨tl0, q6, q7, q8, q9, fun h => (by cases h), fun _ z hz => ⟨i + 1, by omega, by omega, [], hnext z hz (by omega), ?_, by simp [goodNames, asg]⟩⟩
      simp only [go_sem]
      exact fitF_sw (by decide) tl0
    · have e : (i : Int) = (ptAt n last i : Nat) := by
        unfold ptAt
        rw [if_neg (by rw [hl]; decide)]
      obtain ⟨q1, q2, q3⟩ := hin i (by omega) e
      refine ⟨q1, q2, fun z hz => ?_⟩
      rw [Int.toNat_natCast] at q3
      obtain ⟨q4, q5, q6, q7, q8, q9⟩ := q3 z hz
      rw [q5, q4]
      refine ⟨tl0, q6, q7, q8, q9, fun h => (by cases h), fun _ z hz => ⟨i + 1, by omega, by omega, [], hnext z hz (by omega), ?_, by simp [goodNames, asg]⟩⟩
      simp only [go_sem]
      exact fitF_sw (by decide) tl0
    · have e : i = n := by omega
      subst e
      exact newOW (v := fun k => .bx k 0) (L := ptL i last B i) (m1 := [(1, swF 1 ⟨ptL i last B i, noRows⟩)]) (fun _ _ => rfl) (fun _ _ _ h => h) rfl (Nat.zero_le _)
  · cases hF
end Go.Ax
end

section
/-
  The laws' tables: told.
-/
set_option linter.unusedVariables false
set_option linter.unusedSimpArgs false
set_option maxHeartbeats 4000000
set_option maxRecDepth 100000
namespace Go.Ax
open Go.Proofs
/-- What a number says. -/
def tdK (X : Nat → Int) (i : Nat) : Nat := (modS (X i) 1048576).toNat
def tdN (most : Int) : Nat := (1 + modS most 64).toNat
def tdAt (n : Nat) (X : Nat → Int) : Nat → TdS
  | 0 => td0 n
  | i + 1 => tdStep n (tdAt n X i) (tdK X i)
def c30g (z : Int × Int) : Option (List Prop × Nat × (Nat → Int × Int)) → Option (List Prop × AV)
  | some (ob, n, X) => some (c30f n X z ob)
  | none => none
theorem c30_eq {a : AV} {z1 z2 : Int} : c30 [a, .agg [i64 z1, i64 z2]] = c30g (z1, z2) (roP a) := by
  show (match roP a with
    | some (ob, n, X) => some (c30f n X (z1, z2) ob)
    | none => none) = _
  unfold c30g
  cases roP a <;> rfl
theorem c30g_some {z : Int × Int} {ob : List Prop} {n : Nat} {X : Nat → Int × Int} : c30g z (some (ob, n, X)) = some ((n ≤ 100000) :: ob, bo (decide (z ∈ lP n X))) := (rfl)
theorem c18_eq {n : Nat} {X : Nat → Int} {z : Int} : c18 [.ro n 1 fun i => [i64 (X i)], i64 z] = some ((n ≤ 100000) :: [ints n fun i => [i64 (X i)]], bo (decide (z ∈ lX n X))) := (rfl)
theorem lsF_at {l : List (Int × Int)} {i : Nat} : lsF l i = [i64 (l.getD i (0, 0)).1, i64 (l.getD i (0, 0)).2] := (rfl)
attribute [go_sem] c30_eq c30g_some
theorem tdAt_I {n : Nat} {X : Nat → Int} (h : 1 ≤ n ∧ n ≤ 64) (i : Nat) : i < 2147483647 → TdI n i (tdAt n X i) := by
  induction i with
  | zero => exact fun _ => .init h
  | succ i ih => exact fun hi => (ih (by omega)).step (by omega) _
theorem tdAt_tl {n : Nat} {X : Nat → Int} : ∀ i, (tdAt n X i).s.tl = noRows
  | 0 => rfl
  | i + 1 => by
    have ih := tdAt_tl (n := n) (X := X) i
    show (tdStep n (tdAt n X i) (tdK X i)).s.tl = noRows
    generalize tdAt n X i = t at ih
    unfold tdStep
    split
    · show (frS _ _ _).tl = _
      unfold frS
      split <;> exact ih
    · split
      · exact ih
      · show (tkS _).tl = _
        unfold tkS
        split <;> exact ih
abbrev tdA (K : Nat) (t : TdS) : AV := .agg [.bx K 0, .own K 2 t.live.length 2, .own K 3 t.given.length 2, bo true]
def tdF (K : Nat) (t : TdS) : Fam := slF K { t.s with tl := famR [⟨t.live.length, 2, 55, lsF t.live, none⟩, ⟨t.given.length, 2, 55, lsF t.given, none⟩] noRows }
def F28f (most : Int) : Option (List Prop × Nat × (Nat → Int)) → Option (List Prop × (Nat → AV) × (Nat → Option Fam))
  | some (ob, k, X) => some ((k ≤ 1000) :: inR most :: (∀ i, inR (X i)) :: ob, fun K => tdA K (tdAt (tdN most) X k), fun K => some (tdF K (tdAt (tdN most) X k)))
  | none => none
def F28 : List AV → Option (List Prop × (Nat → AV) × (Nat → Option Fam))
  | [.v (.int .i64 most), nums] => F28f most (roI nums)
  | _ => none
theorem tkS_tl (s : SlS) (h : tlOK s.tl := by exact fun f => ⟨rfl, fun j hj => (by have hj : j < 0 := hj; omega)⟩) : tlOK (tkS s).tl := by
  unfold tkS
  split <;> exact h
theorem tdFit {n ka kb la lb : Nat} {bb : Bool} {m : Mem} {t : TdS} {ga gb : Nat → List AV} (hla : la = t.live.length) (hlb : lb = t.given.length) (hbb : bb = true) (h20 : look m 20 = some (fam1 62 4 [.bx 6 0, .own ka 0 la 2, .own kb 0 lb 2, bo bb] none))
    (h6 : look m 6 = some (famR [⟨1, 2, 88, fun _ => [u64 t.s.x, .own 6 1 n 1], none⟩, ⟨n, 1, 3, fun j => [i64 (t.s.G j)], none⟩] noRows))
    (ha : look m ka = some (famN la 2 55 ga none)) (hb : look m kb = some (famN lb 2 55 gb none)) (ha2 : ∀ q, q < la → ga q = lsF t.live q) (hb2 : ∀ q, q < lb → gb q = lsF t.given q) :
    fitRows 23 25 [(23, some ka), (24, some kb)] m [(20, fam1 62 4 [.bx 6 0, .own 23 0 t.live.length 2, .own 24 0 t.given.length 2, bo true] none), (6, famR [⟨1, 2, 88, fun _ => [u64 t.s.x, .own 6 1 n 1], none⟩, ⟨n, 1, 3, fun j => [i64 (t.s.G j)], none⟩] noRows), (23, famN t.live.length 2 55 (lsF t.live) none), (24, famN t.given.length 2 55 (lsF t.given) none)] := by
  subst hla hlb hbb
  have e20 : asg [(23, some ka), (24, some kb)] 20 = some 20 := by simp [asg]
  have e6 : asg [(23, some ka), (24, some kb)] 6 = some 6 := by simp [asg]
  have e23 : asg [(23, some ka), (24, some kb)] 23 = some ka := by simp [asg]
  have e24 : asg [(23, some ka), (24, some kb)] 24 = some kb := by simp [asg]
  simp only [fitRows, e20, e6, e23, e24]
  refine ⟨⟨_, h20, fun f => ?_⟩, ⟨_, h6, fun f => ?_⟩, ⟨_, ha, fitRow_N rfl fun q hq => by rw [ha2 q hq]; exact fitL_clean rfl⟩, ⟨_, hb, fitRow_N rfl fun q hq => by rw [hb2 q hq]; exact fitL_clean rfl⟩, trivial⟩
  · by_cases hf : f = 0
    · subst hf
      refine ⟨rfl, rfl, rfl, rfl, rfl, fun j _ => ⟨⟨rfl, by show (6 : Nat) < 23; omega⟩, ⟨by omega, by rw [e23]⟩, ⟨by omega, by rw [e24]⟩, ⟨rfl, trivial⟩, trivial⟩⟩
    · unfold fam1
      rw [if_neg hf, if_neg hf]
      exact ⟨rfl, rfl, rfl, rfl, rfl, fun i hi => by have hi : i < 0 := hi; omega⟩
  · match f with
    | 0 => exact ⟨rfl, rfl, rfl, rfl, rfl, fun j _ => ⟨⟨rfl, trivial⟩, ⟨by omega, by rw [e6]⟩, trivial⟩⟩
    | 1 => exact ⟨rfl, rfl, rfl, rfl, rfl, fun j _ => ⟨⟨rfl, trivial⟩, trivial⟩⟩
    | f + 2 => exact ⟨rfl, rfl, rfl, rfl, rfl, fun j hj => by have hj : j < 0 := hj; omega⟩
theorem tdFit0 {n : Nat} {m : Mem} {X : Nat → Int} (h20 : look m 20 = some (fam1 62 4 [.bx 6 0, .v (.slice none 0 0), .v (.slice none 0 0), bo true] none))
    (h6 : look m 6 = some (famR [⟨1, 2, 88, fun _ => [u64 0, .own 6 1 n 1], none⟩, ⟨n, 1, 3, fun j => [i64 0], none⟩] noRows)) :
    fitRows 23 25 [(23, none), (24, none)] m [(20, fam1 62 4 [.bx 6 0, .own 23 0 (tdAt n X 0).live.length 2, .own 24 0 (tdAt n X 0).given.length 2, bo true] none), (6, famR [⟨1, 2, 88, fun _ => [u64 (tdAt n X 0).s.x, .own 6 1 n 1], none⟩, ⟨n, 1, 3, fun j => [i64 ((tdAt n X 0).s.G j)], none⟩] noRows), (23, famN (tdAt n X 0).live.length 2 55 (lsF (tdAt n X 0).live) none), (24, famN (tdAt n X 0).given.length 2 55 (lsF (tdAt n X 0).given) none)] := by
  have e20 : asg [(23, none), (24, none)] 20 = some 20 := by simp [asg]
  have e6 : asg [(23, none), (24, none)] 6 = some 6 := by simp [asg]
  have e23 : asg [(23, none), (24, none)] 23 = none := by simp [asg]
  have e24 : asg [(23, none), (24, none)] 24 = none := by simp [asg]
  simp only [fitRows, e20, e6, e23, e24]
  refine ⟨⟨_, h20, fun f => ?_⟩, ⟨_, h6, fun f => ?_⟩, fitRow_0, fitRow_0, trivial⟩
  · by_cases hf : f = 0
    · subst hf
      refine ⟨rfl, rfl, rfl, rfl, rfl, fun j _ => ⟨⟨rfl, by show (6 : Nat) < 23; omega⟩, ⟨by omega, by rw [e23]; exact ⟨rfl, rfl⟩⟩, ⟨by omega, by rw [e24]; exact ⟨rfl, rfl⟩⟩, ⟨rfl, trivial⟩, trivial⟩⟩
    · unfold fam1
      rw [if_neg hf, if_neg hf]
      exact ⟨rfl, rfl, rfl, rfl, rfl, fun i hi => by have hi : i < 0 := hi; omega⟩
  · match f with
    | 0 => exact ⟨rfl, rfl, rfl, rfl, rfl, fun j _ => ⟨⟨rfl, trivial⟩, ⟨by omega, by rw [e6]⟩, trivial⟩⟩
    | 1 => exact ⟨rfl, rfl, rfl, rfl, rfl, fun j _ => ⟨⟨rfl, trivial⟩, trivial⟩⟩
    | f + 2 => exact ⟨rfl, rfl, rfl, rfl, rfl, fun j hj => by have hj : j < 0 := hj; omega⟩
theorem newTd {key n : Nat} {m1 : Mem} {t : TdS} (hn : t.s.n = n) (h6 : look m1 6 = some (famR [⟨1, 2, 88, fun _ => [u64 t.s.x, .own 6 1 n 1], none⟩, ⟨n, 1, 3, fun j => [i64 (t.s.G j)], none⟩] noRows))
    (ha : look m1 23 = some (famN t.live.length 2 55 (lsF t.live) none)) (hb : look m1 24 = some (famN t.given.length 2 55 (lsF t.given) none)) :
    NewP key 0 (.agg [.bx 6 0, .own 23 0 t.live.length 2, .own 24 0 t.given.length 2, bo true]) m1 (tdA key t) (some (tdF key t)) := by
  subst hn
  have i0 : ixP [(6, 0), (6, 1), (23, 0), (24, 0)] 6 0 = 0 := by simp [ixP]
  have i1 : ixP [(6, 0), (6, 1), (23, 0), (24, 0)] 6 1 = 1 := by simp [ixP]
  have i2 : ixP [(6, 0), (6, 1), (23, 0), (24, 0)] 23 0 = 2 := by simp [ixP]
  have i3 : ixP [(6, 0), (6, 1), (23, 0), (24, 0)] 24 0 = 3 := by simp [ixP]
  refine newP_list [(6, 0), (6, 1), (23, 0), (24, 0)] (by simp) (by simp) (fun c hc => ?_) (fun ks hks => ?_) (fun ks hks f r' g hf => ?_) (fun f hf => ?_)
  · simp only [List.mem_cons, List.not_mem_nil, or_false] at hc
    rcases hc with rfl | rfl | rfl | rfl
    · exact .inr rfl
    · exact .inr (by rw [i2]; rfl)
    · exact .inr (by rw [i3]; rfl)
    · trivial
  · show AV.agg [.bx key 0, .own key 2 t.live.length 2, .own key 3 t.given.length 2, bo true] = AV.agg [.bx (thL ks key (ixP [(6, 0), (6, 1), (23, 0), (24, 0)]) 6 0).1 0, .own (thL ks key (ixP [(6, 0), (6, 1), (23, 0), (24, 0)]) 23 0).1 (thL ks key (ixP [(6, 0), (6, 1), (23, 0), (24, 0)]) 23 0).2 t.live.length 2, .own (thL ks key (ixP [(6, 0), (6, 1), (23, 0), (24, 0)]) 24 0).1 (thL ks key (ixP [(6, 0), (6, 1), (23, 0), (24, 0)]) 24 0).2 t.given.length 2, bo true]
    simp only [thL]
    rw [if_neg (by omega), if_neg (by omega), if_neg (by omega), i2, i3]
  · match f, hf with
    | 0, hf =>
      cases hf
      refine ⟨_, h6, ⟨rfl, rfl, rfl, rfl, fun j hj => ⟨?_, fun c hc => ?_⟩⟩, by simp [famR_0]⟩
      · show [u64 t.s.x, AV.own key 1 t.s.n 1] = [u64 t.s.x, AV.own (thL ks key (ixP [(6, 0), (6, 1), (23, 0), (24, 0)]) 6 1).1 (thL ks key (ixP [(6, 0), (6, 1), (23, 0), (24, 0)]) 6 1).2 t.s.n 1]
        simp only [thL]
        rw [if_neg (by omega), i1]
      · have hc : c ∈ [u64 t.s.x, AV.own 6 1 t.s.n 1] := hc
        simp only [List.mem_cons, List.not_mem_nil, or_false] at hc
        rcases hc with rfl | rfl
        · trivial
        · exact .inr (by rw [i1]; rfl)
    | 1, hf =>
      cases hf
      refine ⟨_, h6, ⟨rfl, rfl, rfl, rfl, fun j hj => ⟨rfl, fun c hc => ?_⟩⟩, by simp [famR_1]⟩
      have hc : c ∈ [i64 (t.s.G j)] := hc
      simp only [List.mem_cons, List.not_mem_nil, or_false] at hc
      subst hc; trivial
    | 2, hf =>
      cases hf
      refine ⟨_, ha, ⟨rfl, rfl, rfl, rfl, fun j hj => ⟨rfl, fun c hc => ?_⟩⟩, by simp [famN]⟩
      have hc : c ∈ lsF t.live j := hc
      simp only [lsF, List.mem_cons, List.not_mem_nil, or_false] at hc
      rcases hc with rfl | rfl <;> trivial
    | 3, hf =>
      cases hf
      refine ⟨_, hb, ⟨rfl, rfl, rfl, rfl, fun j hj => ⟨rfl, fun c hc => ?_⟩⟩, by simp [famN]⟩
      have hc : c ∈ lsF t.given j := hc
      simp only [lsF, List.mem_cons, List.not_mem_nil, or_false] at hc
      rcases hc with rfl | rfl <;> trivial
    | f + 4, hf => simp at hf
  · match f, hf with
    | f + 4, _ => rfl
theorem F43_in {n : Nat} (h : 1 ≤ n ∧ n ≤ 64) : F43 [i64 n] = some ([], fun k => .tup [.bx k 0, i64 0], fun k => some (slF k ⟨0, n, fun _ => 0, noRows⟩)) := by
  have h2 : 1 ≤ (n : Int) ∧ (n : Int) ≤ 64 := by omega
  show (if 1 ≤ (n : Int) ∧ (n : Int) ≤ 64 then _ else _) = _
  rw [if_pos h2, Int.toNat_natCast]
noncomputable def mN28 : MCon := mcKU F28
theorem mN28_eq : mN28 = mcKU F28 := (rfl)
attribute [go_sem] mN28_eq
theorem mon28 : MConOK Try.prog 28 mN28 := MConOK.mkU (G := [(16, c16), (43, .wr m43), (26, .wr m26), (25, .wr m25), (30, c30)]) (H := [(11, ⟨[(5, .made 0), (13, .slot 8)], [(7, [.made 0])]⟩), (16, ⟨[(4, .slot 88), (11, .slot 8), (13, .slot 8)], [(6, [.slot 88]), (7, [.slot 88]), (8, [.slot 88])]⟩)]) (.cons con16 (.mcons mon43 (.mcons mon26 (.mcons mon25 (.cons con30 .nil))))) Try.func28 fun es ob v nw hF hob => by
  unfold F28 at hF
  split at hF
  · rename_i most nums
    unfold F28f at hF
    split at hF
    · rename_i ob2 k X hn
      cases hF
      have hk : k ≤ 1000 := hob _ (by simp)
      have hm : inR most := hob _ (by simp)
      have hX : ∀ i, inR (X i) := hob _ (by simp)
      refine ⟨[i64 most, .ro k 1 fun i => [i64 (X i)]], fun w I vs hR => ?_, by simp [clean], by kernel_rfl, fun key => bodyM_go (rs := [.cell 4 62]) rfl rfl ?_⟩
      · obtain ⟨y, ys, rfl, k1, k2⟩ := hR.inv
        obtain ⟨y2, ys2, rfl, k3, k4⟩ := k2.inv
        exact .cons k1 (.cons (roI_sound hn (fun p hp => hob p (by simp [hp])) k3) k4)
      simp only [go_sem, c16, m43, m26, m25, c30, m43, hm]
      intro z hz
      refine ⟨by unfold inR; omega, fun z1 hz1 => ?_⟩
      have hzb := modS_in (n := most) (m := 64) (by decide)
      have e1 : z1 = (tdN most : Nat) := by
        unfold tdN
        rw [hz1, hz, wrap_in (by unfold inR; omega)]
        omega
      have hn1 : 1 ≤ tdN most ∧ tdN most ≤ 64 := by unfold tdN; omega
      clear hz1 hz hzb
      subst e1
      generalize tdN most = n at hn1
      simp only [go_sem, c16, m43, m26, m25, c30, m43, F43_in hn1, slF_eq]
      intro z1 hz1
      subst hz1
      refine loopN_go (fun (i : Nat) => i ≤ k) (fun i => k - i) (fun i => [(9, i64 i)])
        (fun i => [(20, fam1 62 4 [.bx 6 0, .own 23 0 (tdAt n X i).live.length 2, .own 24 0 (tdAt n X i).given.length 2, bo true] none), (6, famR [⟨1, 2, 88, fun _ => [u64 (tdAt n X i).s.x, .own 6 1 n 1], none⟩, ⟨n, 1, 3, fun j => [i64 ((tdAt n X i).s.G j)], none⟩] noRows), (23, famN (tdAt n X i).live.length 2 55 (lsF (tdAt n X i).live) none), (24, famN (tdAt n X i).given.length 2 55 (lsF (tdAt n X i).given) none)]) [0] [30, 31, 32, 33, 34, 35, 36, 37, 40, 41, 42, 43, 44, 10, 45, 46, 47, 48, 49, 50, 51, 52, 53, 54, 55, 56, 57, 58, 59, 11, 60, 61, 62, 63, 64, 65, 66, 67, 68, 69, 70, 71, 72, 73, 74, 75, 76, 77, 78, 79, 80, 81, 83, 84, 82, 85, 86, 12, 13, 87, 88, 89, 90, 91, 92, 93, 94, 95, 96, 97, 98, 99, 100, 101, 102, 103, 104, 105, 106, 107, 108, 109, 110, 111, 112, 113, 114, 115, 116, 117, 118, 119, 120, 121, 38, 39, 9] 2 0 (by kernel_rfl) (Nat.zero_le _) ⟨[(23, none), (24, none)], ?_, ?_, ?_, ?_⟩ ?_
      · simp only [go_sem]
      · refine tdFit0 rfl rfl
      · simp only [go_sem]
      · simp [goodNames, asg]
      intro i hi
      have hI := tdAt_I (X := X) hn1 i (by omega)
      have hT := tdAt_tl (n := n) (X := X) i
      have hstep : tdAt n X (i + 1) = tdStep n (tdAt n X i) (tdK X i) := rfl
      have hXi := hX i
      have hke : tdK X i = (modS (X i) 1048576).toNat := rfl
      have hkb := modS_in (n := X i) (m := 1048576) (by decide)
      generalize tdK X i = kk at hstep hke
      have hend : i = k → tdAt n X k = tdAt n X i := fun e => by rw [e]
      generalize tdAt n X i = t at hI hT hstep hend ⊢
      obtain ⟨⟨x, N, G, tl⟩, live, given⟩ := t
      have hN : n = N := hI.sn.symm
      subst hN
      obtain rfl : tl = noRows := hT
      have hll : live.length ≤ n := by
        have h1 : live.length = cntB x.toNat.testBit n := hI.cnt
        rw [h1]; exact cntB_le n
      have hgl : given.length ≤ i := hI.gl
      have tl0' : tlOK noRows := fun f => ⟨rfl, fun j hj => by have hj : j < 0 := hj; omega⟩
      simp only [go_sem, c16, m25, m26, F25, F26, hXi]
      refine ⟨fun h1 => ⟨by omega, h1, fun z1 k1 => ⟨by unfold inR; omega, fun z2 k2 => ⟨fun hc => ?_, fun hc => ?_⟩⟩⟩, fun h1 => ?_⟩
      · intro z3 k3
        have hpos : 0 < live.length := by omega
        have hz1 : z1 = kk := by omega
        have hz3 : z3 = ((kk / 3 : Nat) : Int) := by
          rw [k3, hz1, Int.tdiv_eq_ediv_of_nonneg (by omega), wrap_in (by unfold inR; omega)]; omega
        refine ⟨by omega, fun z4 k4 => ?_⟩
        have hz4 : z4 = ((kk / 3 % live.length : Nat) : Int) := by
          rw [k4, hz3, Int.tmod_eq_emod_of_nonneg (by omega)]; omega
        have hat := Nat.mod_lt (kk / 3) hpos
        have hmod : kk % 3 = 2 := by
          have hc1 : z2 = 2 := by simpa using hc.1
          rw [k2, hz1, Int.tmod_eq_emod_of_nonneg (by omega)] at hc1
          omega
        have hne : live ≠ [] := fun e => by rw [e] at hpos; simp at hpos
        have hs' : tdAt n X (i + 1) = ⟨frS ⟨x, n, G, noRows⟩ (live.getD (kk / 3 % live.length) (0, 0)).1 (live.getD (kk / 3 % live.length) (0, 0)).2, live.eraseIdx (kk / 3 % live.length), given⟩ := by
          rw [hstep]; unfold tdStep; rw [if_pos ⟨hmod, hne⟩]
        obtain ⟨f1, f2⟩ := hI.free hat
        subst hz4
        clear k4
        rw [Int.toNat_natCast]
        generalize kk / 3 % live.length = q at hat hs' f1 f2 ⊢
        have hl : lsF live q = [i64 (live.getD q (0, 0)).1, i64 (live.getD q (0, 0)).2] := rfl
        simp only [hl]
        simp only [go_sem, m26, F26]
        have f1 : TdI n i ⟨frS ⟨x, n, G, noRows⟩ (live.getD q (0, 0)).1 (live.getD q (0, 0)).2, live.eraseIdx q, given⟩ := f1
        have f2 : hasI ⟨x, n, G, noRows⟩ (live.getD q (0, 0)).1 (live.getD q (0, 0)).2 = true := f2
        have fn : (frS ⟨x, n, G, noRows⟩ (live.getD q (0, 0)).1 (live.getD q (0, 0)).2).n = n := f1.sn
        have ftl : (frS ⟨x, n, G, noRows⟩ (live.getD q (0, 0)).1 (live.getD q (0, 0)).2).tl = noRows := by unfold frS; split <;> rfl
        have hb : bytesT Try.prog 55 = 16 := by kernel_rfl
        rw [f2, ftl, fn]
        have e0 : ((q : Int) - 0).toNat = q := by omega
        have eq1 : IntKind.i64.wrap ((q : Int) + 1) = ((q + 1 : Nat) : Int) := by rw [wrap_in (by unfold inR; omega)]; omega
        rw [e0, eq1]
        simp only [forall_eq]
        have e1 : ((live.length : Int) - ((q + 1 : Nat) : Int)).toNat = live.length - (q + 1) := by omega
        rw [e1, Int.toNat_natCast]
        refine ⟨by omega, by omega, hat, tl0', hI.slOK, by omega, by omega, by omega, okCells_all fun _ => rfl, by rw [hb]; omega, by omega, by omega, by omega, by omega, okCells_all fun _ => rfl, by rw [hb]; omega, by omega, i + 1, by omega, by omega, [(23, some 76), (24, some 24)], by rw [wrap_in (by unfold inR; omega)]; omega, ?_, ?_⟩
        · rw [hs']
          refine tdFit (t := ⟨frS ⟨x, n, G, noRows⟩ (live.getD q (0, 0)).1 (live.getD q (0, 0)).2, live.eraseIdx q, given⟩) ?_ rfl ?_ rfl rfl rfl rfl (fun r hr => ?_) (fun _ _ => rfl)
          · show _ = (live.eraseIdx q).length
            rw [List.length_eraseIdx_of_lt hat]; omega
          · rw [if_pos trivial]; rfl
          · show _ = lsF (live.eraseIdx q) r
            have eg : ∀ j, (live.eraseIdx q).getD j (0, 0) = if j < q then live.getD j (0, 0) else live.getD (j + 1) (0, 0) := fun j => by
              rw [List.getD_eq_getElem?_getD, List.getElem?_eraseIdx]
              split <;> rw [List.getD_eq_getElem?_getD]
            unfold lsF
            rw [eg]
            simp only [Nat.zero_add, Nat.not_lt_zero, if_false, Nat.sub_zero]
            split
            · rfl
            · rw [show q + 1 + (r - q) = r + 1 by omega]
        · simp [goodNames, asg]
      · intro z3 k3
        have hnc : ¬ (kk % 3 = 2 ∧ live ≠ []) := by
          rintro ⟨c1, c2⟩
          have hz2 : z2 = 2 := by rw [k2, k1, show modS (X i) 1048576 = (kk : Int) by omega, Int.tmod_eq_emod_of_nonneg (by omega)]; omega
          have hpos : 0 < live.length := List.length_pos_iff.2 c2
          rw [hz2, decide_eq_true (by omega : (0 : Int) < live.length)] at hc
          cases hc
        refine ⟨tkS_tl _, hI.slOK, fun hl z k4 => ?_, fun hl => ?_⟩
        · have hl : live.length = n := by
            have : (live.length : Int) = n := by simpa using hl
            omega
          have hs' : tdAt n X (i + 1) = ⟨⟨x, n, G, noRows⟩, live, given⟩ := by
            rw [hstep]; unfold tdStep; rw [if_neg hnc]; exact if_pos hl
          have hf : tkI ⟨x, n, G, noRows⟩ = n := (hI.full (by omega)).1 hl
          have hnn : ¬ n < n := Nat.lt_irrefl _
          have hS : tkS ⟨x, n, G, noRows⟩ = ⟨x, n, G, noRows⟩ := by unfold tkS; rw [hf]; exact if_neg hnn
          have hH : tkH ⟨x, n, G, noRows⟩ = (0, 0) := by unfold tkH; rw [hf]; exact if_neg hnn
          have hE : tkE ⟨x, n, G, noRows⟩ = 10 := by unfold tkE; rw [hf]; exact if_neg hnn
          rw [hE] at k3
          subst k3
          rw [hS, hH]
          refine ⟨i + 1, by omega, by omega, [(23, some 23), (24, some 24)], by rw [k4, wrap_in (by unfold inR; omega)]; omega, ?_, ?_⟩
          · rw [hs']
            exact tdFit (t := ⟨⟨x, n, G, noRows⟩, live, given⟩) rfl rfl rfl rfl rfl rfl rfl (fun _ _ => rfl) (fun _ _ => rfl)
          · simp [goodNames, asg]
        · have hl : live.length ≠ n := by
            have : (live.length : Int) ≠ n := by simpa using hl
            omega
          have hs' : tdAt n X (i + 1) = ⟨tkS ⟨x, n, G, noRows⟩, live ++ [tkH ⟨x, n, G, noRows⟩], given ++ [tkH ⟨x, n, G, noRows⟩]⟩ := by
            rw [hstep]; unfold tdStep; rw [if_neg hnc]; exact if_neg hl
          obtain ⟨t1, t2, t3⟩ := hI.take (by omega) hl
          have t1 : TdI n (i + 1) ⟨tkS ⟨x, n, G, noRows⟩, live ++ [tkH ⟨x, n, G, noRows⟩], given ++ [tkH ⟨x, n, G, noRows⟩]⟩ := t1
          have t2 : tkE ⟨x, n, G, noRows⟩ = 0 := t2
          have t3 : tkH ⟨x, n, G, noRows⟩ ∉ given := t3
          have tn : (tkS ⟨x, n, G, noRows⟩).n = n := t1.sn
          have ttl : (tkS ⟨x, n, G, noRows⟩).tl = noRows := by unfold tkS; split <;> rfl
          rw [t2] at k3
          subst k3
          intro zb kb
          have hzb : zb = false := by
            rw [kb]
            refine decide_eq_false fun hm => t3 ?_
            rw [show (gxP fun i => lsF given i) = gxP (lsF given) from rfl, lP_ls] at hm
            exact hm
          subst hzb
          have hb : bytesT Try.prog 55 = 16 := by kernel_rfl
          refine ⟨fun _ => by omega, fun _ _ _ => trivial, by rw [hb]; omega, by omega, by rw [hb]; omega, by omega, fun z k4 => ⟨i + 1, by omega, by omega, [(23, some 76), (24, some 81)], by rw [k4, wrap_in (by unfold inR; omega)]; omega, ?_, ?_⟩⟩
          · rw [hs']
            have el : ∀ (l : List (Int × Int)) (h : Int × Int), (l ++ [h]).length = l.length + 1 := fun l h => by rw [List.length_append]; rfl
            rw [tn, ttl]
            generalize tkH ⟨x, n, G, noRows⟩ = hh
            exact tdFit (t := ⟨tkS ⟨x, n, G, noRows⟩, live ++ [hh], given ++ [hh]⟩) (el _ _).symm (el _ _).symm rfl rfl rfl rfl rfl (fun q hq => lsF_push hq) (fun q hq => lsF_push hq)
          · simp [goodNames, asg]
      · have e : i = k := by omega
        rw [hend e]
        exact newTd (t := ⟨⟨x, n, G, noRows⟩, live, given⟩) rfl rfl rfl rfl
    · cases hF
  · cases hF
end Go.Ax
end

section
/-
  The laws' tables: what is in them.
-/
set_option linter.unusedVariables false
set_option linter.unusedSimpArgs false
set_option maxHeartbeats 4000000
set_option maxRecDepth 100000
namespace Go.Ax
open Go.Proofs
theorem F28_eq {most : Int} {n : Nat} {g : Nat → List AV} : F28 [i64 most, .ro n 1 g] = some ((n ≤ 1000) :: inR most :: (∀ i, inR (gx g 0 i)) :: [ints n g], fun K => tdA K (tdAt (tdN most) (gx g 0) n), fun K => some (tdF K (tdAt (tdN most) (gx g 0) n))) := (rfl)
theorem tdF_eq {K : Nat} {t : TdS} : tdF K t = famR [⟨1, 2, 88, fun _ => [u64 t.s.x, .own K 1 t.s.n 1], none⟩, ⟨t.s.n, 1, 3, fun i => [i64 (t.s.G i)], none⟩] (famR [⟨t.live.length, 2, 55, lsF t.live, none⟩, ⟨t.given.length, 2, 55, lsF t.given, none⟩] noRows) := (rfl)
theorem famNK_td {K : Nat} {t : TdS} : famNK K (tdF K t) = True := eq_true fun f j hj c hc => by
  match f with
  | 0 =>
    have hc : c ∈ [u64 t.s.x, .own K 1 t.s.n 1] := hc
    simp only [List.mem_cons, List.not_mem_nil, or_false] at hc
    rcases hc with rfl | rfl
    · trivial
    · rfl
  | 1 =>
    have hc : c ∈ [i64 (t.s.G j)] := hc
    simp only [List.mem_cons, List.not_mem_nil, or_false] at hc
    subst hc; trivial
  | 2 =>
    have hc : c ∈ lsF t.live j := hc
    simp only [lsF, List.mem_cons, List.not_mem_nil, or_false] at hc
    rcases hc with rfl | rfl <;> trivial
  | 3 =>
    have hc : c ∈ lsF t.given j := hc
    simp only [lsF, List.mem_cons, List.not_mem_nil, or_false] at hc
    rcases hc with rfl | rfl <;> trivial
  | f + 4 => have hj : j < 0 := hj; omega
theorem famNK_td' {K : Nat} {t : TdS} : famNK K (famR [⟨1, 2, 88, fun _ => [u64 t.s.x, .own K 1 t.s.n 1], none⟩, ⟨t.s.n, 1, 3, fun i => [i64 (t.s.G i)], none⟩] (famR [⟨t.live.length, 2, 55, lsF t.live, none⟩, ⟨t.given.length, 2, 55, lsF t.given, none⟩] noRows)) = True := famNK_td
theorem tlOK_td {t : TdS} : tlOK (famR [⟨t.live.length, 2, 55, lsF t.live, none⟩, ⟨t.given.length, 2, 55, lsF t.given, none⟩] noRows) = True := eq_true fun f => match f with
  | 0 => ⟨rfl, fun j hj c hc => by
    have hc : c ∈ lsF t.live j := hc
    simp only [lsF, List.mem_cons, List.not_mem_nil, or_false] at hc
    rcases hc with rfl | rfl <;> rfl⟩
  | 1 => ⟨rfl, fun j hj c hc => by
    have hc : c ∈ lsF t.given j := hc
    simp only [lsF, List.mem_cons, List.not_mem_nil, or_false] at hc
    rcases hc with rfl | rfl <;> rfl⟩
  | f + 2 => ⟨rfl, fun j hj => by have hj : j < 0 := hj; omega⟩
theorem c13_eq : c13 [] = some ([], bo true) := (rfl)
attribute [go_sem] F28_eq tdF_eq famNK_td' tlOK_td c13_eq
/-! ### What is in the list of all handles -/
theorem cntB_up {T : Nat → Bool} {n : Nat} (h : ∀ j, n ≤ j → T j = false) : ∀ m, n ≤ m → cntB T m = cntB T n
  | 0, hm => by rw [show n = 0 by omega]
  | m + 1, hm => by
    by_cases e : n = m + 1
    · rw [e]
    · simp only [cntB]
      rw [if_neg (by rw [h m (by omega)]; decide), cntB_up h m (by omega)]; omega
theorem atOk_nat {x : Int} {n j : Nat} (hj : j < n) : atOk x n (j : Int) = x.toNat.testBit j := by
  unfold atOk
  rw [decide_eq_true (by omega), Bool.true_and, Int.toNat_natCast]
theorem allL_mem {x : Int} {n : Nat} {X : Nat → Int} {h : Int × Int} : ∀ {i}, i ≤ n → (h ∈ allL x n X i ↔ ∃ j : Nat, j < i ∧ x.toNat.testBit j = true ∧ h = ((j : Int), X j))
  | 0, _ => by simp [allL]
  | i + 1, hi => by
    rw [allL, List.mem_append, allL_mem (by omega), atOk_nat (by omega)]
    constructor
    · rintro (⟨j, h1, h2⟩ | h1)
      · exact ⟨j, by omega, h2⟩
      · by_cases hb : x.toNat.testBit i = true
        · rw [if_pos hb] at h1
          exact ⟨i, by omega, hb, by simpa using h1⟩
        · rw [if_neg hb] at h1; cases h1
    · rintro ⟨j, h1, h2, h3⟩
      by_cases e : j = i
      · subst e; exact .inr (by rw [if_pos h2, h3]; simp)
      · exact .inl ⟨j, by omega, h2, h3⟩
theorem allL_sorted {x : Int} {n : Nat} {X : Nat → Int} : ∀ i, i ≤ n → (allL x n X i).Pairwise fun a b => a.1 < b.1
  | 0, _ => .nil
  | i + 1, hi => by
    rw [allL]
    refine List.pairwise_append.2 ⟨allL_sorted i (by omega), ?_, fun a ha b hb => ?_⟩
    · split
      · exact List.pairwise_singleton _ _
      · exact .nil
    · obtain ⟨j, h1, h2, rfl⟩ := (allL_mem (by omega)).1 ha
      split at hb
      · have : b = ((i : Int), X i) := by simpa using hb
        rw [this]
        show (j : Int) < i
        omega
      · cases hb
theorem allL_len {x : Int} {n : Nat} {X : Nat → Int} : ∀ i, i ≤ n → (allL x n X i).length = cntB x.toNat.testBit i
  | 0, _ => rfl
  | i + 1, hi => by
    rw [allL, List.length_append, allL_len i (by omega), atOk_nat (by omega)]
    simp only [cntB]
    by_cases hb : x.toNat.testBit i = true
    · rw [if_pos hb, if_pos hb]; rfl
    · rw [if_neg hb, if_neg hb]; rfl
theorem mayT_gen {x : Int} {G : Nat → Int} {i : Nat} (h : G i < 2147483647) : mayT x G i = !x.toNat.testBit i := by
  unfold mayT
  rw [decide_eq_true h, Bool.and_true]
theorem tdN_in {most : Int} : 1 ≤ tdN most ∧ tdN most ≤ 64 := by
  have := modS_in (n := most) (m := 64) (by decide)
  unfold tdN; omega
end Go.Ax
end

section
/-
  The laws' tables: Copy, Take, Free.
-/
set_option linter.unusedVariables false
set_option linter.unusedSimpArgs false
set_option maxHeartbeats 4000000
set_option maxRecDepth 100000
namespace Go.Ax
open Go.Proofs
theorem famNK_S' {key : Nat} {x : Int} {n : Nat} {X : Nat → Int} : famNK key (famR [⟨1, 2, 88, fun _ => [u64 x, .own key 1 n 1], none⟩, ⟨n, 1, 3, fun i => [i64 (X i)], none⟩] noRows) = True := famNK_S
theorem famR_n2 {x y z : Row} {l : List Row} {T0 : Fam} : famR [x, y] (famR (z :: l) T0) 2 = z := (rfl)
theorem famR_n3 {x y z u : Row} {l : List Row} {T0 : Fam} : famR [x, y] (famR (z :: u :: l) T0) 3 = u := (rfl)
attribute [go_sem] famR_n2 famR_n3 famNK_S' tlOK_no
theorem tkS_n {s : SlS} : (tkS s).n = s.n := by unfold tkS; split <;> rfl
theorem tkS_t {s : SlS} : (tkS s).tl = s.tl := by unfold tkS; split <;> rfl
theorem frS_n {s : SlS} {a g : Int} : (frS s a g).n = s.n := by unfold frS; split <;> rfl
theorem frS_t {s : SlS} {a g : Int} : (frS s a g).tl = s.tl := by unfold frS; split <;> rfl
theorem slOK_tk {s : SlS} (h : slOK s) : slOK (tkS s) := by
  obtain ⟨⟨h0, h1⟩, ⟨h2, h3⟩, h4⟩ := h
  have hle : tkI s ≤ s.n := lst_le s.n
  unfold tkS
  split
  · rename_i hlt
    refine ⟨⟨?_, ?_⟩, ⟨h2, h3⟩, fun i hi => ?_⟩
    · show 0 ≤ setX _ _
      unfold setX; omega
    · show setX _ _ < _
      unfold setX
      have := setN_lt (a := s.x.toNat) (k := tkI s) (by omega) (by omega)
      rw [Int.toNat_natCast]; omega
    · show 0 ≤ upI _ _ _ i
      unfold upI
      have := h4 i hi
      have := h4 _ hlt
      split <;> omega
  · exact ⟨⟨h0, h1⟩, ⟨h2, h3⟩, h4⟩
theorem slOK_fr {s : SlS} {a g : Int} (h : slOK s) : slOK (frS s a g) := by
  obtain ⟨⟨h0, h1⟩, ⟨h2, h3⟩, h4⟩ := h
  unfold frS
  split
  · refine ⟨⟨?_, ?_⟩, ⟨h2, h3⟩, h4⟩
    · show 0 ≤ clrX _ _
      unfold clrX; omega
    · show clrX _ _ < _
      unfold clrX
      have := clrN_lt (a := s.x.toNat) (k := 2 ^ a.toNat) (by omega)
      omega
  · exact ⟨⟨h0, h1⟩, ⟨h2, h3⟩, h4⟩
end Go.Ax
end

section
/-
  The frame of a law: its arguments ars abstract values, and what they read ars behind the call.
-/
set_option linter.unusedSimpArgs false
set_option linter.unusedVariables false
namespace Go.Ax
open Go.ChangeShapes Go.WideShapes Go.ChangeAt Go.RowKit

/-- What an argument is. -/
inductive ShV where
  | int (k : IntKind)
  | bool
  | agg (es : List Sh)
  | slice (sz : Nat) (es : List Sh)

def shV (P : Program) (t : TypeId) : Option ShV :=
  match P.underlying t with
  | some .bool => some .bool
  | some (.int k) => some (.int k)
  | some (.slice _) => match shT P 6 t with
    | some [.slice sz es] => some (.slice sz es)
    | _ => none
  | some (.struct _) => (shT P 6 t).map .agg
  | some (.array _ _) => (shT P 6 t).map .agg
  | _ => none

def fitV : ShV → AV → Prop
  | .int k, a => ∃ n, a = .v (.int k n) ∧ (Lit.int k n).wf = true
  | .bool, a => ∃ b, a = .v (.bool b)
  | .agg es, a => ∃ l, a = .agg l ∧ fitS es l
  | .slice sz es, a => ∃ (n : Nat) (get : Nat → List AV), a = .ro n sz get ∧ n ≤ maxLen ∧ ∀ i, fitS es (get i)

def shVs (P : Program) : List TypeId → Option (List ShV)
  | [] => some []
  | t :: ts => match shV P t, shVs P ts with
    | some s, some r => some (s :: r)
    | _, _ => none
def fitVs : List ShV → List AV → Prop
  | [], l => l = []
  | s :: ss, l => ∃ a r, l = a :: r ∧ fitV s a ∧ fitVs ss r

section
variable {H : Type} {enc : TypeId × Value → H} {P : Program} {w : World} {spare : Nat → Bool} {held : Bool} {base : Nat}

theorem okWide_agg_struct {t : TypeId} {fs : Array Field} {v : Value} (ht : P.underlying t = some (.struct fs)) (h : Value.okWide P w .any base t v) : ∃ cs, v = .agg cs := by
  obtain ⟨cs, h, _⟩ := okWide_struct ht h
  exact ⟨cs, h⟩
theorem trod_agg_array {t e : TypeId} {n : Nat} {v : Value} {x : DataW H} {ps : List MemPlace} (ht : P.underlying t = some (.array n e)) (h : Value.okWide P w .any base t v) : ∃ cs, v = .agg cs := by
  cases v <;> simp [Value.okWide, Value.ok, ht] at h <;> exact ⟨_, rfl⟩

theorem arg_read {t : TypeId} {s : ShV} {v : Value} {x : DataW H} {ps : List MemPlace} (hs : shV P t = some s) (ho : Value.okWide P w .any base t v) (h : DataW.Trod enc P w 0 spare held t v x ps) : ∃ a, fitV s a ∧ R w (.ext (All w)) a v := by
  unfold shV at hs
  split at hs
  · rename_i hu
    cases hs
    obtain ⟨b, rfl⟩ := okWide_bool hu ho
    exact ⟨_, ⟨b, rfl⟩, .v⟩
  · rename_i k hu
    cases hs
    obtain ⟨n, rfl, _, _, hw⟩ := open_int hu ho h
    exact ⟨_, ⟨n, rfl, hw⟩, .v⟩
  · rename_i e hu
    split at hs
    · rename_i sz es he
      cases hs
      obtain ⟨a, len, cap, rfl⟩ := okWide_slice hu ho
      obtain ⟨n, get, h1, h2, h3⟩ := slice_read he h
      exact ⟨_, ⟨n, get, rfl, h1, h2⟩, h3⟩
    · cases hs
  · rename_i fs hu
    obtain ⟨es, he, rfl⟩ := Option.map_eq_some_iff.1 hs
    obtain ⟨cs, rfl⟩ := okWide_agg_struct hu ho
    obtain ⟨l, h1, h2⟩ := agg_read he h
    exact ⟨_, ⟨l, rfl, h1⟩, h2⟩
  · rename_i n e hu
    obtain ⟨es, he, rfl⟩ := Option.map_eq_some_iff.1 hs
    obtain ⟨cs, rfl⟩ := trod_agg_array (x := x) (ps := ps) hu ho
    obtain ⟨l, h1, h2⟩ := agg_read he h
    exact ⟨_, ⟨l, rfl, h1⟩, h2⟩
  · cases hs

theorem args_read : ∀ {ts : List TypeId} {ss : List ShV} {vs : List Value} {ds : List (DataW H)} {ps : List MemPlace}, shVs P ts = some ss → (∀ (j : Nat) t v, ts[j]? = some t → vs[j]? = some v → Value.okWide P w .any base t v) →
    DataW.TrodAll enc P w 0 spare held ts vs ds ps → ∃ l, fitVs ss l ∧ Rs w (.ext (All w)) l vs
  | [], ss, vs, ds, ps, hs, ho, h => by
    simp only [shVs, Option.some.injEq] at hs
    subst hs
    obtain ⟨rfl, rfl, rfl⟩ := trodAll_nil h
    exact ⟨[], rfl, .nil⟩
  | t :: ts, ss, vs, ds, ps, hs, ho, h => by
    simp only [shVs] at hs
    split at hs
    · rename_i s r h1 h2
      cases hs
      obtain ⟨v, vs', d, ds', p, q, rfl, rfl, rfl, h3, h4⟩ := trodAll_cons h
      obtain ⟨a, a1, a2⟩ := arg_read h1 (ho 0 t v rfl rfl) h3
      obtain ⟨l, b1, b2⟩ := args_read h2 (fun j t v hj hv => ho (j + 1) t v (by simpa using hj) (by simpa using hv)) h4
      exact ⟨a :: l, ⟨a, l, rfl, a1, b1⟩, Rs.cons a2 b2⟩
    · cases hs

/-- Types that may be read whole. -/
def readOK (P : Program) (ts : List TypeId) : Bool := ts.all fun t => P.readableRec t && decide (t < P.types.size)

theorem args_stay {W W' : World} (hl : laidOutB P = true) (hb : Below W.heap.size W W') : ∀ {ts : List TypeId} {vs : List Value} {ds : List (DataW H)} {ps : List MemPlace}, readOK P ts = true →
    DataW.TrodAll enc P W 0 (fun _ => true) true ts vs ds ps → ∃ ps, DataW.TrodAll enc P W' 0 (fun b => decide (b < W.heap.size)) true ts vs ds ps
  | [], vs, ds, ps, _, h => by
    obtain ⟨rfl, rfl, rfl⟩ := trodAll_nil h
    exact ⟨[], rfl⟩
  | t :: ts, vs, ds, ps, hr, h => by
    obtain ⟨v, vs', d, ds', p, q, rfl, rfl, rfl, h3, h4⟩ := trodAll_cons h
    simp only [readOK, List.all_cons, Bool.and_eq_true, decide_eq_true_eq] at hr
    obtain ⟨q', h5⟩ := args_stay hl hb (by simpa [readOK] using hr.2) h4
    refine ⟨_, trodAll_cons_mk (Below.trod hl hr.1.1 hr.1.2 h3 hb ?_) h5⟩
    obtain ⟨m, hm⟩ := h3
    exact DataW.trod_lt m _ _ _ hm
end
end Go.Ax
end

section
/-
  Laws about tables and sweeps: their arguments.
-/
set_option linter.unusedVariables false
set_option linter.unusedSimpArgs false
set_option maxHeartbeats 4000000
set_option maxRecDepth 100000
namespace Go.Ax
open Go.Proofs Go.ChangeShapes Go.WideShapes Go.ChangeAt Go.RowKit
theorem rowI {l : List AV} (h : fitS [.int .i64] l) : l = [i64 (gi l 0)] ∧ inR (gi l 0) := by
  obtain ⟨_, _, rfl, ⟨x0, rfl, k0⟩, rfl⟩ := h
  exact ⟨rfl, wf_i64 k0⟩
theorem rowsI {get : Nat → List AV} (h : ∀ i, fitS [.int .i64] (get i)) : get = (fun i => [i64 (gx get 0 i)]) ∧ ∀ i, inR (gx get 0 i) := ⟨funext fun i => (rowI (h i)).1, fun i => (rowI (h i)).2⟩
end Go.Ax
end
