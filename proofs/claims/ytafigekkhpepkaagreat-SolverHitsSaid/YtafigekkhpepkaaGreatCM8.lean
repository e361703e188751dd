/-
  Lists of bodies and contacts that are the same; copies of contacts.
-/
import Derived.Test.YtafigekkhpepkaaGreatCM7
import Derived.ShutString
import Derived.ChangeOld
import Derived.Below
import Derived.Test.YtafigekkhpepkaaGreatRows
import Derived.JoinedOf
section
set_option linter.unusedVariables false
set_option linter.unusedSimpArgs false
set_option maxHeartbeats 4000000
set_option maxRecDepth 100000
namespace Go.Ax
open Go.Proofs
def kSaB : Con := cL fun N B rest => match rest with
  | [b] => some ([N ≤ 1000, inBs N B, b = .ro N 27 (bsC B)], bo true)
  | _ => none
theorem con18 : ConOK Tryz.prog 18 kSaB := ConOK.cL (G := [(36, kb36)]) (H := []) (.cons konb36 .nil) Tryz.func18 fun N B rest ob r hc hob => by
  split at hc
  · rename_i b
    cases hc
    have hN : N ≤ 1000 := hob _ (by simp)
    have hB : inBs N B := hob _ (by simp)
    have hb : b = .ro N 27 (bsC B) := hob _ (by simp)
    clear hob
    subst hb
    refine ⟨by kernel_rfl, fnVC_go (rs := [.tmp 4]) rfl rfl ?_⟩
    simp only [go_sem, kb36]
    refine ⟨fun h => by simp at h, fun h => ?_⟩
    refine loopC_go (fun (i : Nat) => i ≤ N) (fun i => N - i) (fun i => [(5, i64 (i : Int))]) (fun _ => []) [] [11, 12, 13, 14, 17, 18, 19, 20, 21, 22, 23, 24, 25, 26, 4, 15, 16, 5] 0 (by kernel_rfl) ?_ (Nat.zero_le _) ?_ ?_
    · intro x _; simp [goodNames, asg]
    · simp only [go_sem]
    intro i hi
    by_cases hiN : i < N
    · obtain ⟨i1, i2⟩ := hB i hiN
      simp only [go_sem, kb36, cB_eq, i1, i2, forall_eq]
      exact ⟨fun h => ⟨by omega, h, by omega, h, by simp, fun _ => ⟨i + 1, by omega, by omega, by rw [wrap_in (by unfold inR; omega)]; rfl⟩⟩, fun _ => trivial⟩
    · simp only [go_sem, kb36, cB_eq, forall_eq]
      exact ⟨fun h => absurd h (by omega), fun _ => trivial⟩
  · cases hc
def manC (v : V2) (n : Nat) (P : Nat → V2) (D : Nat → Nb) : AV := .agg [i64 v.1.1, bo v.1.2, i64 v.2.1, bo v.2.2, .ro n 6 (tchs P D)]
theorem vc87 (v : V2) (n : Nat) (P : Nat → V2) (D : Nat → Nb) (hn : n ≤ 1000) : fnVC Tryz.prog [] [] Tryz.f87 [manC v n P D, manC v n P D] (· = bo true) := by
  refine fnVC_go (rs := [.tmp 4]) rfl rfl ?_
  simp only [manC, go_sem, beq_self_eq_true, bne_self_eq_false, reduceCtorEq, or_self, false_imp_iff, true_imp_iff, and_self]
  refine loopC_go (fun (i : Nat) => i ≤ n) (fun i => n - i) (fun i => [(5, i64 (i : Int))]) (fun _ => []) [1, 0] [20, 21, 22, 23, 24, 27, 28, 29, 30, 31, 32, 33, 34, 35, 36, 37, 4, 25, 26, 5] 0 (by kernel_rfl) ?_ (Nat.zero_le _) ?_ ?_
  · intro x _; simp [goodNames, asg]
  · simp only [go_sem]
  intro i hi
  simp only [go_sem, tchs_at, tchC, beq_self_eq_true, forall_eq]
  exact ⟨fun h => ⟨by omega, h, by omega, h, fun _ => ⟨i + 1, by omega, by omega, by rw [wrap_in (by unfold inR; omega)]; rfl⟩⟩, fun _ => trivial⟩
def kSaM : Con
  | [.agg [.v (.int .i64 x), .v (.bool e), .v (.int .i64 y), .v (.bool f), .ro n 6 g], b] => some ([g = tchs (tchP g) (tchD g), n ≤ 1000, b = .agg [i64 x, bo e, i64 y, bo f, .ro n 6 g]], bo true)
  | _ => none
theorem con87 : ConOK Tryz.prog 87 kSaM := ConOK.of (G := []) (H := []) .nil Tryz.func87 fun l ob r hc hob => by
  unfold kSaM at hc
  split at hc
  · rename_i x e y f n g b
    cases hc
    have hg : g = tchs (tchP g) (tchD g) := hob _ (by simp)
    have hn : n ≤ 1000 := hob _ (by simp)
    have hb : b = .agg [i64 x, bo e, i64 y, bo f, .ro n 6 g] := hob _ (by simp)
    subst hb
    refine ⟨by kernel_rfl, ?_⟩
    have := vc87 ((x, e), (y, f)) n (tchP g) (tchD g) hn
    unfold manC at this
    rw [← hg] at this
    exact this
  · cases hc
def kSaC : Con
  | [.agg l, b] => some ([l = contC (contD l), (contD l).n ≤ 1000, b = .agg (contC (contD l))], bo true)
  | _ => none
theorem con21 : ConOK Tryz.prog 21 kSaC := ConOK.of (G := [(87, kSaM)]) (H := []) (.cons con87 .nil) Tryz.func21 fun l ob r hc hob => by
  unfold kSaC at hc
  split at hc
  · rename_i l b
    cases hc
    have e : l = contC (contD l) := hob _ (by simp)
    have hn : (contD l).n ≤ 1000 := hob _ (by simp)
    have hb : b = .agg (contC (contD l)) := hob _ (by simp)
    clear hob
    generalize contD l = c at *
    subst e hb
    refine ⟨by kernel_rfl, fnVC_go (rs := [.tmp 4]) rfl rfl ?_⟩
    simp only [contC, go_sem, kSaM, beq_self_eq_true, hn]
    exact fun z hz => ⟨fun _ => rfl, hz⟩
  · cases hc
theorem con17 : ConOK Tryz.prog 17 kCon := ConOK.of (G := []) (H := []) .nil Tryz.func17 fun l ob r hc hob => by
  unfold kCon at hc
  split at hc
  · rename_i l
    cases hc
    have e : l = contC (contD l) := hob _ (by simp)
    have hn : (contD l).n ≤ 1000 := hob _ (by simp)
    clear hob
    generalize contD l = c at *
    subst e
    refine ⟨by kernel_rfl, fnVC_go (rs := [.cell 2 32]) rfl rfl ?_⟩
    simp only [contC, go_sem]
    refine loopN_go (fun (i : Nat) => i ≤ c.n) (fun i => c.n - i) (fun i => [(4, i64 (i : Int)), (3, .own 4 0 i 6)]) (fun i => [(4, famN i 6 69 (tchs c.P c.D) none)]) [1, 0] [5, 6, 7, 8, 9, 10, 13, 14, 15, 16, 17, 18, 19, 20, 21, 3, 11, 12, 4] 1 0 (by kernel_rfl) (Nat.zero_le _) ⟨[(4, none)], ?_, ?_, ?_, ?_⟩ ?_
    · simp only [go_sem]
    · simp only [go_sem]
    · simp only [go_sem]
    · simp [goodNames, asg]
    intro i hi
    simp only [go_sem, tchs_at, tchC, byt69, forall_eq]
    refine ⟨fun h => ⟨by omega, h, by omega, by omega, i + 1, by omega, by omega, [(4, some 19)], ?_⟩, fun h => ?_⟩
    · simp only [go_sem]
      refine ⟨by rw [wrap_in (by unfold inR; omega)]; rfl, fun j hj => ?_, by simp [goodNames, asg]⟩
      by_cases e : j < i
      · rw [if_pos e]; exact fitL_clean rfl
      · have e : j = i := by omega
        subst e
        rw [if_neg (by omega), Nat.sub_self]
        exact fitL_clean rfl
    · have e : i = c.n := by omega
      subst e
      rfl
  · cases hc
end Go.Ax
end

section
/-
  Lists of few bodies.
-/
set_option linter.unusedVariables false
set_option linter.unusedSimpArgs false
set_option maxHeartbeats 4000000
set_option maxRecDepth 100000
namespace Go.Ax
open Go.Proofs
/-- Lists of few bodies, ars a law gets them. -/
def kLitL : Con := cL fun N B rest => match rest with
  | [] => some ([N ≤ 9223372036854775807, ∀ i, i < N → (B i).n ≤ 9223372036854775807], bo (decide (∀ i, i < N → (B i).n ≤ 12)))
  | _ => none
theorem konLL14 : ConOK Tryz.prog 14 kLitL := fun l ob r he hob => by
  unfold kLitL cL at he
  split at he
  · rename_i N g rest
    split at he
    · rename_i ob' r' hF
      cases he
      dsimp only at hF
      split at hF
      · cases hF
        have h1 : g = bsC (bsD g) := hob _ (by simp)
        have h2 : N ≤ 9223372036854775807 := hob _ (by simp)
        have h3 : ∀ i, i < N → (bsD g i).n ≤ 9223372036854775807 := hob _ (by simp)
        exact kon14L [.ro N 27 g] _ _ rfl (owe2 h2 fun i hi => ⟨by rw [h1]; rfl, h3 i hi⟩)
      · cases hF
    · cases he
  · cases he
end Go.Ax
end

section
/-
  One iteration of a contact.
-/
set_option linter.unusedVariables false
set_option linter.unusedSimpArgs false
set_option maxHeartbeats 4000000
set_option maxRecDepth 100000
namespace Go.Ax
open Go.Proofs
/-- What comes of an impulse along a contact. -/
def hitN (a b : Bd) (x n : V2) (pu : Nb) : Nb := nPos (nAdd pu (sliS a b x n))
def apaA (a : Bd) (x n : V2) (d : Nb) : Bd := pshS a x (vScale n (nNeg d))
def apaB (b : Bd) (x n : V2) (d : Nb) : Bd := pshS b x (vScale n d)
def hitY (a b : Bd) (x t : V2) (nx ru : Nb) : Nb := nCl (nAdd ru (sliS a b x t)) (nNeg (nMul nx (nRat 1 2))) (nMul nx (nRat 1 2))
structure Hr where
  a : Bd
  b : Bd
  p : Nb
  r : Nb
/-- One touch. -/
def hitR (a b : Bd) (x n : V2) (pu ru : Nb) : Hr :=
  if (sliK a b x n).1 = 0 then ⟨a, b, pu, ru⟩ else
  let nx := hitN a b x n pu
  let a1 := apaA a x n (nSub nx pu)
  let b1 := apaB b x n (nSub nx pu)
  let t := vPerp n
  if (sliK a1 b1 x t).1 = 0 then ⟨a1, b1, nx, ru⟩ else
  let ry := hitY a1 b1 x t nx ru
  ⟨apaA a1 x t (nSub ry ru), apaB b1 x t (nSub ry ru), nx, ry⟩
structure Hs where
  a : Bd
  b : Bd
  c : Ct
def hit0 (a b : Bd) (c : Ct) : Hs := ⟨(hitR a b (c.P 0) c.nv c.p0 c.r0).a, (hitR a b (c.P 0) c.nv c.p0 c.r0).b, { c with p0 := (hitR a b (c.P 0) c.nv c.p0 c.r0).p, r0 := (hitR a b (c.P 0) c.nv c.p0 c.r0).r }⟩
def hit1 (a b : Bd) (c : Ct) : Hs := ⟨(hitR a b (c.P 1) c.nv c.p1 c.r1).a, (hitR a b (c.P 1) c.nv c.p1 c.r1).b, { c with p1 := (hitR a b (c.P 1) c.nv c.p1 c.r1).p, r1 := (hitR a b (c.P 1) c.nv c.p1 c.r1).r }⟩
def hitI (a b : Bd) (c : Ct) : Nat → Hs
  | 0 => ⟨a, b, c⟩
  | 1 => hit0 a b c
  | _ + 2 => hit1 (hit0 a b c).a (hit0 a b c).b (hit0 a b c).c
def hitS (a b : Bd) (c : Ct) : Hs := hitI a b c (min 2 c.n)
def hitT (N : Nat) (B : Nat → Bd) (c : Ct) : Nat → Bd :=
  if apB N c.a c.b then updB (updB B c.a.toNat (hitS (B c.a.toNat) (B c.b.toNat) c).a) c.b.toNat (hitS (B c.a.toNat) (B c.b.toNat) c).b else B
def hitC (N : Nat) (B : Nat → Bd) (c : Ct) : Ct := if apB N c.a c.b then (hitS (B c.a.toNat) (B c.b.toNat) c).c else c
def hitF : Nat → (Nat → List AV) → List AV → List AV → Option (List Prop × AV × (Nat → List AV) × List AV)
  | N, get, l, [] => some ([get = bsC (bsD get), inBs N (bsD get), N ≤ 1000, l = contC (contD l), inC (contD l), (contD l).n ≤ 1000], .tup [], bsC (hitT N (bsD get) (contD l)), contC (hitC N (bsD get) (contD l)))
  | _, _, _, _ => none
theorem fitF_T {K N M L sz : Nat} {σ : Names} {tp ty : TypeId} {get : Nat → List AV} (hK : K < L) (hc : ∀ i, i < N → cleanCs (get i) = true) : fitF L M σ (famT K N sz tp ty get) (some (famT K N sz tp ty get)) := fun f => by
  cases f with
  | zero =>
    refine ⟨rfl, rfl, rfl, rfl, rfl, fun j hj => ⟨⟨rfl, hK⟩, trivial⟩⟩
  | succ f =>
    refine ⟨rfl, rfl, rfl, rfl, rfl, fun j hj => ?_⟩
    simp only [famT] at hj ⊢
    split at hj
    · rename_i hf
      have : j = 0 := by omega
      subst this
      exact fitL_clean (hc f hf)
    · omega
theorem cleanCs_of : ∀ {l : List AV}, (∀ c ∈ l, cleanC c = true) → cleanCs l = true
  | [], _ => rfl
  | a :: l, h => by
    simp only [cleanCs, Bool.and_eq_true]
    exact ⟨h a (by simp), cleanCs_of fun c hc => h c (by simp [hc])⟩
theorem fitF_cl {N M : Nat} {σ : Names} {fam : Fam} (h : famCl fam) : fitF N M σ fam (some fam) := fun f =>
  ⟨rfl, rfl, rfl, (h f).1, (h f).1, fun j hj => fitL_clean (cleanCs_of ((h f).2 j hj))⟩
theorem nb_f {x : Int} (h : false = !(x == 0)) : x = 0 := by simpa using h
theorem nb_t {x : Int} (h : true = !(x == 0)) : ¬ x = 0 := by simpa using h
theorem iSli {a b : Bd} {x n : V2} : inR (sliS a b x n).1 = True := iDiv
theorem hitR_b {a b : Bd} {x n : V2} {pu ru : Nb} (h : ¬ (sliK a b x n).1 = 0) (k : (sliK (apaA a x n (nSub (hitN a b x n pu) pu)) (apaB b x n (nSub (hitN a b x n pu) pu)) x (vPerp n)).1 = 0) :
    hitR a b x n pu ru = ⟨apaA a x n (nSub (hitN a b x n pu) pu), apaB b x n (nSub (hitN a b x n pu) pu), hitN a b x n pu, ru⟩ := by
  unfold hitR; rw [if_neg h]; dsimp only; rw [if_pos k]
theorem hitR_c {a b : Bd} {x n : V2} {pu ru : Nb} (h : ¬ (sliK a b x n).1 = 0) (k : ¬ (sliK (apaA a x n (nSub (hitN a b x n pu) pu)) (apaB b x n (nSub (hitN a b x n pu) pu)) x (vPerp n)).1 = 0) :
    hitR a b x n pu ru = (let a1 := apaA a x n (nSub (hitN a b x n pu) pu); let b1 := apaB b x n (nSub (hitN a b x n pu) pu); let nx := hitN a b x n pu; let t := vPerp n; let ry := hitY a1 b1 x t nx ru; ⟨apaA a1 x t (nSub ry ru), apaB b1 x t (nSub ry ru), nx, ry⟩) := by
  unfold hitR; rw [if_neg h]; dsimp only; rw [if_neg k]
theorem hitR_in {a b : Bd} {x n : V2} {pu ru : Nb} (ha : inB a) (hb : inB b) (hp : inR pu.1) (hr : inR ru.1) : inB (hitR a b x n pu ru).a ∧ inB (hitR a b x n pu ru).b ∧ inR (hitR a b x n pu ru).p.1 ∧ inR (hitR a b x n pu ru).r.1 := by
  unfold hitR
  split
  · exact ⟨ha, hb, hp, hr⟩
  · dsimp only
    have k1 : inR (hitN a b x n pu).1 := of_eq_true (iPos (of_eq_true iAdd))
    have k2 := inB_psh (p := x) (j := vScale n (nNeg (nSub (hitN a b x n pu) pu))) ha
    have k3 := inB_psh (p := x) (j := vScale n (nSub (hitN a b x n pu) pu)) hb
    split
    · exact ⟨k2, k3, k1, hr⟩
    · exact ⟨inB_psh k2, inB_psh k3, k1, of_eq_true (iCl (of_eq_true iAdd) (of_eq_true (iNeg (of_eq_true iMul))) (of_eq_true iMul))⟩
theorem hitR_n {a b : Bd} {x n : V2} {pu ru : Nb} : (hitR a b x n pu ru).a.n = a.n ∧ (hitR a b x n pu ru).b.n = b.n := by
  unfold hitR
  split
  · exact ⟨rfl, rfl⟩
  · dsimp only
    split
    · exact ⟨psh_n, psh_n⟩
    · exact ⟨psh_n.trans psh_n, psh_n.trans psh_n⟩
theorem hit0_in {a b : Bd} {c : Ct} (ha : inB a) (hb : inB b) (hc : inC c) : inB (hit0 a b c).a ∧ inB (hit0 a b c).b ∧ inC (hit0 a b c).c := by
  obtain ⟨c1, c2, c3, c4, c5, c6, c7, c8, c9⟩ := hc
  obtain ⟨h1, h2, h3, h4⟩ := hitR_in (x := c.P 0) (n := c.nv) ha hb c6 c8
  exact ⟨h1, h2, c1, c2, c3, c4, c5, h3, c7, h4, c9⟩
theorem hit1_in {a b : Bd} {c : Ct} (ha : inB a) (hb : inB b) (hc : inC c) : inB (hit1 a b c).a ∧ inB (hit1 a b c).b ∧ inC (hit1 a b c).c := by
  obtain ⟨c1, c2, c3, c4, c5, c6, c7, c8, c9⟩ := hc
  obtain ⟨h1, h2, h3, h4⟩ := hitR_in (x := c.P 1) (n := c.nv) ha hb c7 c9
  exact ⟨h1, h2, c1, c2, c3, c4, c5, c6, h3, c8, h4⟩
theorem hitI_in {a b : Bd} {c : Ct} (ha : inB a) (hb : inB b) (hc : inC c) : ∀ i, inB (hitI a b c i).a ∧ inB (hitI a b c i).b ∧ inC (hitI a b c i).c
  | 0 => ⟨ha, hb, hc⟩
  | 1 => hit0_in ha hb hc
  | _ + 2 => by
    obtain ⟨h1, h2, h3⟩ := hit0_in ha hb hc
    exact hit1_in h1 h2 h3
theorem hitI_n {a b : Bd} {c : Ct} : ∀ i, (hitI a b c i).a.n = a.n ∧ (hitI a b c i).b.n = b.n ∧ (hitI a b c i).c.n = c.n ∧ (hitI a b c i).c.nv = c.nv ∧ (hitI a b c i).c.a = c.a ∧ (hitI a b c i).c.b = c.b ∧ (hitI a b c i).c.P = c.P ∧ (hitI a b c i).c.D = c.D
  | 0 => ⟨rfl, rfl, rfl, rfl, rfl, rfl, rfl, rfl⟩
  | 1 => ⟨hitR_n.1, hitR_n.2, rfl, rfl, rfl, rfl, rfl, rfl⟩
  | _ + 2 => ⟨hitR_n.1.trans hitR_n.1, hitR_n.2.trans hitR_n.2, rfl, rfl, rfl, rfl, rfl, rfl⟩
/-- As 'contC', but sealed. -/
def contR (c : Ct) : List AV := contC c
def mHit : MCon := mcTQ 27 15 151 155 hitF
theorem con89m : MConOK Tryz.prog 89 mHit := MConOK.mcTQ (G := [(152, .wr mTwo), (160, kw160p), (161, kSli), (153, kw153), (129, k214), (154, k160), (162, .wr mApa), (132, k132), (125, k129), (164, k179), (163, k171)]) (H := [(0, ⟨[(9, .call)], []⟩), (11, ⟨[(11, .slot 1)], []⟩), (12, ⟨[(13, .call)], []⟩), (15, ⟨[(9, .made 8)], []⟩), (17, ⟨[(12, .slot 1)], []⟩), (18, ⟨[(13, .call)], []⟩)]) (.mcons con152m (.cons konw160p (.cons con161 (.cons konw153 (.cons kon214 (.cons kon160 (.mcons con162m (.cons kon132 (.cons kon129 (.cons kon179 (.cons kon171 .nil))))))))))) Tryz.func89 fun N get l rest ob val get' cs' hF hob hcl hcl2 => by
  unfold hitF at hF
  split at hF
  · cases hF
    have h1 : get = bsC (bsD get) := hob _ (by simp)
    have hB : inBs N (bsD get) := hob _ (by simp)
    have hN : N ≤ 1000 := hob _ (by simp)
    have h2 : l = contC (contD l) := hob _ (by simp)
    have hc : inC (contD l) := hob _ (by simp)
    have hn : (contD l).n ≤ 1000 := hob _ (by simp)
    clear hob
    generalize bsD get = B at *
    generalize contD l = c at *
    subst h1 h2
    refine ⟨by simp, rfl, fun i _ => rfl, rfl, by kernel_rfl, fun fam f q hq hs hfc => bodyM_go (rs := []) rfl rfl ?_⟩
    have hg : ∀ f, (fam f).g = none := fun f => (hfc f).1
    obtain ⟨c1, c2, c3, c4, c5, c6, c7, c8, c9⟩ := id hc
    simp only [contC, go_sem, kw160p, kSli, kw153, k214, k160, k132, k129, k179, k171, mTwo, tchs_at, tchC, loadP_E, storeP_E, ← hs, hg, hq, c3, c4]
    have hno : ¬ apB N c.a c.b → hitT N B c = B ∧ hitC N B c = c := fun h => ⟨if_neg h, if_neg h⟩
    refine ⟨fun hap z hz => ⟨hN, (fun h => by rw [hz] at h; cases h), fun _ z1 hz1 => ?_⟩, fun hap z hz => ⟨hN, (fun h => ?_), fun h => (by rw [hz] at h; cases h)⟩⟩
    rotate_left
    · obtain ⟨e1, e2⟩ := hno hap
      rw [e1, e2]
      exact ⟨rfl, rfl⟩
    obtain ⟨a1, a2, a3, a4, a5⟩ := id hap
    have hz1' : z1 = ((min 2 c.n : Nat) : Int) := by rw [hz1]; omega
    have eT : hitT N B c = updB (updB B c.a.toNat (hitS (B c.a.toNat) (B c.b.toNat) c).a) c.b.toNat (hitS (B c.a.toNat) (B c.b.toNat) c).b := if_pos hap
    have eC : hitC N B c = (hitS (B c.a.toNat) (B c.b.toNat) c).c := if_pos hap
    obtain ⟨i1, i2⟩ := hB c.a.toNat (by omega)
    obtain ⟨i3, i4⟩ := hB c.b.toNat (by omega)
    have hA : c.a.toNat < N := by omega
    have hA2 : c.b.toNat < N := by omega
    have hne : c.a.toNat ≠ c.b.toNat := by omega
    rw [eT, eC]
    unfold hitS
    generalize c.a.toNat = A at *
    generalize c.b.toNat = Q at *
    generalize hM : min 2 c.n = M at *
    subst hz1'
    have u1 : ∀ B x y, updB (updB B A x) Q y A = x := fun B x y => by rw [updB_off hne, updB_at]
    have u2 : ∀ B x y u v, updB (updB (updB (updB B A x) Q y) A u) Q v = updB (updB B A u) Q v := fun B x y u v => by
      funext j
      unfold updB
      by_cases h1 : j = Q
      · simp [h1]
      · by_cases h2 : j = A <;> simp [h1, h2]
    obtain ⟨S, hS⟩ : ∃ S : Nat → Hs, S = hitI (B A) (B Q) c := ⟨_, rfl⟩
    rw [← hS]
    have s0 : S 0 = ⟨B A, B Q, c⟩ := by rw [hS]; rfl
    have u0 : updB (updB B A (B A)) Q (B Q) = B := by
      funext j
      unfold updB
      by_cases h1 : j = Q
      · simp [h1]
      · by_cases h2 : j = A
        · subst h2; simp [h1]
        · simp [h1, h2]
    have hff : ∀ d : Ct, famCl (famE fam f q (contC d)) := fun d => famCl_E hfc (cleanCs_mem rfl)
    refine loopC_go (fun (i : Nat) => i ≤ M) (fun i => M - i) (fun i => [(45, i64 (i : Int))]) (fun i => [(0, famT 0 N 27 151 155 (bsC (updB (updB B A (S i).a) Q (S i).b))), (1, famE fam f q (contR (S i).c))]) [30, 26] [46, 47, 9, 48, 49, 50, 51, 52, 53, 54, 55, 56, 10, 58, 59, 60, 61, 62, 57, 63, 64, 11, 12, 65, 66, 67, 68, 69, 70, 71, 72, 13, 73, 74, 75, 76, 77, 78, 79, 80, 81, 82, 83, 84, 85, 86, 87, 88, 89, 90, 91, 92, 93, 94, 95, 96, 97, 99, 100, 101, 102, 103, 98, 104, 105, 12, 106, 107, 108, 109, 110, 111, 112, 113, 114, 115, 14, 116, 117, 118, 119, 120, 121, 122, 123, 124, 125, 126, 127, 128, 129, 130, 131, 132, 133, 134, 135, 136, 137, 138, 139, 140, 141, 142, 143, 144, 145, 146, 147, 148, 45] 0 (by kernel_rfl) ?_ (Nat.zero_le _) ?_ ?_
    · intro x _; simp [goodNames, asg]
    · simp only [go_sem, s0, u0]
      exact ⟨fitF_T (by omega) fun _ _ => rfl, fitF_cl (hff c)⟩
    intro i hi
    match i, hi with
    | 0, hi =>
      have e0 : contR (S 0).c = contC c := by rw [s0]; rfl
      rw [e0]
      have en : S 1 = hit0 (B A) (B Q) (c) := by rw [hS]; rfl
      by_cases hM0 : 0 < M
      · obtain ⟨t1, t2, t3⟩ := c5 0 (by omega)
        simp only [contC, go_sem, kw160p, kSli, kw153, k214, k160, k132, k129, k179, k171, tchs_at, tchC, loadP_E, storeP_E, ← hs, hg, hq, c3, c4, c6, c8, s0, mApa, apaF, u0, u1, u2, updB_at, i1, i3, hA, hA2, iSli, inB_psh, t1, t2]
        have fin : ∀ s : Hs, S 1 = s → fitF 40 40 [] (famT 0 N 27 151 155 (bsC (updB (updB B A (S 1).a) Q (S 1).b))) (some (famT 0 N 27 151 155 (bsC (updB (updB B A s.a) Q s.b)))) ∧ fitF 40 40 [] (famE fam f q (contR (S 1).c)) (some (famE fam f q (contC s.c))) := fun s hs => by
          rw [hs]; exact ⟨fitF_T (by omega) fun _ _ => rfl, fitF_cl (hff s.c)⟩
        have w1 : IntKind.i64.wrap 1 = ((1 : Nat) : Int) := by decide
        have hAQ : A + 1 ≠ Q + 1 := by omega
        refine ⟨fun h => ⟨by omega, fun y hy => ⟨fun y0 v hv => ?_, fun y0 => ⟨hAQ, fun w hw => ⟨of_eq_true (iWh c3), fun w0 v hv => ?_, fun w0 => ⟨hAQ, of_eq_true (iWh c3), fun v hv => ?_⟩⟩⟩⟩⟩, fun h => absurd h (by omega)⟩
        · have hk : (sliK (B A) (B Q) (c.P 0) c.nv).1 = 0 := by rw [y0] at hy; simpa using hy
          have es : S 1 = ⟨B A, B Q, c⟩ := by rw [en]; unfold hit0; rw [show hitR (B A) (B Q) (c.P 0) c.nv c.p0 c.r0 = ⟨B A, B Q, c.p0, c.r0⟩ from if_pos hk]
          exact ⟨1, by omega, by omega, by rw [hv, w1], by have q := fin _ es; rw [u0] at q; exact q⟩
        · have hk : ¬ (sliK (B A) (B Q) (c.P 0) c.nv).1 = 0 := by rw [y0] at hy; simpa using hy
          have hk2 : (sliK (apaA (B A) (c.P 0) c.nv (nSub (hitN (B A) (B Q) (c.P 0) c.nv c.p0) c.p0)) (apaB (B Q) (c.P 0) c.nv (nSub (hitN (B A) (B Q) (c.P 0) c.nv c.p0) c.p0)) (c.P 0) (vPerp c.nv)).1 = 0 := nb_f (w0.symm.trans hw)
          have es := en
          unfold hit0 at es
          rw [hitR_b hk hk2] at es
          exact ⟨1, by omega, by omega, by rw [hv, w1], fin _ es⟩
        · have hk : ¬ (sliK (B A) (B Q) (c.P 0) c.nv).1 = 0 := by rw [y0] at hy; simpa using hy
          have hk2 : ¬ (sliK (apaA (B A) (c.P 0) c.nv (nSub (hitN (B A) (B Q) (c.P 0) c.nv c.p0) c.p0)) (apaB (B Q) (c.P 0) c.nv (nSub (hitN (B A) (B Q) (c.P 0) c.nv c.p0) c.p0)) (c.P 0) (vPerp c.nv)).1 = 0 := nb_t (w0.symm.trans hw)
          have es := en
          unfold hit0 at es
          rw [hitR_c hk hk2] at es
          exact ⟨1, by omega, by omega, by rw [hv, w1], fin _ es⟩
      · simp only [contC, go_sem, kw160p, kSli, kw153, k214, k160, k132, k129, k179, k171, tchs_at, tchC, loadP_E, storeP_E, ← hs, hg, hq, c3, c4, c6, c8, s0, mApa, apaF, u0, u1, u2, updB_at, i1, i3, hA, hA2, iSli, inB_psh]
        refine ⟨fun h => absurd h (by omega), fun h => ?_⟩
        have hMe : M = 0 := by omega
        rw [hMe, s0]
        exact ⟨by dsimp only; rw [u0], rfl⟩
    | 1, hi =>
      have e1 : S 1 = hit0 (B A) (B Q) c := by rw [hS]; rfl
      have e2 : S 2 = hit1 (S 1).a (S 1).b (S 1).c := by rw [hS]; rfl
      obtain ⟨j1, j3, j5⟩ := hit0_in i1 i3 hc
      rw [← e1] at j1 j3 j5
      have k1 : (S 1).c.nv = c.nv := by rw [e1]; rfl
      have k2 : (S 1).c.n = c.n := by rw [e1]; rfl
      clear e1
      generalize hs1 : S 1 = s at *
      have e0 : contR s.c = contC s.c := rfl
      rw [e0]
      obtain ⟨d1, d2, d3, d4, d5, d6, d7, d8, d9⟩ := id j5
      rw [k2] at d5
      have en : S 2 = hit1 (s.a) (s.b) (s.c) := e2
      by_cases hM0 : 1 < M
      · obtain ⟨t1, t2, t3⟩ := d5 1 (by omega)
        simp only [contC, go_sem, kw160p, kSli, kw153, k214, k160, k132, k129, k179, k171, tchs_at, tchC, loadP_E, storeP_E, ← hs, hg, hq, d3, d4, d7, d9, ← k1, mApa, apaF, u0, u1, u2, updB_at, j1, j3, hA, hA2, iSli, inB_psh, t1, t2]
        have fin : ∀ s : Hs, S 2 = s → fitF 40 40 [] (famT 0 N 27 151 155 (bsC (updB (updB B A (S 2).a) Q (S 2).b))) (some (famT 0 N 27 151 155 (bsC (updB (updB B A s.a) Q s.b)))) ∧ fitF 40 40 [] (famE fam f q (contR (S 2).c)) (some (famE fam f q (contC s.c))) := fun s hs => by
          rw [hs]; exact ⟨fitF_T (by omega) fun _ _ => rfl, fitF_cl (hff s.c)⟩
        have w1 : IntKind.i64.wrap 2 = ((2 : Nat) : Int) := by decide
        have hAQ : A + 1 ≠ Q + 1 := by omega
        refine ⟨fun h => ⟨by omega, fun y hy => ⟨fun y0 v hv => ?_, fun y0 => ⟨hAQ, fun w hw => ⟨of_eq_true (iWh d3), fun w0 v hv => ?_, fun w0 => ⟨hAQ, of_eq_true (iWh d3), fun v hv => ?_⟩⟩⟩⟩⟩, fun h => absurd h (by omega)⟩
        · have hk : (sliK (s.a) (s.b) (s.c.P 1) s.c.nv).1 = 0 := by rw [y0] at hy; simpa using hy
          have es : S 2 = ⟨s.a, s.b, s.c⟩ := by rw [en]; unfold hit1; rw [show hitR (s.a) (s.b) (s.c.P 1) s.c.nv s.c.p1 s.c.r1 = ⟨s.a, s.b, s.c.p1, s.c.r1⟩ from if_pos hk]
          exact ⟨2, by omega, by omega, by rw [hv, w1], fin _ es⟩
        · have hk : ¬ (sliK (s.a) (s.b) (s.c.P 1) s.c.nv).1 = 0 := by rw [y0] at hy; simpa using hy
          have hk2 : (sliK (apaA (s.a) (s.c.P 1) s.c.nv (nSub (hitN (s.a) (s.b) (s.c.P 1) s.c.nv s.c.p1) s.c.p1)) (apaB (s.b) (s.c.P 1) s.c.nv (nSub (hitN (s.a) (s.b) (s.c.P 1) s.c.nv s.c.p1) s.c.p1)) (s.c.P 1) (vPerp s.c.nv)).1 = 0 := nb_f (w0.symm.trans hw)
          have es := en
          unfold hit1 at es
          rw [hitR_b hk hk2] at es
          exact ⟨2, by omega, by omega, by rw [hv, w1], fin _ es⟩
        · have hk : ¬ (sliK (s.a) (s.b) (s.c.P 1) s.c.nv).1 = 0 := by rw [y0] at hy; simpa using hy
          have hk2 : ¬ (sliK (apaA (s.a) (s.c.P 1) s.c.nv (nSub (hitN (s.a) (s.b) (s.c.P 1) s.c.nv s.c.p1) s.c.p1)) (apaB (s.b) (s.c.P 1) s.c.nv (nSub (hitN (s.a) (s.b) (s.c.P 1) s.c.nv s.c.p1) s.c.p1)) (s.c.P 1) (vPerp s.c.nv)).1 = 0 := nb_t (w0.symm.trans hw)
          have es := en
          unfold hit1 at es
          rw [hitR_c hk hk2] at es
          exact ⟨2, by omega, by omega, by rw [hv, w1], fin _ es⟩
      · simp only [contC, go_sem, kw160p, kSli, kw153, k214, k160, k132, k129, k179, k171, tchs_at, tchC, loadP_E, storeP_E, ← hs, hg, hq, d3, d4, d7, d9, ← k1, mApa, apaF, u0, u1, u2, updB_at, j1, j3, hA, hA2, iSli, inB_psh]
        refine ⟨fun h => absurd h (by omega), fun h => ?_⟩
        have hMe : M = 1 := by omega
        rw [hMe, hs1]
        exact ⟨rfl, rfl⟩
    | i + 2, hi =>
      have e : i = 0 := by omega
      subst e
      have hMe : M = 2 := by omega
      have k2 : (S (0 + 2)).c.n = c.n := by rw [hS]; rfl
      have e0 : contR (S (0 + 2)).c = contC (S (0 + 2)).c := rfl
      rw [e0, hMe]
      generalize S (0 + 2) = s at *
      simp only [contC, go_sem, kw160p, kSli, kw153, k214, k160, k132, k129, k179, k171, tchs_at, tchC, loadP_E, storeP_E, ← hs, hg, hq]
      exact fun h => h.elim
  · cases hF
end Go.Ax
end

section
/-
  One iteration of a contact, by the program and by the reference.
-/
set_option linter.unusedVariables false
set_option linter.unusedSimpArgs false
set_option maxHeartbeats 4000000
set_option maxRecDepth 100000
namespace Go.Ax
open Go.Proofs
def kHit : Con := cL fun N B rest => match rest with
  | [.agg l] => some ([N ≤ 1000, inBs N B, l = contC (contD l), inC (contD l), (contD l).n ≤ 1000], .tup [.ro N 27 (bsC (hitT N B (contD l))), .agg (contC (hitC N B (contD l)))])
  | _ => none
theorem con22 : ConOK Tryz.prog 22 kHit := ConOK.cL (G := [(73, .wr mNlay), (88, kCon), (89, .wr mHit), (75, .wr mNtel)]) (H := [(1, ⟨[(6, .made 4)], []⟩), (3, ⟨[(4, .slot 5)], []⟩)]) (.mcons con73m (.cons con88 (.mcons con89m (.mcons con75m .nil)))) Tryz.func22 fun N B rest ob r hc hob => by
  split at hc
  · rename_i l
    cases hc
    have hN : N ≤ 1000 := hob _ (by simp)
    have hB : inBs N B := hob _ (by simp)
    have h2 : l = contC (contD l) := hob _ (by simp)
    have hi : inC (contD l) := hob _ (by simp)
    have hn : (contD l).n ≤ 1000 := hob _ (by simp)
    clear hob
    generalize contD l = c at *
    subst h2
    refine ⟨by kernel_rfl, fnVC_go (rs := [.tmp 4, .cell 5 32]) rfl rfl ?_⟩
    simp only [go_sem, kCon, mHit, hitF, hN, hB, hi, hn]
    exact ⟨by omega, rfl⟩
  · cases hc
theorem ofC_cont1 {b : Ct} {n : Nat} : ofC (some (false, n)) (contC b) = some (i64 b.a) := (rfl)
theorem drop1_cont {b : Ct} : (contC b).drop 1 = [i64 b.b, i64 b.nv.1.1, bo b.nv.1.2, i64 b.nv.2.1, bo b.nv.2.2, .ro b.n 6 (tchs b.P b.D), i64 b.p0.1, bo b.p0.2, i64 b.p1.1, bo b.p1.2, i64 b.r0.1, bo b.r0.2, i64 b.r1.1, bo b.r1.2] := (rfl)
theorem drop2_cont {b : Ct} : (contC b).drop 2 = [i64 b.nv.1.1, bo b.nv.1.2, i64 b.nv.2.1, bo b.nv.2.2, .ro b.n 6 (tchs b.P b.D), i64 b.p0.1, bo b.p0.2, i64 b.p1.1, bo b.p1.2, i64 b.r0.1, bo b.r0.2, i64 b.r1.1, bo b.r1.2] := (rfl)
theorem drop6_cont {b : Ct} : (contC b).drop 6 = [.ro b.n 6 (tchs b.P b.D), i64 b.p0.1, bo b.p0.2, i64 b.p1.1, bo b.p1.2, i64 b.r0.1, bo b.r0.2, i64 b.r1.1, bo b.r1.2] := (rfl)
theorem sliK_f {a b : Bd} {x n : V2} : nAdd (hftS a x n) (hftS b x n) = sliK a b x n := (rfl)
theorem sliS_f {a b : Bd} {x n : V2} : nDiv (nNeg (vDot (vSub (spdS b x) (spdS a x)) n)) (sliK a b x n) = sliS a b x n := (rfl)
theorem iSlK {a b : Bd} {x n : V2} : inR (sliK a b x n).1 = True := iAdd
theorem inBs_upd {N : Nat} {B : Nat → Bd} {i j : Nat} {u v : Bd} (h : inBs N B) (hu : inB u) (hu2 : u.n ≤ 1000) (hv : inB v) (hv2 : v.n ≤ 1000) : inBs N (updB (updB B i u) j v) := fun k hk => by
  unfold updB
  split
  · exact ⟨hv, hv2⟩
  · split
    · exact ⟨hu, hu2⟩
    · exact h k hk
theorem con23 : ConOK Tryz.prog 23 kHit := ConOK.cL (G := [(76, .wr mNbs), (90, kCon), (77, c77), (91, kw91), (71, kb71), (79, k208), (33, kb33), (32, k181), (34, k145), (92, k111), (80, k144), (78, k143), (81, k46), (93, .wr mPai), (94, kw94r), (27, k52), (95, k146)]) (H := [(1, ⟨[(5, .slot 3)], []⟩), (3, ⟨[(3, .slot 5)], []⟩), (10, ⟨[(18, .made 17)], []⟩), (12, ⟨[(16, .made 15)], []⟩), (13, ⟨[(15, .made 14)], []⟩), (14, ⟨[(7, .made 6)], []⟩), (17, ⟨[(17, .slot 10)], []⟩), (19, ⟨[(15, .slot 11)], []⟩), (20, ⟨[(4, .made 3)], []⟩), (21, ⟨[(15, .slot 12)], []⟩), (22, ⟨[(6, .slot 13)], []⟩), (25, ⟨[(3, .slot 5)], []⟩)]) (.mcons con76m (.cons con90 (.cons con77 (.cons konw91 (.cons konb71 (.cons kon208 (.cons konb33 (.cons kon181 (.cons kon145 (.cons kon111 (.cons kon144 (.cons kon143 (.cons kon46 (.mcons con93m (.cons konw94r (.cons kon52 (.cons kon146 .nil))))))))))))))))) Tryz.func23 fun N B rest ob r hc hob => by
  split at hc
  · rename_i l
    cases hc
    have hN : N ≤ 1000 := hob _ (by simp)
    have hB : inBs N B := hob _ (by simp)
    have h2 : l = contC (contD l) := hob _ (by simp)
    have hi : inC (contD l) := hob _ (by simp)
    have hn : (contD l).n ≤ 1000 := hob _ (by simp)
    clear hob
    generalize contD l = c at *
    subst h2
    refine ⟨by kernel_rfl, fnVC_go (rs := [.tmp 4, .cell 5 32]) rfl rfl ?_⟩
    obtain ⟨c1, c2, c3, c4, c5, c6, c7, c8, c9⟩ := id hi
    simp only [go_sem, kCon, c77, kw91, kb71, k208, kb33, k181, k145, k111, k144, k143, k46, kw94r, k52, k146, ofC_cont1, drop1_cont, drop2_cont, drop6_cont, hN, hB, hn, c3, c4]
    have hi0 := hi
    intro z hz
    refine ⟨by omega, fun h => ?_, fun h => ?_⟩
    · have hap : ¬ apB N c.a c.b := of_decide_eq_false (hz.symm.trans h)
      rw [show hitT N B c = B from if_neg hap, show hitC N B c = c from if_neg hap]
      rfl
    have hap : apB N c.a c.b := of_decide_eq_true (hz.symm.trans h)
    obtain ⟨a1, a2, a3, a4, a5⟩ := id hap
    have eT : hitT N B c = updB (updB B c.a.toNat (hitS (B c.a.toNat) (B c.b.toNat) c).a) c.b.toNat (hitS (B c.a.toNat) (B c.b.toNat) c).b := if_pos hap
    have eC : hitC N B c = (hitS (B c.a.toNat) (B c.b.toNat) c).c := if_pos hap
    obtain ⟨i1, i2⟩ := hB c.a.toNat (by omega)
    obtain ⟨i3, i4⟩ := hB c.b.toNat (by omega)
    have hne : c.a.toNat ≠ c.b.toNat := by omega
    rw [eT, eC]
    unfold hitS
    generalize hM : min 2 c.n = M at *
    have u1 : ∀ B x y, updB (updB B c.a.toNat x) c.b.toNat y c.a.toNat = x := fun B x y => by rw [updB_off hne, updB_at]
    have u2 : ∀ B x y u v, updB (updB (updB (updB B c.a.toNat x) c.b.toNat y) c.a.toNat u) c.b.toNat v = updB (updB B c.a.toNat u) c.b.toNat v := fun B x y u v => by
      funext j
      unfold updB
      by_cases h1 : j = c.b.toNat
      · simp [h1]
      · by_cases h2 : j = c.a.toNat <;> simp [h1, h2]
    obtain ⟨S, hS⟩ : ∃ S : Nat → Hs, S = hitI (B c.a.toNat) (B c.b.toNat) c := ⟨_, rfl⟩
    rw [← hS]
    have s0 : S 0 = ⟨B c.a.toNat, B c.b.toNat, c⟩ := by rw [hS]; rfl
    have u0 : updB (updB B c.a.toNat (B c.a.toNat)) c.b.toNat (B c.b.toNat) = B := by
      funext j
      unfold updB
      by_cases h1 : j = c.b.toNat
      · simp [h1]
      · by_cases h2 : j = c.a.toNat
        · subst h2; simp [h1]
        · simp [h1, h2]
    refine loopC_go (fun (i : Nat) => i ≤ M) (fun i => M - i) (fun i => [(8, i64 (i : Int))]) (fun i => [(4, famN N 27 57 (bsC (updB (updB B c.a.toNat (S i).a) c.b.toNat (S i).b)) none), (0, fam1 32 15 (contR (S i).c) none)]) [24, 20, 2] [34, 35, 36, 37, 38, 39, 40, 41, 42, 43, 46, 47, 48, 49, 50, 51, 52, 9, 53, 54, 55, 56, 57, 58, 59, 60, 61, 62, 63, 64, 65, 66, 67, 68, 69, 10, 70, 71, 72, 73, 74, 75, 76, 77, 78, 79, 80, 81, 82, 83, 84, 85, 86, 87, 11, 88, 89, 90, 91, 92, 93, 94, 95, 96, 97, 98, 99, 100, 101, 12, 102, 103, 104, 105, 106, 107, 13, 108, 109, 110, 111, 112, 113, 114, 115, 116, 117, 118, 119, 120, 121, 122, 123, 124, 125, 126, 127, 128, 129, 130, 131, 132, 133, 134, 135, 136, 137, 138, 139, 140, 141, 142, 143, 144, 145, 146, 147, 148, 149, 150, 151, 152, 153, 154, 155, 156, 157, 158, 159, 14, 160, 161, 162, 163, 164, 165, 166, 167, 168, 169, 170, 171, 172, 173, 174, 175, 176, 177, 178, 179, 180, 181, 182, 183, 184, 185, 186, 187, 188, 189, 190, 191, 192, 193, 194, 44, 45, 8] 0 (by kernel_rfl) ?_ (Nat.zero_le _) ?_ ?_
    · intro x _; simp [goodNames, asg]
    · simp only [go_sem, s0, u0]
      exact ⟨fun _ _ => fitL_clean rfl, fitL_clean rfl⟩
    intro i hi
    have hbu : ∀ u v, inB u → u.n ≤ 1000 → inB v → v.n ≤ 1000 → inBs N (updB (updB B c.a.toNat u) c.b.toNat v) := fun u v h1 h2 h3 h4 => inBs_upd hB h1 h2 h3 h4
    obtain ⟨b1, b2, b3, b4, b5⟩ := id hap
    have b6 : c.a.toNat < N := by omega
    have b7 : c.b.toNat < N := by omega
    match i, hi with
    | 0, hi =>
      have e0 : contR (S 0).c = contC c := by rw [s0]; rfl
      rw [e0]
      have en : S 1 = hit0 (B c.a.toNat) (B c.b.toNat) (c) := by rw [hS]; rfl
      by_cases hM0 : 0 < M
      · obtain ⟨t1, t2, t3⟩ := c5 0 (by omega)
        simp only [contC, go_sem, kCon, c77, kw91, kb71, k208, kb33, k181, k145, k111, k144, k143, k46, kw94r, k52, k146, tchs_at, tchC, cB_eq, c3, c4, c6, c8, s0, mPai, paiF, bsD_C, u0, u1, u2, updB_at, i1, i2, i3, i4, iSli, inB_psh, sliK_f, sliS_f, iSlK, hB, hbu, psh_n, b1, b2, b3, b4, b5, b6, b7, implies_true, iWh, true_and, ne_eq, not_false_eq_true, t1, t2]
        have fin : ∀ s : Hs, S 1 = s → (∀ j, j < N → fitL 27 27 [] (bodyC (updB (updB B c.a.toNat (S 1).a) c.b.toNat (S 1).b j)) (bodyC (updB (updB B c.a.toNat s.a) c.b.toNat s.b j))) ∧ fitL 27 27 [] (contR (S 1).c) (contC s.c) := fun s hs => by
          rw [hs]; exact ⟨fun _ _ => fitL_clean rfl, fitL_clean rfl⟩
        have w1 : IntKind.i64.wrap 1 = ((1 : Nat) : Int) := by decide
        refine ⟨fun h => ⟨by omega, fun y0 v hv => ?_, fun y0 => ⟨fun w0 v hv => ?_, fun w0 v hv => ?_⟩⟩, fun h => absurd h (by omega)⟩
        · have hk : (sliK (B c.a.toNat) (B c.b.toNat) (c.P 0) c.nv).1 = 0 := by simpa using y0
          have es : S 1 = ⟨B c.a.toNat, B c.b.toNat, c⟩ := by rw [en]; unfold hit0; rw [show hitR (B c.a.toNat) (B c.b.toNat) (c.P 0) c.nv c.p0 c.r0 = ⟨B c.a.toNat, B c.b.toNat, c.p0, c.r0⟩ from if_pos hk]
          exact ⟨1, by omega, by omega, by rw [hv, w1], by have q := fin _ es; rw [u0] at q; exact q⟩
        · have hk : ¬ (sliK (B c.a.toNat) (B c.b.toNat) (c.P 0) c.nv).1 = 0 := by simpa using y0
          have es := en
          unfold hit0 at es
          rw [hitR_b hk (beq_iff_eq.1 w0)] at es
          exact ⟨1, by omega, by omega, by rw [hv, w1], fin _ es⟩
        · have hk : ¬ (sliK (B c.a.toNat) (B c.b.toNat) (c.P 0) c.nv).1 = 0 := by simpa using y0
          have es := en
          unfold hit0 at es
          rw [hitR_c hk (beq_eq_false_iff_ne.1 w0)] at es
          exact ⟨1, by omega, by omega, by rw [hv, w1], fin _ es⟩
      · simp only [contC, go_sem, kCon, c77, kw91, kb71, k208, kb33, k181, k145, k111, k144, k143, k46, kw94r, k52, k146, tchs_at, tchC, cB_eq, c3, c4, c6, c8, s0, mPai, paiF, bsD_C, u0, u1, u2, updB_at, i1, i2, i3, i4, iSli, inB_psh, sliK_f, sliS_f, iSlK, hB, hbu, psh_n, b1, b2, b3, b4, b5, b6, b7, implies_true, iWh, true_and, ne_eq, not_false_eq_true]
        have hMe : M = 0 := by omega
        rw [hMe, s0]
        refine ⟨fun h => absurd h (by omega), fun h => ?_⟩
        dsimp only
        rw [u0]
        rfl
    | 1, hi =>
      obtain ⟨va, vb, vp, vr, hs1, q1, q2, q3, q4⟩ : ∃ va vb vp vr, S 1 = ⟨va, vb, { c with p0 := vp, r0 := vr }⟩ ∧ inB va ∧ va.n ≤ 1000 ∧ inB vb ∧ vb.n ≤ 1000 := by
        obtain ⟨j1, j3, j5⟩ := hit0_in i1 i3 hi0
        exact ⟨_, _, _, _, by rw [hS]; rfl, j1, by show (hitR _ _ _ _ _ _).a.n ≤ 1000; rw [hitR_n.1]; exact i2, j3, by show (hitR _ _ _ _ _ _).b.n ≤ 1000; rw [hitR_n.2]; exact i4⟩
      have en1 : S 2 = hit1 va vb { c with p0 := vp, r0 := vr } := by
        have : S 2 = hit1 (S 1).a (S 1).b (S 1).c := by rw [hS]; rfl
        rw [this, hs1]
      have e0 : contR (S 1).c = contC { c with p0 := vp, r0 := vr } := by rw [hs1]; rfl
      rw [e0, hs1]
      dsimp only
      have en : S 2 = hit1 va vb { c with p0 := vp, r0 := vr } := en1
      by_cases hM0 : 1 < M
      · obtain ⟨t1, t2, t3⟩ := c5 1 (by omega)
        simp only [contC, go_sem, kCon, c77, kw91, kb71, k208, kb33, k181, k145, k111, k144, k143, k46, kw94r, k52, k146, tchs_at, tchC, cB_eq, c3, c4, c7, c9, mPai, paiF, bsD_C, u0, u1, u2, updB_at, q1, q2, q3, q4, iSli, inB_psh, sliK_f, sliS_f, iSlK, hB, hbu, psh_n, b1, b2, b3, b4, b5, b6, b7, implies_true, iWh, true_and, ne_eq, not_false_eq_true, t1, t2]
        have fin : ∀ s : Hs, S 2 = s → (∀ j, j < N → fitL 27 27 [] (bodyC (updB (updB B c.a.toNat (S 2).a) c.b.toNat (S 2).b j)) (bodyC (updB (updB B c.a.toNat s.a) c.b.toNat s.b j))) ∧ fitL 27 27 [] (contR (S 2).c) (contC s.c) := fun s hs => by
          rw [hs]; exact ⟨fun _ _ => fitL_clean rfl, fitL_clean rfl⟩
        have w1 : IntKind.i64.wrap 2 = ((2 : Nat) : Int) := by decide
        refine ⟨fun h => ⟨by omega, fun y0 v hv => ?_, fun y0 => ⟨fun w0 v hv => ?_, fun w0 v hv => ?_⟩⟩, fun h => absurd h (by omega)⟩
        · have hk : (sliK va vb (c.P 1) c.nv).1 = 0 := by simpa using y0
          have es : S 2 = ⟨va, vb, { c with p0 := vp, r0 := vr }⟩ := by rw [en]; unfold hit1; dsimp only; rw [show hitR va vb (c.P 1) c.nv c.p1 c.r1 = ⟨va, vb, c.p1, c.r1⟩ from if_pos hk]
          exact ⟨2, by omega, by omega, by rw [hv, w1], fin _ es⟩
        · have hk : ¬ (sliK va vb (c.P 1) c.nv).1 = 0 := by simpa using y0
          have es := en
          unfold hit1 at es
          dsimp only at es
          rw [hitR_b hk (beq_iff_eq.1 w0)] at es
          exact ⟨2, by omega, by omega, by rw [hv, w1], fin _ es⟩
        · have hk : ¬ (sliK va vb (c.P 1) c.nv).1 = 0 := by simpa using y0
          have es := en
          unfold hit1 at es
          dsimp only at es
          rw [hitR_c hk (beq_eq_false_iff_ne.1 w0)] at es
          exact ⟨2, by omega, by omega, by rw [hv, w1], fin _ es⟩
      · simp only [contC, go_sem, kCon, c77, kw91, kb71, k208, kb33, k181, k145, k111, k144, k143, k46, kw94r, k52, k146, tchs_at, tchC, cB_eq, c3, c4, c7, c9, mPai, paiF, bsD_C, u0, u1, u2, updB_at, q1, q2, q3, q4, iSli, inB_psh, sliK_f, sliS_f, iSlK, hB, hbu, psh_n, b1, b2, b3, b4, b5, b6, b7, implies_true, iWh, true_and, ne_eq, not_false_eq_true]
        have hMe : M = 1 := by omega
        rw [hMe, hs1]
        refine ⟨fun h => absurd h (by omega), fun h => ?_⟩
        rfl
    | i + 2, hi =>
      have e : i = 0 := by omega
      subst e
      have hMe : M = 2 := by omega
      have e0 : contR (S (0 + 2)).c = contC (S (0 + 2)).c := rfl
      rw [e0, hMe]
      generalize S (0 + 2) = s at *
      simp only [contC, go_sem, kCon, c77, kw91, kb71, k208, kb33, k181, k145, k111, k144, k143, k46, kw94r, k52, k146, tchs_at, tchC]
      exact ⟨fun h => h.elim, fun _ => rfl⟩
  · cases hc
theorem hitT_in {N : Nat} {B : Nat → Bd} {c : Ct} (h : inBs N B) (hc : inC c) : inBs N (hitT N B c) := by
  unfold hitT
  split
  · rename_i hap
    unfold apB at hap
    obtain ⟨i1, i2⟩ := h c.a.toNat (by omega)
    obtain ⟨i3, i4⟩ := h c.b.toNat (by omega)
    obtain ⟨h1, h2, h3⟩ := hitI_in i1 i3 hc (min 2 c.n)
    obtain ⟨k1, k2, k3⟩ := hitI_n (a := B c.a.toNat) (b := B c.b.toNat) (c := c) (min 2 c.n)
    exact inBs_upd h h1 (by unfold hitS; rw [k1]; exact i2) h2 (by unfold hitS; rw [k2]; exact i4)
  · exact h
theorem hitC_in {N : Nat} {B : Nat → Bd} {c : Ct} (h : inBs N B) (hc : inC c) : inC (hitC N B c) := by
  unfold hitC
  split
  · rename_i hap
    unfold apB at hap
    obtain ⟨i1, i2⟩ := h c.a.toNat (by omega)
    obtain ⟨i3, i4⟩ := h c.b.toNat (by omega)
    exact (hitI_in i1 i3 hc (min 2 c.n)).2.2
  · exact hc
theorem hitC_n {N : Nat} {B : Nat → Bd} {c : Ct} : (hitC N B c).n = c.n := by
  unfold hitC
  split
  · exact (hitI_n (min 2 c.n)).2.2.1
  · rfl
end Go.Ax
end

section
/-
  The frame of a law: its arguments ars abstract values, and what they read ars behind the call.
-/
set_option linter.unusedSimpArgs false
set_option linter.unusedVariables false
namespace Go.Ax
open Go.ChangeShapes Go.WideShapes Go.ChangeAt Go.RowKit

/-- What an argument is. -/
inductive ShV where
  | int (k : IntKind)
  | bool
  | agg (es : List Sh)
  | slice (sz : Nat) (es : List Sh)

def shV (P : Program) (t : TypeId) : Option ShV :=
  match P.underlying t with
  | some .bool => some .bool
  | some (.int k) => some (.int k)
  | some (.slice _) => match shT P 9 t with
    | some [.slice sz es] => some (.slice sz es)
    | _ => none
  | some (.struct _) => (shT P 9 t).map .agg
  | some (.array _ _) => (shT P 9 t).map .agg
  | _ => none

def fitV : ShV → AV → Prop
  | .int k, a => ∃ n, a = .v (.int k n) ∧ (Lit.int k n).wf = true
  | .bool, a => ∃ b, a = .v (.bool b)
  | .agg es, a => ∃ l, a = .agg l ∧ fitS es l
  | .slice sz es, a => ∃ (n : Nat) (get : Nat → List AV), a = .ro n sz get ∧ n ≤ maxLen ∧ ∀ i, fitS es (get i)

def shVs (P : Program) : List TypeId → Option (List ShV)
  | [] => some []
  | t :: ts => match shV P t, shVs P ts with
    | some s, some r => some (s :: r)
    | _, _ => none
def fitVs : List ShV → List AV → Prop
  | [], l => l = []
  | s :: ss, l => ∃ a r, l = a :: r ∧ fitV s a ∧ fitVs ss r

section
variable {H : Type} {enc : TypeId × Value → H} {P : Program} {w : World} {spare : Nat → Bool} {held : Bool} {base : Nat}

theorem okWide_agg_struct {t : TypeId} {fs : Array Field} {v : Value} (ht : P.underlying t = some (.struct fs)) (h : Value.okWide P w .any base t v) : ∃ cs, v = .agg cs := by
  obtain ⟨cs, h, _⟩ := okWide_struct ht h
  exact ⟨cs, h⟩
theorem trod_agg_array {t e : TypeId} {n : Nat} {v : Value} {x : DataW H} {ps : List MemPlace} (ht : P.underlying t = some (.array n e)) (h : Value.okWide P w .any base t v) : ∃ cs, v = .agg cs := by
  cases v <;> simp [Value.okWide, Value.ok, ht] at h <;> exact ⟨_, rfl⟩

theorem arg_read {t : TypeId} {s : ShV} {v : Value} {x : DataW H} {ps : List MemPlace} (hs : shV P t = some s) (ho : Value.okWide P w .any base t v) (h : DataW.Trod enc P w 0 spare held t v x ps) : ∃ a, fitV s a ∧ R w (.ext (All w)) a v := by
  unfold shV at hs
  split at hs
  · rename_i hu
    cases hs
    obtain ⟨b, rfl⟩ := okWide_bool hu ho
    exact ⟨_, ⟨b, rfl⟩, .v⟩
  · rename_i k hu
    cases hs
    obtain ⟨n, rfl, _, _, hw⟩ := open_int hu ho h
    exact ⟨_, ⟨n, rfl, hw⟩, .v⟩
  · rename_i e hu
    split at hs
    · rename_i sz es he
      cases hs
      obtain ⟨a, len, cap, rfl⟩ := okWide_slice hu ho
      obtain ⟨n, get, h1, h2, h3⟩ := slice_read he h
      exact ⟨_, ⟨n, get, rfl, h1, h2⟩, h3⟩
    · cases hs
  · rename_i fs hu
    obtain ⟨es, he, rfl⟩ := Option.map_eq_some_iff.1 hs
    obtain ⟨cs, rfl⟩ := okWide_agg_struct hu ho
    obtain ⟨l, h1, h2⟩ := agg_read he h
    exact ⟨_, ⟨l, rfl, h1⟩, h2⟩
  · rename_i n e hu
    obtain ⟨es, he, rfl⟩ := Option.map_eq_some_iff.1 hs
    obtain ⟨cs, rfl⟩ := trod_agg_array (x := x) (ps := ps) hu ho
    obtain ⟨l, h1, h2⟩ := agg_read he h
    exact ⟨_, ⟨l, rfl, h1⟩, h2⟩
  · cases hs

theorem args_read : ∀ {ts : List TypeId} {ss : List ShV} {vs : List Value} {ds : List (DataW H)} {ps : List MemPlace}, shVs P ts = some ss → (∀ (j : Nat) t v, ts[j]? = some t → vs[j]? = some v → Value.okWide P w .any base t v) →
    DataW.TrodAll enc P w 0 spare held ts vs ds ps → ∃ l, fitVs ss l ∧ Rs w (.ext (All w)) l vs
  | [], ss, vs, ds, ps, hs, ho, h => by
    simp only [shVs, Option.some.injEq] at hs
    subst hs
    obtain ⟨rfl, rfl, rfl⟩ := trodAll_nil h
    exact ⟨[], rfl, .nil⟩
  | t :: ts, ss, vs, ds, ps, hs, ho, h => by
    simp only [shVs] at hs
    split at hs
    · rename_i s r h1 h2
      cases hs
      obtain ⟨v, vs', d, ds', p, q, rfl, rfl, rfl, h3, h4⟩ := trodAll_cons h
      obtain ⟨a, a1, a2⟩ := arg_read h1 (ho 0 t v rfl rfl) h3
      obtain ⟨l, b1, b2⟩ := args_read h2 (fun j t v hj hv => ho (j + 1) t v (by simpa using hj) (by simpa using hv)) h4
      exact ⟨a :: l, ⟨a, l, rfl, a1, b1⟩, Rs.cons a2 b2⟩
    · cases hs

/-- Types that may be read whole. -/
def readOK (P : Program) (ts : List TypeId) : Bool := ts.all fun t => P.readableRec t && decide (t < P.types.size)

theorem args_stay {W W' : World} (hl : laidOutB P = true) (hb : Below W.heap.size W W') : ∀ {ts : List TypeId} {vs : List Value} {ds : List (DataW H)} {ps : List MemPlace}, readOK P ts = true →
    DataW.TrodAll enc P W 0 (fun _ => true) true ts vs ds ps → ∃ ps, DataW.TrodAll enc P W' 0 (fun b => decide (b < W.heap.size)) true ts vs ds ps
  | [], vs, ds, ps, _, h => by
    obtain ⟨rfl, rfl, rfl⟩ := trodAll_nil h
    exact ⟨[], rfl⟩
  | t :: ts, vs, ds, ps, hr, h => by
    obtain ⟨v, vs', d, ds', p, q, rfl, rfl, rfl, h3, h4⟩ := trodAll_cons h
    simp only [readOK, List.all_cons, Bool.and_eq_true, decide_eq_true_eq] at hr
    obtain ⟨q', h5⟩ := args_stay hl hb (by simpa [readOK] using hr.2) h4
    refine ⟨_, trodAll_cons_mk (Below.trod hl hr.1.1 hr.1.2 h3 hb ?_) h5⟩
    obtain ⟨m, hm⟩ := h3
    exact DataW.trod_lt m _ _ _ hm
end
end Go.Ax
end

section
/-
  Laws about bodies: their arguments.
-/
set_option linter.unusedVariables false
set_option linter.unusedSimpArgs false
set_option maxHeartbeats 4000000
set_option maxRecDepth 100000
namespace Go.Ax
open Go.Proofs
abbrev shB : List Sh := [.int .i64, .int .i64, .int .i64, .int .i64, .slice 2 [.int .i64, .int .i64], .int .i64, .bool, .int .i64, .bool, .int .i64, .bool, .int .i64, .bool, .int .i64, .bool, .int .i64, .bool, .int .i64, .bool, .int .i64, .bool, .int .i64, .bool, .int .i64, .bool, .bool, .int .i64]
theorem row2 {l : List AV} (h : fitS [.int .i64, .int .i64] l) : l = [i64 (gi l 0), i64 (gi l 1)] ∧ inR (gi l 0) ∧ inR (gi l 1) := by
  obtain ⟨_, _, rfl, ⟨x0, rfl, k0⟩, _, _, rfl, ⟨x1, rfl, k1⟩, rfl⟩ := h
  exact ⟨rfl, wf_i64 k0, wf_i64 k1⟩
theorem rowB {l : List AV} (h : fitS shB l) : l = bodyC (bodyD l) ∧ inB (bodyD l) ∧ (bodyD l).n ≤ 9223372036854775807 := by
  obtain ⟨_, _, rfl, ⟨x0, rfl, k0⟩, _, _, rfl, ⟨x1, rfl, k1⟩, _, _, rfl, ⟨x2, rfl, k2⟩, _, _, rfl, ⟨x3, rfl, k3⟩, _, _, rfl, ⟨n, get, rfl, hn, hf⟩, _, _, rfl, ⟨y0, rfl, m0⟩, _, _, rfl, ⟨e0, rfl⟩, _, _, rfl, ⟨y1, rfl, m1⟩, _, _, rfl, ⟨e1, rfl⟩, _, _, rfl, ⟨y2, rfl, m2⟩, _, _, rfl, ⟨e2, rfl⟩, _, _, rfl, ⟨y3, rfl, m3⟩, _, _, rfl, ⟨e3, rfl⟩, _, _, rfl, ⟨y4, rfl, m4⟩, _, _, rfl, ⟨e4, rfl⟩, _, _, rfl, ⟨y5, rfl, m5⟩, _, _, rfl, ⟨e5, rfl⟩, _, _, rfl, ⟨y6, rfl, m6⟩, _, _, rfl, ⟨e6, rfl⟩, _, _, rfl, ⟨y7, rfl, m7⟩, _, _, rfl, ⟨e7, rfl⟩, _, _, rfl, ⟨y8, rfl, m8⟩, _, _, rfl, ⟨e8, rfl⟩, _, _, rfl, ⟨z0, rfl, w0⟩, _, _, rfl, ⟨u0, rfl⟩, _, _, rfl, ⟨u1, rfl⟩, _, _, rfl, ⟨z1, rfl, w1⟩, rfl⟩ := h
  have hg : get = fun i => [i64 (gx get 0 i), i64 (gx get 1 i)] := funext fun i => (row2 (hf i)).1
  refine ⟨?_, ⟨wf_i64 k0, wf_i64 k1, wf_i64 k2, wf_i64 k3, fun j _ => (row2 (hf j)).2, wf_i64 m0, wf_i64 m1, wf_i64 m2, wf_i64 m3, wf_i64 m4, wf_i64 m5, wf_i64 m6, wf_i64 m7, wf_i64 m8, wf_i64 w0, wf_i64 w1⟩, ?_⟩
  rotate_left
  · show n ≤ 9223372036854775807; unfold maxLen at hn; omega
  rw [bodyD_lit]
  show [i64 x0, i64 x1, i64 x2, i64 x3, AV.ro n 2 get, i64 y0, bo e0, i64 y1, bo e1, i64 y2, bo e2, i64 y3, bo e3, i64 y4, bo e4, i64 y5, bo e5, i64 y6, bo e6, i64 y7, bo e7, i64 y8, bo e8, i64 z0, bo u0, bo u1, i64 z1] = [i64 x0, i64 x1, i64 x2, i64 x3, AV.ro n 2 fun i => [i64 (gx get 0 i), i64 (gx get 1 i)], i64 y0, bo e0, i64 y1, bo e1, i64 y2, bo e2, i64 y3, bo e3, i64 y4, bo e4, i64 y5, bo e5, i64 y6, bo e6, i64 y7, bo e7, i64 y8, bo e8, i64 z0, bo u0, bo u1, i64 z1]
  rw [← hg]
end Go.Ax
end

section
/-
  Laws about bodies and contacts: their arguments.
-/
set_option linter.unusedVariables false
set_option linter.unusedSimpArgs false
set_option maxHeartbeats 4000000
set_option maxRecDepth 100000
namespace Go.Ax
open Go.Proofs
abbrev shC : List Sh := [.int .i64, .int .i64, .int .i64, .bool, .int .i64, .bool, .slice 6 [.int .i64, .bool, .int .i64, .bool, .int .i64, .bool], .int .i64, .bool, .int .i64, .bool, .int .i64, .bool, .int .i64, .bool]
theorem row6 {l : List AV} (h : fitS [.int .i64, .bool, .int .i64, .bool, .int .i64, .bool] l) : l = tchC ((gi l 0, gib l 1), (gi l 2, gib l 3)) (gi l 4, gib l 5) ∧ inR (gi l 0) ∧ inR (gi l 2) ∧ inR (gi l 4) := by
  obtain ⟨_, _, rfl, ⟨x0, rfl, k0⟩, _, _, rfl, ⟨e0, rfl⟩, _, _, rfl, ⟨x1, rfl, k1⟩, _, _, rfl, ⟨e1, rfl⟩, _, _, rfl, ⟨x2, rfl, k2⟩, _, _, rfl, ⟨e2, rfl⟩, rfl⟩ := h
  exact ⟨rfl, wf_i64 k0, wf_i64 k1, wf_i64 k2⟩
theorem rowC {l : List AV} (h : fitS shC l) : l = contC (contD l) ∧ inC (contD l) ∧ (contD l).n ≤ 9223372036854775807 := by
  obtain ⟨_, _, rfl, ⟨x0, rfl, k0⟩, _, _, rfl, ⟨x1, rfl, k1⟩, _, _, rfl, ⟨y0, rfl, m0⟩, _, _, rfl, ⟨e0, rfl⟩, _, _, rfl, ⟨y1, rfl, m1⟩, _, _, rfl, ⟨e1, rfl⟩, _, _, rfl, ⟨n, get, rfl, hn, hf⟩, _, _, rfl, ⟨y2, rfl, m2⟩, _, _, rfl, ⟨e2, rfl⟩, _, _, rfl, ⟨y3, rfl, m3⟩, _, _, rfl, ⟨e3, rfl⟩, _, _, rfl, ⟨y4, rfl, m4⟩, _, _, rfl, ⟨e4, rfl⟩, _, _, rfl, ⟨y5, rfl, m5⟩, _, _, rfl, ⟨e5, rfl⟩, rfl⟩ := h
  have hg : get = tchs (tchP get) (tchD get) := funext fun i => (row6 (hf i)).1
  refine ⟨?_, ⟨wf_i64 k0, wf_i64 k1, wf_i64 m0, wf_i64 m1, fun j _ => (row6 (hf j)).2, wf_i64 m2, wf_i64 m3, wf_i64 m4, wf_i64 m5⟩, ?_⟩
  rotate_left
  · show n ≤ 9223372036854775807; unfold maxLen at hn; omega
  show [i64 x0, i64 x1, i64 y0, bo e0, i64 y1, bo e1, AV.ro n 6 get, i64 y2, bo e2, i64 y3, bo e3, i64 y4, bo e4, i64 y5, bo e5] = [i64 x0, i64 x1, i64 y0, bo e0, i64 y1, bo e1, AV.ro n 6 (tchs (tchP get) (tchD get)), i64 y2, bo e2, i64 y3, bo e3, i64 y4, bo e4, i64 y5, bo e5]
  rw [← hg]
theorem rowsB {get : Nat → List AV} (h : ∀ i, fitS shB (get i)) : get = bsC (bsD get) ∧ ∀ i, inB (bsD get i) ∧ (bsD get i).n ≤ 9223372036854775807 :=
  ⟨funext fun i => (rowB (h i)).1, fun i => (rowB (h i)).2⟩
end Go.Ax
end

section
/-
  What the rows say of the whole program, word by word.
-/
namespace Go.Ax
open Go.Proofs
theorem andT {a b : Bool} (h : a = true) (k : b = true) : (a && b) = true := by rw [h, k]; rfl
theorem laidOut : laidOutB Tryz.prog = true := by kernel_rfl
theorem fRowed : mapsRowed Tryz.prog = true := by kernel_rfl
theorem fStops : (Tryz.prog.stops == []) = true := by kernel_rfl
theorem fStopK : (Tryz.prog.stopKnobs == []) = true := by kernel_rfl
theorem fPlain : (true == Tryz.prog.plainKeys) = true := by kernel_rfl
theorem fHeard : Tryz.prog.stopsHeard = true := by kernel_rfl
theorem fMay : Tryz.prog.mayEnter = true := by kernel_rfl
theorem fLift : (false == Tryz.prog.liftsFinal) = true := by kernel_rfl
theorem fMake : (Tryz.prog.make == some YtafigekkhpepkaaGreat.Rows.solverMovesRow.make) = true := by kernel_rfl
end Go.Ax
end
