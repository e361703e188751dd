/-
  Lists of bodies and contacts that are the same; copies of contacts.
-/
import Derived.Test.YtafigekkhpepkaaGreatCM7
import Derived.ShutString
import Derived.ChangeOld
import Derived.Below
import Derived.Test.YtafigekkhpepkaaGreatRows
import Derived.JoinedOf
section
set_option linter.unusedVariables false
set_option linter.unusedSimpArgs false
set_option maxHeartbeats 4000000
set_option maxRecDepth 100000
namespace Go.Ax
open Go.Proofs
def kSaB : Con := cL fun N B rest => match rest with
  | [b] => some ([N ≤ 1000, inBs N B, b = .ro N 27 (bsC B)], bo true)
  | _ => none
theorem con18 : ConOK Tryz.prog 18 kSaB := ConOK.cL (G := [(36, kb36)]) (H := []) (.cons konb36 .nil) Tryz.func18 fun N B rest ob r hc hob => by
  split at hc
  · rename_i b
    cases hc
    have hN : N ≤ 1000 := hob _ (by simp)
    have hB : inBs N B := hob _ (by simp)
    have hb : b = .ro N 27 (bsC B) := hob _ (by simp)
    clear hob
    subst hb
    refine ⟨by kernel_rfl, fnVC_go (rs := [.tmp 4]) rfl rfl ?_⟩
    simp only [go_sem, kb36]
    refine ⟨fun h => by simp at h, fun h => ?_⟩
    refine loopC_go (fun (i : Nat) => i ≤ N) (fun i => N - i) (fun i => [(5, i64 (i : Int))]) (fun _ => []) [] [11, 12, 13, 14, 17, 18, 19, 20, 21, 22, 23, 24, 25, 26, 4, 15, 16, 5] 0 (by kernel_rfl) ?_ (Nat.zero_le _) ?_ ?_
    · intro x _; simp [goodNames, asg]
    · simp only [go_sem]
    intro i hi
    by_cases hiN : i < N
    · obtain ⟨i1, i2⟩ := hB i hiN
      simp only [go_sem, kb36, cB_eq, i1, i2, forall_eq]
      exact ⟨fun h => ⟨by omega, h, by omega, h, by simp, fun _ => ⟨i + 1, by omega, by omega, by rw [wrap_in (by unfold inR; omega)]; rfl⟩⟩, fun _ => trivial⟩
    · simp only [go_sem, kb36, cB_eq, forall_eq]
      exact ⟨fun h => absurd h (by omega), fun _ => trivial⟩
  · cases hc
def manC (v : V2) (n : Nat) (P : Nat → V2) (D : Nat → Nb) : AV := .agg [i64 v.1.1, bo v.1.2, i64 v.2.1, bo v.2.2, .ro n 6 (tchs P D)]
theorem vc87 (v : V2) (n : Nat) (P : Nat → V2) (D : Nat → Nb) (hn : n ≤ 1000) : fnVC Tryz.prog [] [] Tryz.f87 [manC v n P D, manC v n P D] (· = bo true) := by
  refine fnVC_go (rs := [.tmp 4]) rfl rfl ?_
  simp only [manC, go_sem, beq_self_eq_true, bne_self_eq_false, reduceCtorEq, or_self, false_imp_iff, true_imp_iff, and_self]
  refine loopC_go (fun (i : Nat) => i ≤ n) (fun i => n - i) (fun i => [(5, i64 (i : Int))]) (fun _ => []) [1, 0] [20, 21, 22, 23, 24, 27, 28, 29, 30, 31, 32, 33, 34, 35, 36, 37, 4, 25, 26, 5] 0 (by kernel_rfl) ?_ (Nat.zero_le _) ?_ ?_
  · intro x _; simp [goodNames, asg]
  · simp only [go_sem]
  intro i hi
  simp only [go_sem, tchs_at, tchC, beq_self_eq_true, forall_eq]
  exact ⟨fun h => ⟨by omega, h, by omega, h, fun _ => ⟨i + 1, by omega, by omega, by rw [wrap_in (by unfold inR; omega)]; rfl⟩⟩, fun _ => trivial⟩
def kSaM : Con
  | [.agg [.v (.int .i64 x), .v (.bool e), .v (.int .i64 y), .v (.bool f), .ro n 6 g], b] => some ([g = tchs (tchP g) (tchD g), n ≤ 1000, b = .agg [i64 x, bo e, i64 y, bo f, .ro n 6 g]], bo true)
  | _ => none
theorem con87 : ConOK Tryz.prog 87 kSaM := ConOK.of (G := []) (H := []) .nil Tryz.func87 fun l ob r hc hob => by
  unfold kSaM at hc
  split at hc
  · rename_i x e y f n g b
    cases hc
    have hg : g = tchs (tchP g) (tchD g) := hob _ (by simp)
    have hn : n ≤ 1000 := hob _ (by simp)
    have hb : b = .agg [i64 x, bo e, i64 y, bo f, .ro n 6 g] := hob _ (by simp)
    subst hb
    refine ⟨by kernel_rfl, ?_⟩
    have := vc87 ((x, e), (y, f)) n (tchP g) (tchD g) hn
    unfold manC at this
    rw [← hg] at this
    exact this
  · cases hc
def kSaC : Con
  | [.agg l, b] => some ([l = contC (contD l), (contD l).n ≤ 1000, b = .agg (contC (contD l))], bo true)
  | _ => none
theorem con21 : ConOK Tryz.prog 21 kSaC := ConOK.of (G := [(87, kSaM)]) (H := []) (.cons con87 .nil) Tryz.func21 fun l ob r hc hob => by
  unfold kSaC at hc
  split at hc
  · rename_i l b
    cases hc
    have e : l = contC (contD l) := hob _ (by simp)
    have hn : (contD l).n ≤ 1000 := hob _ (by simp)
    have hb : b = .agg (contC (contD l)) := hob _ (by simp)
    clear hob
    generalize contD l = c at *
    subst e hb
    refine ⟨by kernel_rfl, fnVC_go (rs := [.tmp 4]) rfl rfl ?_⟩
    simp only [contC, go_sem, kSaM, beq_self_eq_true, hn]
    exact fun z hz => ⟨fun _ => rfl, hz⟩
  · cases hc
theorem con17 : ConOK Tryz.prog 17 kCon := ConOK.of (G := []) (H := []) .nil Tryz.func17 fun l ob r hc hob => by
  unfold kCon at hc
  split at hc
  · rename_i l
    cases hc
    have e : l = contC (contD l) := hob _ (by simp)
    have hn : (contD l).n ≤ 1000 := hob _ (by simp)
    clear hob
    generalize contD l = c at *
    subst e
    refine ⟨by kernel_rfl, fnVC_go (rs := [.cell 2 32]) rfl rfl ?_⟩
    simp only [contC, go_sem]
    refine loopN_go (fun (i : Nat) => i ≤ c.n) (fun i => c.n - i) (fun i => [(4, i64 (i : Int)), (3, .own 4 0 i 6)]) (fun i => [(4, famN i 6 69 (tchs c.P c.D) none)]) [1, 0] [5, 6, 7, 8, 9, 10, 13, 14, 15, 16, 17, 18, 19, 20, 21, 3, 11, 12, 4] 1 0 (by kernel_rfl) (Nat.zero_le _) ⟨[(4, none)], ?_, ?_, ?_, ?_⟩ ?_
    · simp only [go_sem]
    · simp only [go_sem]
    · simp only [go_sem]
    · simp [goodNames, asg]
    intro i hi
    simp only [go_sem, tchs_at, tchC, byt69, forall_eq]
    refine ⟨fun h => ⟨by omega, h, by omega, by omega, i + 1, by omega, by omega, [(4, some 19)], ?_⟩, fun h => ?_⟩
    · simp only [go_sem]
      refine ⟨by rw [wrap_in (by unfold inR; omega)]; rfl, fun j hj => ?_, by simp [goodNames, asg]⟩
      by_cases e : j < i
      · rw [if_pos e]; exact fitL_clean rfl
      · have e : j = i := by omega
        subst e
        rw [if_neg (by omega), Nat.sub_self]
        exact fitL_clean rfl
    · have e : i = c.n := by omega
      subst e
      rfl
  · cases hc
end Go.Ax
end

section
/-
  Lists of few bodies.
-/
set_option linter.unusedVariables false
set_option linter.unusedSimpArgs false
set_option maxHeartbeats 4000000
set_option maxRecDepth 100000
namespace Go.Ax
open Go.Proofs
/-- Lists of few bodies, ars a law gets them. -/
def kLitL : Con := cL fun N B rest => match rest with
  | [] => some ([N ≤ 9223372036854775807, ∀ i, i < N → (B i).n ≤ 9223372036854775807], bo (decide (∀ i, i < N → (B i).n ≤ 12)))
  | _ => none
theorem konLL14 : ConOK Tryz.prog 14 kLitL := fun l ob r he hob => by
  unfold kLitL cL at he
  split at he
  · rename_i N g rest
    split at he
    · rename_i ob' r' hF
      cases he
      dsimp only at hF
      split at hF
      · cases hF
        have h1 : g = bsC (bsD g) := hob _ (by simp)
        have h2 : N ≤ 9223372036854775807 := hob _ (by simp)
        have h3 : ∀ i, i < N → (bsD g i).n ≤ 9223372036854775807 := hob _ (by simp)
        exact kon14L [.ro N 27 g] _ _ rfl (owe2 h2 fun i hi => ⟨by rw [h1]; rfl, h3 i hi⟩)
      · cases hF
    · cases he
  · cases he
end Go.Ax
end

section
/-
  One iteration of a contact.
-/
set_option linter.unusedVariables false
set_option linter.unusedSimpArgs false
set_option maxHeartbeats 4000000
set_option maxRecDepth 100000
namespace Go.Ax
open Go.Proofs
/-- What comes of an impulse along a contact. -/
def hitN (a b : Bd) (x n : V2) (pu : Nb) : Nb := nPos (nAdd pu (sliS a b x n))
def apaA (a : Bd) (x n : V2) (d : Nb) : Bd := pshS a x (vScale n (nNeg d))
def apaB (b : Bd) (x n : V2) (d : Nb) : Bd := pshS b x (vScale n d)
def hitY (a b : Bd) (x t : V2) (nx ru : Nb) : Nb := nCl (nAdd ru (sliS a b x t)) (nNeg (nMul nx (nRat 1 2))) (nMul nx (nRat 1 2))
structure Hr where
  a : Bd
  b : Bd
  p : Nb
  r : Nb
/-- One touch. -/
def hitR (a b : Bd) (x n : V2) (pu ru : Nb) : Hr :=
  if (sliK a b x n).1 = 0 then ⟨a, b, pu, ru⟩ else
  let nx := hitN a b x n pu
  let a1 := apaA a x n (nSub nx pu)
  let b1 := apaB b x n (nSub nx pu)
  let t := vPerp n
  if (sliK a1 b1 x t).1 = 0 then ⟨a1, b1, nx, ru⟩ else
  let ry := hitY a1 b1 x t nx ru
  ⟨apaA a1 x t (nSub ry ru), apaB b1 x t (nSub ry ru), nx, ry⟩
structure Hs where
  a : Bd
  b : Bd
  c : Ct
def hit0 (a b : Bd) (c : Ct) : Hs := ⟨(hitR a b (c.P 0) c.nv c.p0 c.r0).a, (hitR a b (c.P 0) c.nv c.p0 c.r0).b, { c with p0 := (hitR a b (c.P 0) c.nv c.p0 c.r0).p, r0 := (hitR a b (c.P 0) c.nv c.p0 c.r0).r }⟩
def hit1 (a b : Bd) (c : Ct) : Hs := ⟨(hitR a b (c.P 1) c.nv c.p1 c.r1).a, (hitR a b (c.P 1) c.nv c.p1 c.r1).b, { c with p1 := (hitR a b (c.P 1) c.nv c.p1 c.r1).p, r1 := (hitR a b (c.P 1) c.nv c.p1 c.r1).r }⟩
def hitI (a b : Bd) (c : Ct) : Nat → Hs
  | 0 => ⟨a, b, c⟩
  | 1 => hit0 a b c
  | _ + 2 => hit1 (hit0 a b c).a (hit0 a b c).b (hit0 a b c).c
def hitS (a b : Bd) (c : Ct) : Hs := hitI a b c (min 2 c.n)
def hitT (N : Nat) (B : Nat → Bd) (c : Ct) : Nat → Bd :=
  if apB N c.a c.b then updB (updB B c.a.toNat (hitS (B c.a.toNat) (B c.b.toNat) c).a) c.b.toNat (hitS (B c.a.toNat) (B c.b.toNat) c).b else B
def hitC (N : Nat) (B : Nat → Bd) (c : Ct) : Ct := if apB N c.a c.b then (hitS (B c.a.toNat) (B c.b.toNat) c).c else c
def hitF : Nat → (Nat → List AV) → List AV → List AV → Option (List Prop × AV × (Nat → List AV) × List AV)
  | N, get, l, [] => some ([get = bsC (bsD get), inBs N (bsD get), N ≤ 1000, l = contC (contD l), inC (contD l), (contD l).n ≤ 1000], .tup [], bsC (hitT N (bsD get) (contD l)), contC (hitC N (bsD get) (contD l)))
  | _, _, _, _ => none
theorem fitF_T {K N M L sz : Nat} {σ : Names} {tp ty : TypeId} {get : Nat → List AV} (hK : K < L) (hc : ∀ i, i < N → cleanCs (get i) = true) : fitF L M σ (famT K N sz tp ty get) (some (famT K N sz tp ty get)) := fun f => by
  cases f with
  | zero =>
    refine ⟨rfl, rfl, rfl, rfl, rfl, fun j hj => ⟨⟨rfl, hK⟩, trivial⟩⟩
  | succ f =>
    refine ⟨rfl, rfl, rfl, rfl, rfl, fun j hj => ?_⟩
    simp only [famT] at hj ⊢
    split at hj
    · rename_i hf
      have : j = 0 := by omega
      subst this
      exact fitL_clean (hc f hf)
    · omega
theorem cleanCs_of : ∀ {l : List AV}, (∀ c ∈ l, cleanC c = true) → cleanCs l = true
  | [], _ => rfl
  | a :: l, h => by
    simp only [cleanCs, Bool.and_eq_true]
    exact ⟨h a (by simp), cleanCs_of fun c hc => h c (by simp [hc])⟩
theorem fitF_cl {N M : Nat} {σ : Names} {fam : Fam} (h : famCl fam) : fitF N M σ fam (some fam) := fun f =>
  ⟨rfl, rfl, rfl, (h f).1, (h f).1, fun j hj => fitL_clean (cleanCs_of ((h f).2 j hj))⟩
theorem nb_f {x : Int} (h : false = !(x == 0)) : x = 0 := by simpa using h
theorem nb_t {x : Int} (h : true = !(x == 0)) : ¬ x = 0 := by simpa using h
theorem iSli {a b : Bd} {x n : V2} : inR (sliS a b x n).1 = True := iDiv
theorem hitR_b {a b : Bd} {x n : V2} {pu ru : Nb} (h : ¬ (sliK a b x n).1 = 0) (k : (sliK (apaA a x n (nSub (hitN a b x n pu) pu)) (apaB b x n (nSub (hitN a b x n pu) pu)) x (vPerp n)).1 = 0) :
    hitR a b x n pu ru = ⟨apaA a x n (nSub (hitN a b x n pu) pu), apaB b x n (nSub (hitN a b x n pu) pu), hitN a b x n pu, ru⟩ := by
  unfold hitR; rw [if_neg h]; dsimp only; rw [if_pos k]
theorem hitR_c {a b : Bd} {x n : V2} {pu ru : Nb} (h : ¬ (sliK a b x n).1 = 0) (k : ¬ (sliK (apaA a x n (nSub (hitN a b x n pu) pu)) (apaB b x n (nSub (hitN a b x n pu) pu)) x (vPerp n)).1 = 0) :
    hitR a b x n pu ru = (let a1 := apaA a x n (nSub (hitN a b x n pu) pu); let b1 := apaB b x n (nSub (hitN a b x n pu) pu); let nx := hitN a b x n pu; let t := vPerp n; let ry := hitY a1 b1 x t nx ru; ⟨apaA a1 x t (nSub ry ru), apaB b1 x t (nSub ry ru), nx, ry⟩) := by
  unfold hitR; rw [if_neg h]; dsimp only; rw [if_neg k]
theorem hitR_in {a b : Bd} {x n : V2} {pu ru : Nb} (ha : inB a) (hb : inB b) (hp : inR pu.1) (hr : inR ru.1) : inB (hitR a b x n pu ru).a ∧ inB (hitR a b x n pu ru).b ∧ inR (hitR a b x n pu ru).p.1 ∧ inR (hitR a b x n pu ru).r.1 := by
  unfold hitR
  split
  · exact ⟨ha, hb, hp, hr⟩
  · dsimp only
    have k1 : inR (hitN a b x n pu).1 := of_eq_true (iPos (of_eq_true iAdd))
    have k2 := inB_psh (p := x) (j := vScale n (nNeg (nSub (hitN a b x n pu) pu))) ha
    have k3 := inB_psh (p := x) (j := vScale n (nSub (hitN a b x n pu) pu)) hb
    split
    · exact ⟨k2, k3, k1, hr⟩
    · exact ⟨inB_psh k2, inB_psh k3, k1, of_eq_true (iCl (of_eq_true iAdd) (of_eq_true (iNeg (of_eq_true iMul))) (of_eq_true iMul))⟩
theorem hitR_n {a b : Bd} {x n : V2} {pu ru : Nb} : (hitR a b x n pu ru).a.n = a.n ∧ (hitR a b x n pu ru).b.n = b.n := by
  unfold hitR
  split
  · exact ⟨rfl, rfl⟩
  · dsimp only
    split
    · exact ⟨psh_n, psh_n⟩
    · exact ⟨psh_n.trans psh_n, psh_n.trans psh_n⟩
theorem hit0_in {a b : Bd} {c : Ct} (ha : inB a) (hb : inB b) (hc : inC c) : inB (hit0 a b c).a ∧ inB (hit0 a b c).b ∧ inC (hit0 a b c).c := by
  obtain ⟨c1, c2, c3, c4, c5, c6, c7, c8, c9⟩ := hc
  obtain ⟨h1, h2, h3, h4⟩ := hitR_in (x := c.P 0) (n := c.nv) ha hb c6 c8
  exact ⟨h1, h2, c1, c2, c3, c4, c5, h3, c7, h4, c9⟩
theorem hit1_in {a b : Bd} {c : Ct} (ha : inB a) (hb : inB b) (hc : inC c) : inB (hit1 a b c).a ∧ inB (hit1 a b c).b ∧ inC (hit1 a b c).c := by
  obtain ⟨c1, c2, c3, c4, c5, c6, c7, c8, c9⟩ := hc
  obtain ⟨h1, h2, h3, h4⟩ := hitR_in (x := c.P 1) (n := c.nv) ha hb c7 c9
  exact ⟨h1, h2, c1, c2, c3, c4, c5, c6, h3, c8, h4⟩
theorem hitI_in {a b : Bd} {c : Ct} (ha : inB a) (hb : inB b) (hc : inC c) : ∀ i, inB (hitI a b c i).a ∧ inB (hitI a b c i).b ∧ inC (hitI a b c i).c
  | 0 => ⟨ha, hb, hc⟩
  | 1 => hit0_in ha hb hc
  | _ + 2 => by
    obtain ⟨h1, h2, h3⟩ := hit0_in ha hb hc
    exact hit1_in h1 h2 h3
theorem hitI_n {a b : Bd} {c : Ct} : ∀ i, (hitI a b c i).a.n = a.n ∧ (hitI a b c i).b.n = b.n ∧ (hitI a b c i).c.n = c.n ∧ (hitI a b c i).c.nv = c.nv ∧ (hitI a b c i).c.a = c.a ∧ (hitI a b c i).c.b = c.b ∧ (hitI a b c i).c.P = c.P ∧ (hitI a b c i).c.D = c.D
  | 0 => ⟨rfl, rfl, rfl, rfl, rfl, rfl, rfl, rfl⟩
  | 1 => ⟨hitR_n.1, hitR_n.2, rfl, rfl, rfl, rfl, rfl, rfl⟩
  | _ + 2 => ⟨hitR_n.1.trans hitR_n.1, hitR_n.2.trans hitR_n.2, rfl, rfl, rfl, rfl, rfl, rfl⟩
/-- As 'contC', but sealed. -/
def contR (c : Ct) : List AV := contC c
def mHit : MCon := mcTQ 27 15 151 155 hitF
theorem con89m : MConOK Tryz.prog 89 mHit := MConOK.mcTQ (G := [(152, .wr mTwo), (160, kw160p), (161, kSli), (153, kw153), (129, k214), (154, k160), (162, .wr mApa), (132, k132), (125, k129), (164, k179), (163, k171)]) (H := [(0, ⟨[(9, .call)], []⟩), (11, ⟨[(11, .slot 1)], []⟩), (12, ⟨[(13, .call)], []⟩), (15, ⟨[(9, .made 8)], []⟩), (17, ⟨[(12, .slot 1)], []⟩), (18, ⟨[(13, .call)], []⟩)]) (.mcons con152m (.cons konw160p (.cons con161 (.cons konw153 (.cons kon214 (.cons kon160 (.mcons con162m (.cons kon132 (.cons kon129 (.cons kon179 (.cons kon171 .nil))))))))))) Tryz.func89 fun N get l rest ob val get' cs' hF hob hcl hcl2 => by
  unfold hitF at hF
  split at hF
  · cases hF
    have h1 : get = bsC (bsD get) := hob _ (by simp)
    have hB : inBs N (bsD get) := hob _ (by simp)
    have hN : N ≤ 1000 := hob _ (by simp)
    have h2 : l = contC (contD l) := hob _ (by simp)
    have hc : inC (contD l) := hob _ (by simp)
    have hn : (contD l).n ≤ 1000 := hob _ (by simp)
    clear hob
    generalize bsD get = B at *
    generalize contD l = c at *
    subst h1 h2
    refine ⟨by simp, rfl, fun i _ => rfl, rfl, by kernel_rfl, fun fam f q hq hs hfc => bodyM_go (rs := []) rfl rfl ?_⟩
    have hg : ∀ f, (fam f).g = none := fun f => (hfc f).1
    obtain ⟨c1, c2, c3, c4, c5, c6, c7, c8, c9⟩ := id hc
    simp only [contC, go_sem, kw160p, kSli, kw153, k214, k160, k132, k129, k179, k171, mTwo, tchs_at, tchC, loadP_E, storeP_E, ← hs, hg, hq, c3, c4]
    have hno : ¬ apB N c.a c.b → hitT N B c = B ∧ hitC N B c = c := fun h => ⟨if_neg h, if_neg h⟩
    refine ⟨fun hap z hz => ⟨hN, (fun h => by rw [hz] at h; cases h), fun _ z1 hz1 => ?_⟩, fun hap z hz => ⟨hN, (fun h => ?_), fun h => (by rw [hz] at h; cases h)⟩⟩
    rotate_left
    · obtain ⟨e1, e2⟩ := hno hap
      rw [e1, e2]
      exact ⟨rfl, rfl⟩
    obtain ⟨a1, a2, a3, a4, a5⟩ := id hap
    have hz1' : z1 = ((min 2 c.n : Nat) : Int) := by rw [hz1]; omega
    have eT : hitT N B c = updB (updB B c.a.toNat (hitS (B c.a.toNat) (B c.b.toNat) c).a) c.b.toNat (hitS (B c.a.toNat) (B c.b.toNat) c).b := if_pos hap
    have eC : hitC N B c = (hitS (B c.a.toNat) (B c.b.toNat) c).c := if_pos hap
    obtain ⟨i1, i2⟩ := hB c.a.toNat (by omega)
    obtain ⟨i3, i4⟩ := hB c.b.toNat (by omega)
    have hA : c.a.toNat < N := by omega
    have hA2 : c.b.toNat < N := by omega
    have hne : c.a.toNat ≠ c.b.toNat := by omega
    rw [eT, eC]
    unfold hitS
    generalize c.a.toNat = A at *
    generalize c.b.toNat = Q at *
    generalize hM : min 2 c.n = M at *
    subst hz1'
    have u1 : ∀ B x y, updB (updB B A x) Q y A = x := fun B x y => by rw [updB_off hne, updB_at]
    have u2 : ∀ B x y u v, updB (updB (updB (updB B A x) Q y) A u) Q v = updB (updB B A u) Q v := fun B x y u v => by
      funext j
      unfold updB
      by_cases h1 : j = Q
      · simp [h1]
      · by_cases h2 : j = A <;> simp [h1, h2]
    obtain ⟨S, hS⟩ : ∃ S : Nat → Hs, S = hitI (B A) (B Q) c := ⟨_, rfl⟩
    rw [← hS]
    have s0 : S 0 = ⟨B A, B Q, c⟩ := by rw [hS]; rfl
    have u0 : updB (updB B A (B A)) Q (B Q) = B := by
      funext j
      unfold updB
      by_cases h1 : j = Q
      · simp [h1]
      · by_cases h2 : j = A
        · subst h2; simp [h1]
        · simp [h1, h2]
    have hff : ∀ d : Ct, famCl (famE fam f q (contC d)) := fun d => famCl_E hfc (cleanCs_mem rfl)
    refine loopC_go (fun (i : Nat) => i ≤ M) (fun i => M - i) (fun i => [(45, i64 (i : Int))]) (fun i => [(0, famT 0 N 27 151 155 (bsC (updB (updB B A (S i).a) Q (S i).b))), (1, famE fam f q (contR (S i).c))]) [30, 26] [46, 47, 9, 48, 49, 50, 51, 52, 53, 54, 55, 56, 10, 58, 59, 60, 61, 62, 57, 63, 64, 11, 12, 65, 66, 67, 68, 69, 70, 71, 72, 13, 73, 74, 75, 76, 77, 78, 79, 80, 81, 82, 83, 84, 85, 86, 87, 88, 89, 90, 91, 92, 93, 94, 95, 96, 97, 99, 100, 101, 102, 103, 98, 104, 105, 12, 106, 107, 108, 109, 110, 111, 112, 113, 114, 115, 14, 116, 117, 118, 119, 120, 121, 122, 123, 124, 125, 126, 127, 128, 129, 130, 131, 132, 133, 134, 135, 136, 137, 138, 139, 140, 141, 142, 143, 144, 145, 146, 147, 148, 45] 0 (by kernel_rfl) ?_ (Nat.zero_le _) ?_ ?_
    · intro x _; simp [goodNames, asg]
    · simp only [go_sem, s0, u0]
      exact ⟨fitF_T (by omega) fun _ _ => rfl, fitF_cl (hff c)⟩
    intro i hi
    match i, hi with
    | 0, hi =>
      have e0 : contR (S 0).c = contC c := by rw [s0]; rfl
      rw [e0]
      have en : S 1 = hit0 (B A) (B Q) (c) := by rw [hS]; rfl
      by_cases hM0 : 0 < M
      · obtain ⟨t1, t2, t3⟩ := c5 0 (by omega)
        simp only [contC, go_sem, kw160p, kSli, kw153, k214, k160, k132, k129, k179, k171, tchs_at, tchC, loadP_E, storeP_E, ← hs, hg, hq, c3, c4, c6, c8, s0, mApa, apaF, u0, u1, u2, updB_at, i1, i3, hA, hA2, iSli, inB_psh, t1, t2]
        have fin : ∀ s : Hs, S 1 = s → fitF 40 40 [] (famT 0 N 27 151 155 (bsC (updB (updB B A (S 1).a) Q (S 1).b))) (some (famT 0 N 27 151 155 (bsC (updB (updB B A s.a) Q s.b)))) ∧ fitF 40 40 [] (famE fam f q (contR (S 1).c)) (some (famE fam f q (contC s.c))) := fun s hs => by
          rw [hs]; exact ⟨fitF_T (by omega) fun _ _ => rfl, fitF_cl (hff s.c)⟩
        have w1 : IntKind.i64.wrap 1 = ((1 : Nat) : Int) := by decide
        have hAQ : A + 1 ≠ Q + 1 := by omega
        refine ⟨fun h => ⟨by omega, fun y hy => ⟨fun y0 v hv => ?_, fun y0 => ⟨hAQ, fun w hw => ⟨of_eq_true (iWh c3), fun w0 v hv => ?_, fun w0 => ⟨hAQ, of_eq_true (iWh c3), fun v hv => ?_⟩⟩⟩⟩⟩, fun h => absurd h (by omega)⟩
        · have hk : (sliK (B A) (B Q) (c.P 0) c.nv).1 = 0 := by rw [y0] at hy; simpa using hy
          have es : S 1 = ⟨B A, B Q, c⟩ := by rw [en]; unfold hit0; rw [show hitR (B A) (B Q) (c.P 0) c.nv c.p0 c.r0 = ⟨B A, B Q, c.p0, c.r0⟩ from if_pos hk]
          exact ⟨1, by omega, by omega, by rw [hv, w1], by have q := fin _ es; rw [u0] at q; exact q⟩
        · have hk : ¬ (sliK (B A) (B Q) (c.P 0) c.nv).1 = 0 := by rw [y0] at hy; simpa using hy
          have hk2 : (sliK (apaA (B A) (c.P 0) c.nv (nSub (hitN (B A) (B Q) (c.P 0) c.nv c.p0) c.p0)) (apaB (B Q) (c.P 0) c.nv (nSub (hitN (B A) (B Q) (c.P 0) c.nv c.p0) c.p0)) (c.P 0) (vPerp c.nv)).1 = 0 := nb_f (w0.symm.trans hw)
          have es := en
          unfold hit0 at es
          rw [hitR_b hk hk2] at es
          exact ⟨1, by omega, by omega, by rw [hv, w1], fin _ es⟩
        · have hk : ¬ (sliK (B A) (B Q) (c.P 0) c.nv).1 = 0 := by rw [y0] at hy; simpa using hy
          have hk2 : ¬ (sliK (apaA (B A) (c.P 0) c.nv (nSub (hitN (B A) (B Q) (c.P 0) c.nv c.p0) c.p0)) (apaB (B Q) (c.P 0) c.nv (nSub (hitN (B A) (B Q) (c.P 0) c.nv c.p0) c.p0)) (c.P 0) (vPerp c.nv)).1 = 0 := nb_t (w0.symm.trans hw)
          have es := en
          unfold hit0 at es
          rw [hitR_c hk hk2] at es
          exact ⟨1, by omega, by omega, by rw [hv, w1], fin _ es⟩
      · simp only [contC, go_sem, kw160p, kSli, kw153, k214, k160, k132, k129, k179, k171, tchs_at, tchC, loadP_E, storeP_E, ← hs, hg, hq, c3, c4, c6, c8, s0, mApa, apaF, u0, u1, u2, updB_at, i1, i3, hA, hA2, iSli, inB_psh]
        refine ⟨fun h => absurd h (by omega), fun h => ?_⟩
        have hMe : M = 0 := by omega
        rw [hMe, s0]
        exact ⟨by dsimp only; rw [u0], rfl⟩
    | 1, hi =>
      have e1 : S 1 = hit0 (B A) (B Q) c := by rw [hS]; rfl
      have e2 : S 2 = hit1 (S 1).a (S 1).b (S 1).c := by rw [hS]; rfl
      obtain ⟨j1, j3, j5⟩ := hit0_in i1 i3 hc
      rw [← e1] at j1 j3 j5
      have k1 : (S 1).c.nv = c.nv := by rw [e1]; rfl
      have k2 : (S 1).c.n = c.n := by rw [e1]; rfl
      clear e1
      generalize hs1 : S 1 = s at *
      have e0 : contR s.c = contC s.c := rfl
      rw [e0]
      obtain ⟨d1, d2, d3, d4, d5, d6, d7, d8, d9⟩ := id j5
      rw [k2] at d5
      have en : S 2 = hit1 (s.a) (s.b) (s.c) := e2
      by_cases hM0 : 1 < M
      · obtain ⟨t1, t2, t3⟩ := d5 1 (by omega)
        simp only [contC, go_sem, kw160p, kSli, kw153, k214, k160, k132, k129, k179, k171, tchs_at, tchC, loadP_E, storeP_E, ← hs, hg, hq, d3, d4, d7, d9, ← k1, mApa, apaF, u0, u1, u2, updB_at, j1, j3, hA, hA2, iSli, inB_psh, t1, t2]
        have fin : ∀ s : Hs, S 2 = s → fitF 40 40 [] (famT 0 N 27 151 155 (bsC (updB (updB B A (S 2).a) Q (S 2).b))) (some (famT 0 N 27 151 155 (bsC (updB (updB B A s.a) Q s.b)))) ∧ fitF 40 40 [] (famE fam f q (contR (S 2).c)) (some (famE fam f q (contC s.c))) := fun s hs => by
          rw [hs]; exact ⟨fitF_T (by omega) fun _ _ => rfl, fitF_cl (hff s.c)⟩
        have w1 : IntKind.i64.wrap 2 = ((2 : Nat) : Int) := by decide
        have hAQ : A + 1 ≠ Q + 1 := by omega
        refine ⟨fun h => ⟨by omega, fun y hy => ⟨fun y0 v hv => ?_, fun y0 => ⟨hAQ, fun w hw => ⟨of_eq_true (iWh d3), fun w0 v hv => ?_, fun w0 => ⟨hAQ, of_eq_true (iWh d3), fun v hv => ?_⟩⟩⟩⟩⟩, fun h => absurd h (by omega)⟩
        · have hk : (sliK (s.a) (s.b) (s.c.P 1) s.c.nv).1 = 0 := by rw [y0] at hy; simpa using hy
          have es : S 2 = ⟨s.a, s.b, s.c⟩ := by rw [en]; unfold hit1; rw [show hitR (s.a) (s.b) (s.c.P 1) s.c.nv s.c.p1 s.c.r1 = ⟨s.a, s.b, s.c.p1, s.c.r1⟩ from if_pos hk]
          exact ⟨2, by omega, by omega, by rw [hv, w1], fin _ es⟩
        · have hk : ¬ (sliK (s.a) (s.b) (s.c.P 1) s.c.nv).1 = 0 := by rw [y0] at hy; simpa using hy
          have hk2 : (sliK (apaA (s.a) (s.c.P 1) s.c.nv (nSub (hitN (s.a) (s.b) (s.c.P 1) s.c.nv s.c.p1) s.c.p1)) (apaB (s.b) (s.c.P 1) s.c.nv (nSub (hitN (s.a) (s.b) (s.c.P 1) s.c.nv s.c.p1) s.c.p1)) (s.c.P 1) (vPerp s.c.nv)).1 = 0 := nb_f (w0.symm.trans hw)
          have es := en
          unfold hit1 at es
          rw [hitR_b hk hk2] at es
          exact ⟨2, by omega, by omega, by rw [hv, w1], fin _ es⟩
        · have hk : ¬ (sliK (s.a) (s.b) (s.c.P 1) s.c.nv).1 = 0 := by rw [y0] at hy; simpa using hy
          have hk2 : ¬ (sliK (apaA (s.a) (s.c.P 1) s.c.nv (nSub (hitN (s.a) (s.b) (s.c.P 1) s.c.nv s.c.p1) s.c.p1)) (apaB (s.b) (s.c.P 1) s.c.nv (nSub (hitN (s.a) (s.b) (s.c.P 1) s.c.nv s.c.p1) s.c.p1)) (s.c.P 1) (vPerp s.c.nv)).1 = 0 := nb_t (w0.symm.trans hw)
          have es := en
          unfold hit1 at es
          rw [hitR_c hk hk2] at es
          exact ⟨2, by omega, by omega, by rw [hv, w1], fin _ es⟩
      · simp only [contC, go_sem, kw160p, kSli, kw153, k214, k160, k132, k129, k179, k171, tchs_at, tchC, loadP_E, storeP_E, ← hs, hg, hq, d3, d4, d7, d9, ← k1, mApa, apaF, u0, u1, u2, updB_at, j1, j3, hA, hA2, iSli, inB_psh]
        refine ⟨fun h => absurd h (by omega), fun h => ?_⟩
        have hMe : M = 1 := by omega
        rw [hMe, hs1]
        exact ⟨rfl, rfl⟩
    | i + 2, hi =>
      have e : i = 0 := by omega
      subst e
      have hMe : M = 2 := by omega
      have k2 : (S (0 + 2)).c.n = c.n := by rw [hS]; rfl
      have e0 : contR (S (0 + 2)).c = contC (S (0 + 2)).c := rfl
      rw [e0, hMe]
      generalize S (0 + 2) = s at *
      simp only [contC, go_sem, kw160p, kSli, kw153, k214, k160, k132, k129, k179, k171, tchs_at, tchC, loadP_E, storeP_E, ← hs, hg, hq]
      exact fun h => h.elim
  · cases hF
end Go.Ax
end

section
/-
  One iteration of a contact, by the program and by the reference.
-/
set_option linter.unusedVariables false
set_option linter.unusedSimpArgs false
set_option maxHeartbeats 4000000
set_option maxRecDepth 100000
namespace Go.Ax
open Go.Proofs
def kHit : Con := cL fun N B rest => match rest with
  | [.agg l] => some ([N ≤ 1000, inBs N B, l = contC (contD l), inC (contD l), (contD l).n ≤ 1000], .tup [.ro N 27 (bsC (hitT N B (contD l))), .agg (contC (hitC N B (contD l)))])
  | _ => none
theorem con22 : ConOK Tryz.prog 22 kHit := ConOK.cL (G := [(73, .wr mNlay), (88, kCon), (89, .wr mHit), (75, .wr mNtel)]) (H := [(1, ⟨[(6, .made 4)], []⟩), (3, ⟨[(4, .slot 5)], []⟩)]) (.mcons con73m (.cons con88 (.mcons con89m (.mcons con75m .nil)))) Tryz.func22 fun N B rest ob r hc hob => by
  split at hc
  · rename_i l
    cases hc
    have hN : N ≤ 1000 := hob _ (by simp)
    have hB : inBs N B := hob _ (by simp)
    have h2 : l = contC (contD l) := hob _ (by simp)
    have hi : inC (contD l) := hob _ (by simp)
    have hn : (contD l).n ≤ 1000 := hob _ (by simp)
    clear hob
    generalize contD l = c at *
    subst h2
    refine ⟨by kernel_rfl, fnVC_go (rs := [.tmp 4, .cell 5 32]) rfl rfl ?_⟩
    simp only [go_sem, kCon, mHit, hitF, hN, hB, hi, hn]
    exact ⟨by omega, rfl⟩
  · cases hc
theorem ofC_cont1 {b : Ct} {n : Nat} : ofC (some (false, n)) (contC b) = some (i64 b.a) := (rfl)
theorem drop1_cont {b : Ct} : (contC b).drop 1 = [i64 b.b, i64 b.nv.1.1, bo b.nv.1.2, i64 b.nv.2.1, bo b.nv.2.2, .ro b.n 6 (tchs b.P b.D), i64 b.p0.1, bo b.p0.2, i64 b.p1.1, bo b.p1.2, i64 b.r0.1, bo b.r0.2, i64 b.r1.1, bo b.r1.2] := (rfl)
theorem drop2_cont {b : Ct} : (contC b).drop 2 = [i64 b.nv.1.1, bo b.nv.1.2, i64 b.nv.2.1, bo b.nv.2.2, .ro b.n 6 (tchs b.P b.D), i64 b.p0.1, bo b.p0.2, i64 b.p1.1, bo b.p1.2, i64 b.r0.1, bo b.r0.2, i64 b.r1.1, bo b.r1.2] := (rfl)
theorem drop6_cont {b : Ct} : (contC b).drop 6 = [.ro b.n 6 (tchs b.P b.D), i64 b.p0.1, bo b.p0.2, i64 b.p1.1, bo b.p1.2, i64 b.r0.1, bo b.r0.2, i64 b.r1.1, bo b.r1.2] := (rfl)
theorem sliK_f {a b : Bd} {x n : V2} : nAdd (hftS a x n) (hftS b x n) = sliK a b x n := (rfl)
theorem sliS_f {a b : Bd} {x n : V2} : nDiv (nNeg (vDot (vSub (spdS b x) (spdS a x)) n)) (sliK a b x n) = sliS a b x n := (rfl)
theorem iSlK {a b : Bd} {x n : V2} : inR (sliK a b x n).1 = True := iAdd
theorem inBs_upd {N : Nat} {B : Nat → Bd} {i j : Nat} {u v : Bd} (h : inBs N B) (hu : inB u) (hu2 : u.n ≤ 1000) (hv : inB v) (hv2 : v.n ≤ 1000) : inBs N (updB (updB B i u) j v) := fun k hk => by
  unfold updB
  split
  · exact ⟨hv, hv2⟩
  · split
    · exact ⟨hu, hu2⟩
    · exact h k hk
theorem con23 : ConOK Tryz.prog 23 kHit := ConOK.cL (G := [(76, .wr mNbs), (90, kCon), (77, c77), (91, kw91), (71, kb71), (79, k208), (33, kb33), (32, k181), (34, k145), (92, k111), (80, k144), (78, k143), (81, k46), (93, .wr mPai), (94, kw94r), (27, k52), (95, k146)]) (H := [(1, ⟨[(5, .slot 3)], []⟩), (3, ⟨[(3, .slot 5)], []⟩), (10, ⟨[(18, .made 17)], []⟩), (12, ⟨[(16, .made 15)], []⟩), (13, ⟨[(15, .made 14)], []⟩), (14, ⟨[(7, .made 6)], []⟩), (17, ⟨[(17, .slot 10)], []⟩), (19, ⟨[(15, .slot 11)], []⟩), (20, ⟨[(4, .made 3)], []⟩), (21, ⟨[(15, .slot 12)], []⟩), (22, ⟨[(6, .slot 13)], []⟩), (25, ⟨[(3, .slot 5)], []⟩)]) (.mcons con76m (.cons con90 (.cons con77 (.cons konw91 (.cons konb71 (.cons kon208 (.cons konb33 (.cons kon181 (.cons kon145 (.cons kon111 (.cons kon144 (.cons kon143 (.cons kon46 (.mcons con93m (.cons konw94r (.cons kon52 (.cons kon146 .nil))))))))))))))))) Tryz.func23 fun N B rest ob r hc hob => by
  split at hc
  · rename_i l
    cases hc
    have hN : N ≤ 1000 := hob _ (by simp)
    have hB : inBs N B := hob _ (by simp)
    have h2 : l = contC (contD l) := hob _ (by simp)
    have hi : inC (contD l) := hob _ (by simp)
    have hn : (contD l).n ≤ 1000 := hob _ (by simp)
    clear hob
    generalize contD l = c at *
    subst h2
    refine ⟨by kernel_rfl, fnVC_go (rs := [.tmp 4, .cell 5 32]) rfl rfl ?_⟩
    obtain ⟨c1, c2, c3, c4, c5, c6, c7, c8, c9⟩ := id hi
    simp only [go_sem, kCon, c77, kw91, kb71, k208, kb33, k181, k145, k111, k144, k143, k46, kw94r, k52, k146, ofC_cont1, drop1_cont, drop2_cont, drop6_cont, hN, hB, hn, c3, c4]
    have hi0 := hi
    intro z hz
    refine ⟨by omega, fun h => ?_, fun h => ?_⟩
    · have hap : ¬ apB N c.a c.b := of_decide_eq_false (hz.symm.trans h)
      rw [show hitT N B c = B from if_neg hap, show hitC N B c = c from if_neg hap]
      rfl
    have hap : apB N c.a c.b := of_decide_eq_true (hz.symm.trans h)
    obtain ⟨a1, a2, a3, a4, a5⟩ := id hap
    have eT : hitT N B c = updB (updB B c.a.toNat (hitS (B c.a.toNat) (B c.b.toNat) c).a) c.b.toNat (hitS (B c.a.toNat) (B c.b.toNat) c).b := if_pos hap
    have eC : hitC N B c = (hitS (B c.a.toNat) (B c.b.toNat) c).c := if_pos hap
    obtain ⟨i1, i2⟩ := hB c.a.toNat (by omega)
    obtain ⟨i3, i4⟩ := hB c.b.toNat (by omega)
    have hne : c.a.toNat ≠ c.b.toNat := by omega
    rw [eT, eC]
    unfold hitS
    generalize hM : min 2 c.n = M at *
    have u1 : ∀ B x y, updB (updB B c.a.toNat x) c.b.toNat y c.a.toNat = x := fun B x y => by rw [updB_off hne, updB_at]
    have u2 : ∀ B x y u v, updB (updB (updB (updB B c.a.toNat x) c.b.toNat y) c.a.toNat u) c.b.toNat v = updB (updB B c.a.toNat u) c.b.toNat v := fun B x y u v => by
      funext j
      unfold updB
      by_cases h1 : j = c.b.toNat
      · simp [h1]
      · by_cases h2 : j = c.a.toNat <;> simp [h1, h2]
    obtain ⟨S, hS⟩ : ∃ S : Nat → Hs, S = hitI (B c.a.toNat) (B c.b.toNat) c := ⟨_, rfl⟩
    rw [← hS]
    have s0 : S 0 = ⟨B c.a.toNat, B c.b.toNat, c⟩ := by rw [hS]; rfl
    have u0 : updB (updB B c.a.toNat (B c.a.toNat)) c.b.toNat (B c.b.toNat) = B := by
      funext j
      unfold updB
      by_cases h1 : j = c.b.toNat
      · simp [h1]
      · by_cases h2 : j = c.a.toNat
        · subst h2; simp [h1]
        · simp [h1, h2]
    refine loopC_go (fun (i : Nat) => i ≤ M) (fun i => M - i) (fun i => [(8, i64 (i : Int))]) (fun i => [(4, famN N 27 57 (bsC (updB (updB B c.a.toNat (S i).a) c.b.toNat (S i).b)) none), (0, fam1 32 15 (contR (S i).c) none)]) [24, 20, 2] [34, 35, 36, 37, 38, 39, 40, 41, 42, 43, 46, 47, 48, 49, 50, 51, 52, 9, 53, 54, 55, 56, 57, 58, 59, 60, 61, 62, 63, 64, 65, 66, 67, 68, 69, 10, 70, 71, 72, 73, 74, 75, 76, 77, 78, 79, 80, 81, 82, 83, 84, 85, 86, 87, 11, 88, 89, 90, 91, 92, 93, 94, 95, 96, 97, 98, 99, 100, 101, 12, 102, 103, 104, 105, 106, 107, 13, 108, 109, 110, 111, 112, 113, 114, 115, 116, 117, 118, 119, 120, 121, 122, 123, 124, 125, 126, 127, 128, 129, 130, 131, 132, 133, 134, 135, 136, 137, 138, 139, 140, 141, 142, 143, 144, 145, 146, 147, 148, 149, 150, 151, 152, 153, 154, 155, 156, 157, 158, 159, 14, 160, 161, 162, 163, 164, 165, 166, 167, 168, 169, 170, 171, 172, 173, 174, 175, 176, 177, 178, 179, 180, 181, 182, 183, 184, 185, 186, 187, 188, 189, 190, 191, 192, 193, 194, 44, 45, 8] 0 (by kernel_rfl) ?_ (Nat.zero_le _) ?_ ?_
    · intro x _; simp [goodNames, asg]
    · simp only [go_sem, s0, u0]
      exact ⟨fun _ _ => fitL_clean rfl, fitL_clean rfl⟩
    intro i hi
    have hbu : ∀ u v, inB u → u.n ≤ 1000 → inB v → v.n ≤ 1000 → inBs N (updB (updB B c.a.toNat u) c.b.toNat v) := fun u v h1 h2 h3 h4 => inBs_upd hB h1 h2 h3 h4
    obtain ⟨b1, b2, b3, b4, b5⟩ := id hap
    have b6 : c.a.toNat < N := by omega
    have b7 : c.b.toNat < N := by omega
    match i, hi with
    | 0, hi =>
      have e0 : contR (S 0).c = contC c := by rw [s0]; rfl
      rw [e0]
      have en : S 1 = hit0 (B c.a.toNat) (B c.b.toNat) (c) := by rw [hS]; rfl
      by_cases hM0 : 0 < M
      · obtain ⟨t1, t2, t3⟩ := c5 0 (by omega)
        simp only [contC, go_sem, kCon, c77, kw91, kb71, k208, kb33, k181, k145, k111, k144, k143, k46, kw94r, k52, k146, tchs_at, tchC, cB_eq, c3, c4, c6, c8, s0, mPai, paiF, bsD_C, u0, u1, u2, updB_at, i1, i2, i3, i4, iSli, inB_psh, sliK_f, sliS_f, iSlK, hB, hbu, psh_n, b1, b2, b3, b4, b5, b6, b7, implies_true, iWh, true_and, ne_eq, not_false_eq_true, t1, t2]
        have fin : ∀ s : Hs, S 1 = s → (∀ j, j < N → fitL 27 27 [] (bodyC (updB (updB B c.a.toNat (S 1).a) c.b.toNat (S 1).b j)) (bodyC (updB (updB B c.a.toNat s.a) c.b.toNat s.b j))) ∧ fitL 27 27 [] (contR (S 1).c) (contC s.c) := fun s hs => by
          rw [hs]; exact ⟨fun _ _ => fitL_clean rfl, fitL_clean rfl⟩
        have w1 : IntKind.i64.wrap 1 = ((1 : Nat) : Int) := by decide
        refine ⟨fun h => ⟨by omega, fun y0 v hv => ?_, fun y0 => ⟨fun w0 v hv => ?_, fun w0 v hv => ?_⟩⟩, fun h => absurd h (by omega)⟩
        · have hk : (sliK (B c.a.toNat) (B c.b.toNat) (c.P 0) c.nv).1 = 0 := by simpa using y0
          have es : S 1 = ⟨B c.a.toNat, B c.b.toNat, c⟩ := by rw [en]; unfold hit0; rw [show hitR (B c.a.toNat) (B c.b.toNat) (c.P 0) c.nv c.p0 c.r0 = ⟨B c.a.toNat, B c.b.toNat, c.p0, c.r0⟩ from if_pos hk]
          exact ⟨1, by omega, by omega, by rw [hv, w1], by have q := fin _ es; rw [u0] at q; exact q⟩
        · have hk : ¬ (sliK (B c.a.toNat) (B c.b.toNat) (c.P 0) c.nv).1 = 0 := by simpa using y0
          have es := en
          unfold hit0 at es
          rw [hitR_b hk (beq_iff_eq.1 w0)] at es
          exact ⟨1, by omega, by omega, by rw [hv, w1], fin _ es⟩
        · have hk : ¬ (sliK (B c.a.toNat) (B c.b.toNat) (c.P 0) c.nv).1 = 0 := by simpa using y0
          have es := en
          unfold hit0 at es
          rw [hitR_c hk (beq_eq_false_iff_ne.1 w0)] at es
          exact ⟨1, by omega, by omega, by rw [hv, w1], fin _ es⟩
      · simp only [contC, go_sem, kCon, c77, kw91, kb71, k208, kb33, k181, k145, k111, k144, k143, k46, kw94r, k52, k146, tchs_at, tchC, cB_eq, c3, c4, c6, c8, s0, mPai, paiF, bsD_C, u0, u1, u2, updB_at, i1, i2, i3, i4, iSli, inB_psh, sliK_f, sliS_f, iSlK, hB, hbu, psh_n, b1, b2, b3, b4, b5, b6, b7, implies_true, iWh, true_and, ne_eq, not_false_eq_true]
        have hMe : M = 0 := by omega
        rw [hMe, s0]
        refine ⟨fun h => absurd h (by omega), fun h => ?_⟩
        dsimp only
        rw [u0]
        rfl
    | 1, hi =>
      obtain ⟨va, vb, vp, vr, hs1, q1, q2, q3, q4⟩ : ∃ va vb vp vr, S 1 = ⟨va, vb, { c with p0 := vp, r0 := vr }⟩ ∧ inB va ∧ va.n ≤ 1000 ∧ inB vb ∧ vb.n ≤ 1000 := by
        obtain ⟨j1, j3, j5⟩ := hit0_in i1 i3 hi0
        exact ⟨_, _, _, _, by rw [hS]; rfl, j1, by show (hitR _ _ _ _ _ _).a.n ≤ 1000; rw [hitR_n.1]; exact i2, j3, by show (hitR _ _ _ _ _ _).b.n ≤ 1000; rw [hitR_n.2]; exact i4⟩
      have en1 : S 2 = hit1 va vb { c with p0 := vp, r0 := vr } := by
        have : S 2 = hit1 (S 1).a (S 1).b (S 1).c := by rw [hS]; rfl
        rw [this, hs1]
      have e0 : contR (S 1).c = contC { c with p0 := vp, r0 := vr } := by rw [hs1]; rfl
      rw [e0, hs1]
      dsimp only
      have en : S 2 = hit1 va vb { c with p0 := vp, r0 := vr } := en1
      by_cases hM0 : 1 < M
      · obtain ⟨t1, t2, t3⟩ := c5 1 (by omega)
        simp only [contC, go_sem, kCon, c77, kw91, kb71, k208, kb33, k181, k145, k111, k144, k143, k46, kw94r, k52, k146, tchs_at, tchC, cB_eq, c3, c4, c7, c9, mPai, paiF, bsD_C, u0, u1, u2, updB_at, q1, q2, q3, q4, iSli, inB_psh, sliK_f, sliS_f, iSlK, hB, hbu, psh_n, b1, b2, b3, b4, b5, b6, b7, implies_true, iWh, true_and, ne_eq, not_false_eq_true, t1, t2]
        have fin : ∀ s : Hs, S 2 = s → (∀ j, j < N → fitL 27 27 [] (bodyC (updB (updB B c.a.toNat (S 2).a) c.b.toNat (S 2).b j)) (bodyC (updB (updB B c.a.toNat s.a) c.b.toNat s.b j))) ∧ fitL 27 27 [] (contR (S 2).c) (contC s.c) := fun s hs => by
          rw [hs]; exact ⟨fun _ _ => fitL_clean rfl, fitL_clean rfl⟩
        have w1 : IntKind.i64.wrap 2 = ((2 : Nat) : Int) := by decide
        refine ⟨fun h => ⟨by omega, fun y0 v hv => ?_, fun y0 => ⟨fun w0 v hv => ?_, fun w0 v hv => ?_⟩⟩, fun h => absurd h (by omega)⟩
        · have hk : (sliK va vb (c.P 1) c.nv).1 = 0 := by simpa using y0
          have es : S 2 = ⟨va, vb, { c with p0 := vp, r0 := vr }⟩ := by rw [en]; unfold hit1; dsimp only; rw [show hitR va vb (c.P 1) c.nv c.p1 c.r1 = ⟨va, vb, c.p1, c.r1⟩ from if_pos hk]
          exact ⟨2, by omega, by omega, by rw [hv, w1], fin _ es⟩
        · have hk : ¬ (sliK va vb (c.P 1) c.nv).1 = 0 := by simpa using y0
          have es := en
          unfold hit1 at es
          dsimp only at es
          rw [hitR_b hk (beq_iff_eq.1 w0)] at es
          exact ⟨2, by omega, by omega, by rw [hv, w1], fin _ es⟩
        · have hk : ¬ (sliK va vb (c.P 1) c.nv).1 = 0 := by simpa using y0
          have es := en
          unfold hit1 at es
          dsimp only at es
          rw [hitR_c hk (beq_eq_false_iff_ne.1 w0)] at es
          exact ⟨2, by omega, by omega, by rw [hv, w1], fin _ es⟩
      · simp only [contC, go_sem, kCon, c77, kw91, kb71, k208, kb33, k181, k145, k111, k144, k143, k46, kw94r, k52, k146, tchs_at, tchC, cB_eq, c3, c4, c7, c9, mPai, paiF, bsD_C, u0, u1, u2, updB_at, q1, q2, q3, q4, iSli, inB_psh, sliK_f, sliS_f, iSlK, hB, hbu, psh_n, b1, b2, b3, b4, b5, b6, b7, implies_true, iWh, true_and, ne_eq, not_false_eq_true]
        have hMe : M = 1 := by omega
        rw [hMe, hs1]
        refine ⟨fun h => absurd h (by omega), fun h => ?_⟩
        rfl
    | i + 2, hi =>
      have e : i = 0 := by omega
      subst e
      have hMe : M = 2 := by omega
      have e0 : contR (S (0 + 2)).c = contC (S (0 + 2)).c := rfl
      rw [e0, hMe]
      generalize S (0 + 2) = s at *
      simp only [contC, go_sem, kCon, c77, kw91, kb71, k208, kb33, k181, k145, k111, k144, k143, k46, kw94r, k52, k146, tchs_at, tchC]
      exact ⟨fun h => h.elim, fun _ => rfl⟩
  · cases hc
theorem hitT_in {N : Nat} {B : Nat → Bd} {c : Ct} (h : inBs N B) (hc : inC c) : inBs N (hitT N B c) := by
  unfold hitT
  split
  · rename_i hap
    unfold apB at hap
    obtain ⟨i1, i2⟩ := h c.a.toNat (by omega)
    obtain ⟨i3, i4⟩ := h c.b.toNat (by omega)
    obtain ⟨h1, h2, h3⟩ := hitI_in i1 i3 hc (min 2 c.n)
    obtain ⟨k1, k2, k3⟩ := hitI_n (a := B c.a.toNat) (b := B c.b.toNat) (c := c) (min 2 c.n)
    exact inBs_upd h h1 (by unfold hitS; rw [k1]; exact i2) h2 (by unfold hitS; rw [k2]; exact i4)
  · exact h
theorem hitC_in {N : Nat} {B : Nat → Bd} {c : Ct} (h : inBs N B) (hc : inC c) : inC (hitC N B c) := by
  unfold hitC
  split
  · rename_i hap
    unfold apB at hap
    obtain ⟨i1, i2⟩ := h c.a.toNat (by omega)
    obtain ⟨i3, i4⟩ := h c.b.toNat (by omega)
    exact (hitI_in i1 i3 hc (min 2 c.n)).2.2
  · exact hc
theorem hitC_n {N : Nat} {B : Nat → Bd} {c : Ct} : (hitC N B c).n = c.n := by
  unfold hitC
  split
  · exact (hitI_n (min 2 c.n)).2.2.1
  · rfl
end Go.Ax
end

section
/-
  The frame of a law: its arguments ars abstract values, and what they read ars behind the call.
-/
set_option linter.unusedSimpArgs false
set_option linter.unusedVariables false
namespace Go.Ax
open Go.ChangeShapes Go.WideShapes Go.ChangeAt Go.RowKit

/-- What an argument is. -/
inductive ShV where
  | int (k : IntKind)
  | bool
  | agg (es : List Sh)
  | slice (sz : Nat) (es : List Sh)

def shV (P : Program) (t : TypeId) : Option ShV :=
  match P.underlying t with
  | some .bool => some .bool
  | some (.int k) => some (.int k)
  | some (.slice _) => match shT P 9 t with
    | some [.slice sz es] => some (.slice sz es)
    | _ => none
  | some (.struct _) => (shT P 9 t).map .agg
  | some (.array _ _) => (shT P 9 t).map .agg
  | _ => none

def fitV : ShV → AV → Prop
  | .int k, a => ∃ n, a = .v (.int k n) ∧ (Lit.int k n).wf = true
  | .bool, a => ∃ b, a = .v (.bool b)
  | .agg es, a => ∃ l, a = .agg l ∧ fitS es l
  | .slice sz es, a => ∃ (n : Nat) (get : Nat → List AV), a = .ro n sz get ∧ n ≤ maxLen ∧ ∀ i, fitS es (get i)

def shVs (P : Program) : List TypeId → Option (List ShV)
  | [] => some []
  | t :: ts => match shV P t, shVs P ts with
    | some s, some r => some (s :: r)
    | _, _ => none
def fitVs : List ShV → List AV → Prop
  | [], l => l = []
  | s :: ss, l => ∃ a r, l = a :: r ∧ fitV s a ∧ fitVs ss r

section
variable {H : Type} {enc : TypeId × Value → H} {P : Program} {w : World} {spare : Nat → Bool} {held : Bool} {base : Nat}

theorem okWide_agg_struct {t : TypeId} {fs : Array Field} {v : Value} (ht : P.underlying t = some (.struct fs)) (h : Value.okWide P w .any base t v) : ∃ cs, v = .agg cs := by
  obtain ⟨cs, h, _⟩ := okWide_struct ht h
  exact ⟨cs, h⟩
theorem trod_agg_array {t e : TypeId} {n : Nat} {v : Value} {x : DataW H} {ps : List MemPlace} (ht : P.underlying t = some (.array n e)) (h : Value.okWide P w .any base t v) : ∃ cs, v = .agg cs := by
  cases v <;> simp [Value.okWide, Value.ok, ht] at h <;> exact ⟨_, rfl⟩

theorem arg_read {t : TypeId} {s : ShV} {v : Value} {x : DataW H} {ps : List MemPlace} (hs : shV P t = some s) (ho : Value.okWide P w .any base t v) (h : DataW.Trod enc P w 0 spare held t v x ps) : ∃ a, fitV s a ∧ R w (.ext (All w)) a v := by
  unfold shV at hs
  split at hs
  · rename_i hu
    cases hs
    obtain ⟨b, rfl⟩ := okWide_bool hu ho
    exact ⟨_, ⟨b, rfl⟩, .v⟩
  · rename_i k hu
    cases hs
    obtain ⟨n, rfl, _, _, hw⟩ := open_int hu ho h
    exact ⟨_, ⟨n, rfl, hw⟩, .v⟩
  · rename_i e hu
    split at hs
    · rename_i sz es he
      cases hs
      obtain ⟨a, len, cap, rfl⟩ := okWide_slice hu ho
      obtain ⟨n, get, h1, h2, h3⟩ := slice_read he h
      exact ⟨_, ⟨n, get, rfl, h1, h2⟩, h3⟩
    · cases hs
  · rename_i fs hu
    obtain ⟨es, he, rfl⟩ := Option.map_eq_some_iff.1 hs
    obtain ⟨cs, rfl⟩ := okWide_agg_struct hu ho
    obtain ⟨l, h1, h2⟩ := agg_read he h
    exact ⟨_, ⟨l, rfl, h1⟩, h2⟩
  · rename_i n e hu
    obtain ⟨es, he, rfl⟩ := Option.map_eq_some_iff.1 hs
    obtain ⟨cs, rfl⟩ := trod_agg_array (x := x) (ps := ps) hu ho
    obtain ⟨l, h1, h2⟩ := agg_read he h
    exact ⟨_, ⟨l, rfl, h1⟩, h2⟩
  · cases hs

theorem args_read : ∀ {ts : List TypeId} {ss : List ShV} {vs : List Value} {ds : List (DataW H)} {ps : List MemPlace}, shVs P ts = some ss → (∀ (j : Nat) t v, ts[j]? = some t → vs[j]? = some v → Value.okWide P w .any base t v) →
    DataW.TrodAll enc P w 0 spare held ts vs ds ps → ∃ l, fitVs ss l ∧ Rs w (.ext (All w)) l vs
  | [], ss, vs, ds, ps, hs, ho, h => by
    simp only [shVs, Option.some.injEq] at hs
    subst hs
    obtain ⟨rfl, rfl, rfl⟩ := trodAll_nil h
    exact ⟨[], rfl, .nil⟩
  | t :: ts, ss, vs, ds, ps, hs, ho, h => by
    simp only [shVs] at hs
    split at hs
    · rename_i s r h1 h2
      cases hs
      obtain ⟨v, vs', d, ds', p, q, rfl, rfl, rfl, h3, h4⟩ := trodAll_cons h
      obtain ⟨a, a1, a2⟩ := arg_read h1 (ho 0 t v rfl rfl) h3
      obtain ⟨l, b1, b2⟩ := args_read h2 (fun j t v hj hv => ho (j + 1) t v (by simpa using hj) (by simpa using hv)) h4
      exact ⟨a :: l, ⟨a, l, rfl, a1, b1⟩, Rs.cons a2 b2⟩
    · cases hs

/-- Types that may be read whole. -/
def readOK (P : Program) (ts : List TypeId) : Bool := ts.all fun t => P.readableRec t && decide (t < P.types.size)

theorem args_stay {W W' : World} (hl : laidOutB P = true) (hb : Below W.heap.size W W') : ∀ {ts : List TypeId} {vs : List Value} {ds : List (DataW H)} {ps : List MemPlace}, readOK P ts = true →
    DataW.TrodAll enc P W 0 (fun _ => true) true ts vs ds ps → ∃ ps, DataW.TrodAll enc P W' 0 (fun b => decide (b < W.heap.size)) true ts vs ds ps
  | [], vs, ds, ps, _, h => by
    obtain ⟨rfl, rfl, rfl⟩ := trodAll_nil h
    exact ⟨[], rfl⟩
  | t :: ts, vs, ds, ps, hr, h => by
    obtain ⟨v, vs', d, ds', p, q, rfl, rfl, rfl, h3, h4⟩ := trodAll_cons h
    simp only [readOK, List.all_cons, Bool.and_eq_true, decide_eq_true_eq] at hr
    obtain ⟨q', h5⟩ := args_stay hl hb (by simpa [readOK] using hr.2) h4
    refine ⟨_, trodAll_cons_mk (Below.trod hl hr.1.1 hr.1.2 h3 hb ?_) h5⟩
    obtain ⟨m, hm⟩ := h3
    exact DataW.trod_lt m _ _ _ hm
end
end Go.Ax
end

section
/-
  Laws about bodies: their arguments.
-/
set_option linter.unusedVariables false
set_option linter.unusedSimpArgs false
set_option maxHeartbeats 4000000
set_option maxRecDepth 100000
namespace Go.Ax
open Go.Proofs
abbrev shB : List Sh := [.int .i64, .int .i64, .int .i64, .int .i64, .slice 2 [.int .i64, .int .i64], .int .i64, .bool, .int .i64, .bool, .int .i64, .bool, .int .i64, .bool, .int .i64, .bool, .int .i64, .bool, .int .i64, .bool, .int .i64, .bool, .int .i64, .bool, .int .i64, .bool, .bool, .int .i64]
theorem row2 {l : List AV} (h : fitS [.int .i64, .int .i64] l) : l = [i64 (gi l 0), i64 (gi l 1)] ∧ inR (gi l 0) ∧ inR (gi l 1) := by
  obtain ⟨_, _, rfl, ⟨x0, rfl, k0⟩, _, _, rfl, ⟨x1, rfl, k1⟩, rfl⟩ := h
  exact ⟨rfl, wf_i64 k0, wf_i64 k1⟩
theorem rowB {l : List AV} (h : fitS shB l) : l = bodyC (bodyD l) ∧ inB (bodyD l) ∧ (bodyD l).n ≤ 9223372036854775807 := by
  obtain ⟨_, _, rfl, ⟨x0, rfl, k0⟩, _, _, rfl, ⟨x1, rfl, k1⟩, _, _, rfl, ⟨x2, rfl, k2⟩, _, _, rfl, ⟨x3, rfl, k3⟩, _, _, rfl, ⟨n, get, rfl, hn, hf⟩, _, _, rfl, ⟨y0, rfl, m0⟩, _, _, rfl, ⟨e0, rfl⟩, _, _, rfl, ⟨y1, rfl, m1⟩, _, _, rfl, ⟨e1, rfl⟩, _, _, rfl, ⟨y2, rfl, m2⟩, _, _, rfl, ⟨e2, rfl⟩, _, _, rfl, ⟨y3, rfl, m3⟩, _, _, rfl, ⟨e3, rfl⟩, _, _, rfl, ⟨y4, rfl, m4⟩, _, _, rfl, ⟨e4, rfl⟩, _, _, rfl, ⟨y5, rfl, m5⟩, _, _, rfl, ⟨e5, rfl⟩, _, _, rfl, ⟨y6, rfl, m6⟩, _, _, rfl, ⟨e6, rfl⟩, _, _, rfl, ⟨y7, rfl, m7⟩, _, _, rfl, ⟨e7, rfl⟩, _, _, rfl, ⟨y8, rfl, m8⟩, _, _, rfl, ⟨e8, rfl⟩, _, _, rfl, ⟨z0, rfl, w0⟩, _, _, rfl, ⟨u0, rfl⟩, _, _, rfl, ⟨u1, rfl⟩, _, _, rfl, ⟨z1, rfl, w1⟩, rfl⟩ := h
  have hg : get = fun i => [i64 (gx get 0 i), i64 (gx get 1 i)] := funext fun i => (row2 (hf i)).1
  refine ⟨?_, ⟨wf_i64 k0, wf_i64 k1, wf_i64 k2, wf_i64 k3, fun j _ => (row2 (hf j)).2, wf_i64 m0, wf_i64 m1, wf_i64 m2, wf_i64 m3, wf_i64 m4, wf_i64 m5, wf_i64 m6, wf_i64 m7, wf_i64 m8, wf_i64 w0, wf_i64 w1⟩, ?_⟩
  rotate_left
  · show n ≤ 9223372036854775807; unfold maxLen at hn; omega
  rw [bodyD_lit]
  show [i64 x0, i64 x1, i64 x2, i64 x3, AV.ro n 2 get, i64 y0, bo e0, i64 y1, bo e1, i64 y2, bo e2, i64 y3, bo e3, i64 y4, bo e4, i64 y5, bo e5, i64 y6, bo e6, i64 y7, bo e7, i64 y8, bo e8, i64 z0, bo u0, bo u1, i64 z1] = [i64 x0, i64 x1, i64 x2, i64 x3, AV.ro n 2 fun i => [i64 (gx get 0 i), i64 (gx get 1 i)], i64 y0, bo e0, i64 y1, bo e1, i64 y2, bo e2, i64 y3, bo e3, i64 y4, bo e4, i64 y5, bo e5, i64 y6, bo e6, i64 y7, bo e7, i64 y8, bo e8, i64 z0, bo u0, bo u1, i64 z1]
  rw [← hg]
end Go.Ax
end

section
/-
  Laws about bodies and contacts: their arguments.
-/
set_option linter.unusedVariables false
set_option linter.unusedSimpArgs false
set_option maxHeartbeats 4000000
set_option maxRecDepth 100000
namespace Go.Ax
open Go.Proofs
abbrev shC : List Sh := [.int .i64, .int .i64, .int .i64, .bool, .int .i64, .bool, .slice 6 [.int .i64, .bool, .int .i64, .bool, .int .i64, .bool], .int .i64, .bool, .int .i64, .bool, .int .i64, .bool, .int .i64, .bool]
theorem row6 {l : List AV} (h : fitS [.int .i64, .bool, .int .i64, .bool, .int .i64, .bool] l) : l = tchC ((gi l 0, gib l 1), (gi l 2, gib l 3)) (gi l 4, gib l 5) ∧ inR (gi l 0) ∧ inR (gi l 2) ∧ inR (gi l 4) := by
  obtain ⟨_, _, rfl, ⟨x0, rfl, k0⟩, _, _, rfl, ⟨e0, rfl⟩, _, _, rfl, ⟨x1, rfl, k1⟩, _, _, rfl, ⟨e1, rfl⟩, _, _, rfl, ⟨x2, rfl, k2⟩, _, _, rfl, ⟨e2, rfl⟩, rfl⟩ := h
  exact ⟨rfl, wf_i64 k0, wf_i64 k1, wf_i64 k2⟩
theorem rowC {l : List AV} (h : fitS shC l) : l = contC (contD l) ∧ inC (contD l) ∧ (contD l).n ≤ 9223372036854775807 := by
  obtain ⟨_, _, rfl, ⟨x0, rfl, k0⟩, _, _, rfl, ⟨x1, rfl, k1⟩, _, _, rfl, ⟨y0, rfl, m0⟩, _, _, rfl, ⟨e0, rfl⟩, _, _, rfl, ⟨y1, rfl, m1⟩, _, _, rfl, ⟨e1, rfl⟩, _, _, rfl, ⟨n, get, rfl, hn, hf⟩, _, _, rfl, ⟨y2, rfl, m2⟩, _, _, rfl, ⟨e2, rfl⟩, _, _, rfl, ⟨y3, rfl, m3⟩, _, _, rfl, ⟨e3, rfl⟩, _, _, rfl, ⟨y4, rfl, m4⟩, _, _, rfl, ⟨e4, rfl⟩, _, _, rfl, ⟨y5, rfl, m5⟩, _, _, rfl, ⟨e5, rfl⟩, rfl⟩ := h
  have hg : get = tchs (tchP get) (tchD get) := funext fun i => (row6 (hf i)).1
  refine ⟨?_, ⟨wf_i64 k0, wf_i64 k1, wf_i64 m0, wf_i64 m1, fun j _ => (row6 (hf j)).2, wf_i64 m2, wf_i64 m3, wf_i64 m4, wf_i64 m5⟩, ?_⟩
  rotate_left
  · show n ≤ 9223372036854775807; unfold maxLen at hn; omega
  show [i64 x0, i64 x1, i64 y0, bo e0, i64 y1, bo e1, AV.ro n 6 get, i64 y2, bo e2, i64 y3, bo e3, i64 y4, bo e4, i64 y5, bo e5] = [i64 x0, i64 x1, i64 y0, bo e0, i64 y1, bo e1, AV.ro n 6 (tchs (tchP get) (tchD get)), i64 y2, bo e2, i64 y3, bo e3, i64 y4, bo e4, i64 y5, bo e5]
  rw [← hg]
theorem rowsB {get : Nat → List AV} (h : ∀ i, fitS shB (get i)) : get = bsC (bsD get) ∧ ∀ i, inB (bsD get i) ∧ (bsD get i).n ≤ 9223372036854775807 :=
  ⟨funext fun i => (rowB (h i)).1, fun i => (rowB (h i)).2⟩
end Go.Ax
end

section
/-
  What the rows say of the whole program, word by word.
-/
namespace Go.Ax
open Go.Proofs
theorem andT {a b : Bool} (h : a = true) (k : b = true) : (a && b) = true := by rw [h, k]; rfl
theorem laidOut : laidOutB Tryz.prog = true := by kernel_rfl
theorem fRowed : mapsRowed Tryz.prog = true := by kernel_rfl
theorem fStops : (Tryz.prog.stops == []) = true := by kernel_rfl
theorem fStopK : (Tryz.prog.stopKnobs == []) = true := by kernel_rfl
theorem fPlain : (true == Tryz.prog.plainKeys) = true := by kernel_rfl
theorem fHeard : Tryz.prog.stopsHeard = true := by kernel_rfl
theorem fMay : Tryz.prog.mayEnter = true := by kernel_rfl
theorem fLift : (false == Tryz.prog.liftsFinal) = true := by kernel_rfl
theorem fMake : (Tryz.prog.make == some YtafigekkhpepkaaGreat.Rows.solverMovesRow.make) = true := by kernel_rfl
end Go.Ax
end

section
/-
  A place of a body, from its own to the world's.
-/
set_option linter.unusedVariables false
set_option linter.unusedSimpArgs false
set_option maxHeartbeats 4000000
set_option maxRecDepth 100000
namespace Go.Ax
open Go.Proofs
theorem vfS_one {x y : Int} {e f : Bool} : vfS 1 (rowsOf 4 [i64 x, bo e, i64 y, bo f]) = (whF x e || whF y f) := by
  unfold vfS anyB anyB
  rw [Bool.false_or]; rfl
def k131 : Con
  | [.agg [.v (.int .i64 x), .v (.bool e), .v (.int .i64 y), .v (.bool f)], .agg [.v (.int .i64 z), .v (.bool g), .v (.int .i64 t), .v (.bool h)]] => some ([inR x, inR y, inR z, inR t], veA (vApply ((x, e), (y, f)) ((z, g), (t, h))))
  | _ => none
theorem kon131 : ConOK Tryz.prog 259 k131 := ConOK.of (G := [(238, c238), (164, c164)]) (H := [(1, ⟨[(20, .slot 4)], []⟩)]) (.cons con238 (.cons con164 .nil)) Tryz.func259 fun l ob r hc hob => by
  unfold k131 at hc
  split at hc
  · rename_i x e y f z g t h
    cases hc
    have h_0 : inR x := hob _ (by simp)
    have h_1 : inR y := hob _ (by simp)
    have h_2 : inR z := hob _ (by simp)
    have h_3 : inR t := hob _ (by simp)
    refine ⟨by kernel_rfl, fnVC_go (rs := [.cell 4 26]) rfl rfl ?_⟩
    simp only [go_sem, c238, c164]
    simp only [forall_eq]
    exact ⟨h_1, h_0, h_2, rg_inR (by have := whV_rg h_1; unfold rg at *; omega), h_3, h_1, h_2, h_0, h_3, rfl⟩
  · cases hc
def k62 : Con
  | [.agg [.v (.int .i64 x), .v (.bool e), .v (.int .i64 y), .v (.bool f), .v (.int .i64 c), .v (.bool o), .v (.int .i64 s), .v (.bool p)], .agg [.v (.int .i64 z), .v (.bool g), .v (.int .i64 t), .v (.bool h)]] => some ([inR x, inR y, inR c, inR s, inR z, inR t], veA (vAdd ((x, e), (y, f)) (vApply ((c, o), (s, p)) ((z, g), (t, h)))))
  | _ => none
theorem kon62 : ConOK Tryz.prog 207 k62 := ConOK.of (G := [(121, k130), (259, k131)]) (H := [(1, ⟨[(8, .slot 4)], []⟩)]) (.cons kon130 (.cons kon131 .nil)) Tryz.func207 fun l ob r hc hob => by
  unfold k62 at hc
  split at hc
  · rename_i x e y f c o s p z g t h
    cases hc
    have h_0 : inR x := hob _ (by simp)
    have h_1 : inR y := hob _ (by simp)
    have h_2 : inR c := hob _ (by simp)
    have h_3 : inR s := hob _ (by simp)
    have h_4 : inR z := hob _ (by simp)
    have h_5 : inR t := hob _ (by simp)
    refine ⟨by kernel_rfl, fnVC_go (rs := [.cell 4 26]) rfl rfl ?_⟩
    simp only [go_sem, k130, k131]
    exact ⟨h_2, h_3, h_4, h_5, ⟨h_0, h_1⟩, rfl⟩
  · cases hc
def k68 : Con
  | [.agg [.v (.int .i64 x), .v (.bool e), .v (.int .i64 y), .v (.bool f), .v (.int .i64 c), .v (.bool o), .v (.int .i64 s), .v (.bool p)], .agg [.v (.int .i64 z), .v (.bool g), .v (.int .i64 t), .v (.bool h)]] => some ([inR x, inR y, inR c, inR s, inR z, inR t], veA (vAdd ((x, e), (y, f)) (vApply ((c, o), (s, p)) ((z, g), (t, h)))))
  | _ => none
theorem kon68 : ConOK Tryz.prog 138 k68 := ConOK.of (G := [(86, k138), (198, k139)]) (H := [(1, ⟨[(8, .slot 4)], []⟩)]) (.cons kon138 (.cons kon139 .nil)) Tryz.func138 fun l ob r hc hob => by
  unfold k68 at hc
  split at hc
  · rename_i x e y f c o s p z g t h
    cases hc
    have h_0 : inR x := hob _ (by simp)
    have h_1 : inR y := hob _ (by simp)
    have h_2 : inR c := hob _ (by simp)
    have h_3 : inR s := hob _ (by simp)
    have h_4 : inR z := hob _ (by simp)
    have h_5 : inR t := hob _ (by simp)
    refine ⟨by kernel_rfl, fnVC_go (rs := [.cell 4 26]) rfl rfl ?_⟩
    simp only [go_sem, k138, k139]
    exact ⟨h_2, h_3, h_4, h_5, ⟨h_0, h_1⟩, rfl⟩
  · cases hc
end Go.Ax
end

section
/-
  Equations of two unknowns; the matrix of a body and a place.
-/
set_option linter.unusedVariables false
set_option linter.unusedSimpArgs false
set_option maxHeartbeats 4000000
set_option maxRecDepth 100000
namespace Go.Ax
open Go.Proofs
def flt (v : V2) : Bool := whF v.1.1 v.1.2 || whF v.2.1 v.2.2
def solN (a b c d : Nb) : Nb := nDot a d (nNeg b) c
def solX (a b c d : Nb) (v : V2) : V2 := (nDiv (nDot v.1 d (nNeg b) v.2) (solN a b c d), nDiv (nDot a v.2 (nNeg v.1) c) (solN a b c d))
def solS (a b c d : Nb) (v : V2) : Bool × V2 := if (solN a b c d).2 = true ∨ (solN a b c d).1 = 0 then (false, (0, false), (0, false)) else if flt (solX a b c d v) = true then (false, (0, false), (0, false)) else (true, solX a b c d v)
def ks283 : Con
  | [.agg [.v (.int .i64 a), .v (.bool e)], .agg [.v (.int .i64 b), .v (.bool f)], .agg [.v (.int .i64 c), .v (.bool g)], .agg [.v (.int .i64 d), .v (.bool h)], .agg [.v (.int .i64 x), .v (.bool k), .v (.int .i64 y), .v (.bool l)]] => some ([inR a, inR b, inR c, inR d, inR x, inR y], unA (solS (a, e) (b, f) (c, g) (d, h) ((x, k), (y, l))))
  | _ => none
theorem kons283 : ConOK Tryz.prog 283 ks283 := ConOK.of (G := [(164, k179), (238, k125), (155, k168), (257, c257)]) (H := [(1, ⟨[(7, .made 6)], []⟩), (4, ⟨[(22, .made 21)], []⟩)]) (.cons kon179 (.cons kon125 (.cons kon168 (.cons con257 .nil)))) Tryz.func283 fun l ob rr hc hob => by
  unfold ks283 at hc
  split at hc
  · rename_i a e b f c g d h x k y l
    cases hc
    have h_0 : inR a := hob _ (by simp)
    have h_1 : inR b := hob _ (by simp)
    have h_2 : inR c := hob _ (by simp)
    have h_3 : inR d := hob _ (by simp)
    have h_4 : inR x := hob _ (by simp)
    have h_5 : inR y := hob _ (by simp)
    refine ⟨by kernel_rfl, fnVC_go (rs := [.cell 10 26, .tmp 11]) rfl rfl ?_⟩
    simp only [go_sem, k179, k125, k168, c257, iMul, iDiv, iInt, iAdd, iSub, iRat, iDot, iHyp, iSq, iNeg, iPos, iAbs, iMx, iMn, iCl, iWh, iLoc1, iLoc2, iVAdd1, iVAdd2, iVSub1, iVSub2, iScale1, iScale2, iVDot, iVCross, iLen, iOf1, iOf2, iUnit1, iUnit2, h_0, h_1, h_2, h_3, h_4, h_5]
    refine ⟨fun q => ?_, fun q z hz => ?_⟩
    · unfold solS
      rw [if_pos (show (solN (a, e) (b, f) (c, g) (d, h)).2 = true ∨ (solN (a, e) (b, f) (c, g) (d, h)).1 = 0 from q.imp id beq_iff_eq.1)]
      rfl
    · rw [vfS_one] at hz
      have hz : z = flt (solX (a, e) (b, f) (c, g) (d, h) ((x, k), (y, l))) := hz
      have q1 : ¬ ((solN (a, e) (b, f) (c, g) (d, h)).2 = true ∨ (solN (a, e) (b, f) (c, g) (d, h)).1 = 0) := by
        rintro (k1 | k1)
        · rw [show (solN (a, e) (b, f) (c, g) (d, h)).2 = false from q.1] at k1; cases k1
        · exact beq_eq_false_iff_ne.1 q.2 k1
      refine ⟨fun k1 => ?_, fun k1 => ?_⟩
      · unfold solS
        rw [if_neg q1, if_pos (hz.symm.trans k1)]
        rfl
      · unfold solS
        rw [if_neg q1, if_neg (by rw [hz.symm.trans k1]; simp)]
        rfl
  · cases hc
def ks140 : Con
  | [.agg [.v (.int .i64 a), .v (.bool e)], .agg [.v (.int .i64 b), .v (.bool f)], .agg [.v (.int .i64 c), .v (.bool g)], .agg [.v (.int .i64 d), .v (.bool h)], .agg [.v (.int .i64 x), .v (.bool k), .v (.int .i64 y), .v (.bool l)]] => some ([inR a, inR b, inR c, inR d, inR x, inR y], unA (solS (a, e) (b, f) (c, g) (d, h) ((x, k), (y, l))))
  | _ => none
theorem kons140 : ConOK Tryz.prog 140 ks140 := ConOK.of (G := [(92, k111), (111, k136), (80, k144), (199, c199)]) (H := [(1, ⟨[(7, .made 6)], []⟩), (4, ⟨[(22, .made 21)], []⟩)]) (.cons kon111 (.cons kon136 (.cons kon144 (.cons con199 .nil)))) Tryz.func140 fun l ob rr hc hob => by
  unfold ks140 at hc
  split at hc
  · rename_i a e b f c g d h x k y l
    cases hc
    have h_0 : inR a := hob _ (by simp)
    have h_1 : inR b := hob _ (by simp)
    have h_2 : inR c := hob _ (by simp)
    have h_3 : inR d := hob _ (by simp)
    have h_4 : inR x := hob _ (by simp)
    have h_5 : inR y := hob _ (by simp)
    refine ⟨by kernel_rfl, fnVC_go (rs := [.cell 10 26, .tmp 11]) rfl rfl ?_⟩
    simp only [go_sem, k111, k136, k144, c199, iMul, iDiv, iInt, iAdd, iSub, iRat, iDot, iHyp, iSq, iNeg, iPos, iAbs, iMx, iMn, iCl, iWh, iLoc1, iLoc2, iVAdd1, iVAdd2, iVSub1, iVSub2, iScale1, iScale2, iVDot, iVCross, iLen, iOf1, iOf2, iUnit1, iUnit2, h_0, h_1, h_2, h_3, h_4, h_5]
    refine ⟨fun q => ?_, fun q z hz => ?_⟩
    · unfold solS
      rw [if_pos (show (solN (a, e) (b, f) (c, g) (d, h)).2 = true ∨ (solN (a, e) (b, f) (c, g) (d, h)).1 = 0 from q.imp id beq_iff_eq.1)]
      rfl
    · rw [vfS_one] at hz
      have hz : z = flt (solX (a, e) (b, f) (c, g) (d, h) ((x, k), (y, l))) := hz
      have q1 : ¬ ((solN (a, e) (b, f) (c, g) (d, h)).2 = true ∨ (solN (a, e) (b, f) (c, g) (d, h)).1 = 0) := by
        rintro (k1 | k1)
        · rw [show (solN (a, e) (b, f) (c, g) (d, h)).2 = false from q.1] at k1; cases k1
        · exact beq_eq_false_iff_ne.1 q.2 k1
      refine ⟨fun k1 => ?_, fun k1 => ?_⟩
      · unfold solS
        rw [if_neg q1, if_pos (hz.symm.trans k1)]
        rfl
      · unfold solS
        rw [if_neg q1, if_neg (by rw [hz.symm.trans k1]; simp)]
        rfl
  · cases hc
def mxA (m : Nb × Nb × Nb) : AV := .agg [i64 m.1.1, bo m.1.2, i64 m.2.1.1, bo m.2.1.2, i64 m.2.2.1, bo m.2.2.2]
def matS (b : Bd) (p : V2) : Nb × Nb × Nb := (nAdd b.m (nMul b.i (nMul (vSub p b.pl).2 (vSub p b.pl).2)), nNeg (nMul b.i (nMul (vSub p b.pl).1 (vSub p b.pl).2)), nAdd b.m (nMul b.i (nMul (vSub p b.pl).1 (vSub p b.pl).1)))
def kb248 : Con := cBR fun b rest => match rest with
  | [.agg [.v (.int .i64 x), .v (.bool e), .v (.int .i64 y), .v (.bool f)]] => some ([inB b, inR x, inR y], mxA (matS b ((x, e), (y, f))))
  | _ => none
theorem konb248 : ConOK Tryz.prog 248 kb248 := ConOK.cBR (G := [(175, kw175), (125, k129), (153, kw153), (164, k179)]) (H := [(1, ⟨[(18, .made 15), (19, .made 16), (20, .made 17)], [(8, [.made 15]), (14, [.made 15, .made 16])]⟩), (2, ⟨[(27, .slot 4)], []⟩)]) (.cons konw175 (.cons kon129 (.cons konw153 (.cons kon179 .nil)))) Tryz.func248 fun b rest ob r hc hob => by
  split at hc
  · rename_i x e y f
    cases hc
    have h_0 : inB b := hob _ (by simp)
    have h_1 : inR x := hob _ (by simp)
    have h_2 : inR y := hob _ (by simp)
    obtain ⟨b1, b2, b3, b4, b5, b6, b7, b8, b9, b10, b11, b12, b13, b14, b15, b16⟩ := h_0
    have hb : inB b := hob _ (by simp)
    refine ⟨by kernel_rfl, fnVC_go (rs := [.cell 4 244]) rfl rfl ?_⟩
    simp only [bodyC, go_sem, kw175, k129, kw153, k179, cB_eq, cBR_eq, bodyD_lit, gx_pts0, gx_pts1, spots_can, etaN, etaV, bd_eta, b1, b2, b3, b4, b6, b7, b8, b9, b10, b11, b12, b13, b14, b15, b16, hb, h_1, h_2]
    rfl
  · cases hc
def kb139 : Con := cB fun b rest => match rest with
  | [.agg [.v (.int .i64 x), .v (.bool e), .v (.int .i64 y), .v (.bool f)]] => some ([inB b, inR x, inR y], mxA (matS b ((x, e), (y, f))))
  | _ => none
theorem konb139 : ConOK Tryz.prog 139 kb139 := ConOK.cB (G := [(110, kb110), (27, k52), (79, k208), (92, k111)]) (H := [(2, ⟨[(8, .made 6), (9, .made 7)], [(5, [.made 6])]⟩), (3, ⟨[(27, .slot 4)], []⟩)]) (.cons konb110 (.cons kon52 (.cons kon208 (.cons kon111 .nil)))) Tryz.func139 fun b rest ob r hc hob => by
  split at hc
  · rename_i x e y f
    cases hc
    have h_0 : inB b := hob _ (by simp)
    have h_1 : inR x := hob _ (by simp)
    have h_2 : inR y := hob _ (by simp)
    obtain ⟨b1, b2, b3, b4, b5, b6, b7, b8, b9, b10, b11, b12, b13, b14, b15, b16⟩ := h_0
    have hb : inB b := hob _ (by simp)
    refine ⟨by kernel_rfl, fnVC_go (rs := [.cell 4 164]) rfl rfl ?_⟩
    simp only [bodyC, go_sem, kb110, k52, k208, k111, cB_eq, cBR_eq, bodyD_lit, gx_pts0, gx_pts1, spots_can, etaN, etaV, bd_eta, b1, b2, b3, b4, b6, b7, b8, b9, b10, b11, b12, b13, b14, b15, b16, hb, h_1, h_2]
    rfl
  · cases hc
def ks249 : Con
  | [.agg [.v (.int .i64 a), .v (.bool e), .v (.int .i64 b), .v (.bool f), .v (.int .i64 c), .v (.bool g)], .agg [.v (.int .i64 x), .v (.bool k), .v (.int .i64 y), .v (.bool l)]] => some ([inR a, inR b, inR c, inR x, inR y], unA (solS (a, e) (b, f) (b, f) (c, g) ((x, k), (y, l))))
  | _ => none
theorem kons249 : ConOK Tryz.prog 249 ks249 := ConOK.of (G := [(283, ks283)]) (H := []) (.cons kons283 .nil) Tryz.func249 fun l ob rr hc hob => by
  unfold ks249 at hc
  split at hc
  · rename_i a e b f c g x k y l
    cases hc
    have h_0 : inR a := hob _ (by simp)
    have h_1 : inR b := hob _ (by simp)
    have h_2 : inR c := hob _ (by simp)
    have h_3 : inR x := hob _ (by simp)
    have h_4 : inR y := hob _ (by simp)
    refine ⟨by kernel_rfl, fnVC_go (rs := [.cell 4 26, .tmp 5]) rfl rfl ?_⟩
    simp only [go_sem, ks283, iMul, iDiv, iInt, iAdd, iSub, iRat, iDot, iHyp, iSq, iNeg, iPos, iAbs, iMx, iMn, iCl, iWh, iLoc1, iLoc2, iVAdd1, iVAdd2, iVSub1, iVSub2, iScale1, iScale2, iVDot, iVCross, iLen, iOf1, iOf2, iUnit1, iUnit2, h_0, h_1, h_2, h_3, h_4]
    rfl
  · cases hc
theorem iMa1 {b : Bd} {p : V2} : inR (matS b p).1.1 = True := iAdd
theorem iMa2 {b : Bd} {p : V2} : inR (matS b p).2.1.1 = True := iNeg (of_eq_true iMul)
theorem iMa3 {b : Bd} {p : V2} : inR (matS b p).2.2.1 = True := iAdd
theorem iSo1 {a b c d : Nb} {v : V2} : inR (solS a b c d v).2.1.1 = True := by
  unfold solS
  split
  · exact inR_0
  · split
    · exact inR_0
    · exact iDiv
theorem iSo2 {a b c d : Nb} {v : V2} : inR (solS a b c d v).2.2.1 = True := by
  unfold solS
  split
  · exact inR_0
  · split
    · exact inR_0
    · exact iDiv
def toS (b : Bd) (p : V2) : V2 := vAdd b.pl (vApply b.rot p)
theorem toS_f {b : Bd} {p : V2} : vAdd b.pl (vApply b.rot p) = toS b p := (rfl)
theorem iTo1 {b : Bd} {p : V2} : inR (toS b p).1.1 = True := iVAdd1
theorem iTo2 {b : Bd} {p : V2} : inR (toS b p).2.1 = True := iVAdd2
attribute [go_sem] mxA iMa1 iMa2 iMa3 iSo1 iSo2 iTo1 iTo2 toS_f
end Go.Ax
end

section
/-
  Joints: a body is pulled to a place.
-/
set_option linter.unusedVariables false
set_option linter.unusedSimpArgs false
set_option maxHeartbeats 4000000
set_option maxRecDepth 100000
namespace Go.Ax
open Go.Proofs
def grbU (A : Bd) (pa pb : V2) (r : Nb) : V2 := vSub (vScale (vSub pb (toS A pa)) r) (spdS A (toS A pa))
def grbI (A : Bd) (pa pb : V2) (r : Nb) : Bool × V2 := solS (matS A (toS A pa)).1 (matS A (toS A pa)).2.1 (matS A (toS A pa)).2.1 (matS A (toS A pa)).2.2 (grbU A pa pb r)
def grbT (B : Nat → Bd) (i : Nat) (pa pb : V2) (r : Nb) : Nat → Bd := if (grbI (B i) pa pb r).1 = true then updB B i (pshS (B i) (toS (B i) pa) (grbI (B i) pa pb r).2) else B
def grbF : Nat → (Nat → List AV) → List AV → Option (List Prop × AV × (Nat → List AV))
  | N, get, [.agg [.v (.int .i64 k), .v (.int .i64 a), .v (.int .i64 b), .v (.int .i64 x), .v (.bool e), .v (.int .i64 y), .v (.bool f), .v (.int .i64 z), .v (.bool g), .v (.int .i64 u), .v (.bool h), .v (.int .i64 l), .v (.bool m)], .agg [.v (.int .i64 r), .v (.bool q)]] => some ([get = bsC (bsD get), inBs N (bsD get), N ≤ 1000, 0 ≤ a, a < N, inR x, inR y, inR z, inR u, inR l, inR r], .tup [], bsC (grbT (bsD get) a.toNat ((x, e), (y, f)) ((z, g), (u, h)) (r, q)))
  | _, _, _ => none
def mGrb : MCon := mcT 27 151 155 grbF
theorem con194m : MConOK Tryz.prog 194 mGrb := MConOK.mcT (G := [(207, k62), (157, k172), (122, k169), (150, kb150), (248, kb248), (249, ks249), (115, .wr kw115)]) (H := [(2, ⟨[(9, .made 8)], []⟩), (3, ⟨[(11, .made 10)], []⟩), (4, ⟨[(9, .made 8)], []⟩)]) (.cons kon62 (.cons kon172 (.cons kon169 (.cons konb150 (.cons konb248 (.cons kons249 (.mcons konw115 .nil))))))) Tryz.func194 fun N get rest ob val get' hF hob hcl => by
  unfold grbF at hF
  split at hF
  · rename_i k a b x e y f z g u h l m r q
    cases hF
    have h1 : get = bsC (bsD get) := hob _ (by simp)
    have hB : inBs N (bsD get) := hob _ (by simp)
    have hN : N ≤ 1000 := hob _ (by simp)
    have a1 : 0 ≤ a := hob _ (by simp)
    have a2 : a < N := hob _ (by simp)
    have k1 : inR x := hob _ (by simp)
    have k2 : inR y := hob _ (by simp)
    have k3 : inR z := hob _ (by simp)
    have k4 : inR u := hob _ (by simp)
    have k5 : inR l := hob _ (by simp)
    have k6 : inR r := hob _ (by simp)
    clear hob
    generalize bsD get = B at *
    subst h1
    refine ⟨by simp [clean], rfl, fun i _ => rfl, by kernel_rfl, bodyM_go (rs := []) rfl rfl ?_⟩
    have hA : a.toNat < N := by omega
    obtain ⟨i1, i2⟩ := hB a.toNat hA
    obtain ⟨p1, p2, p3, p4, p5, p6, p7, p8, p9, p10, p11, p12, p13, p14, p15, p16⟩ := id i1
    simp only [go_sem, k62, k172, k169, kb150, kb248, ks249, kw115, cBR_eq, mB_ptr, mbP_some, stepC_mbQ, hA, i1, p6, p7, p8, p9, k1, k2, k3, k4, k5, k6]
    simp only [forall_eq]
    refine ⟨a1, a2, of_eq_true iMa1, of_eq_true iMa2, of_eq_true iMa3, fun w => ?_, fun w => ?_⟩
    · have e1 : grbT B a.toNat ((x, e), (y, f)) ((z, g), (u, h)) (r, q) = _ := if_pos w
      rw [e1]
      rfl
    · have e1 : grbT B a.toNat ((x, e), (y, f)) ((z, g), (u, h)) (r, q) = B := if_neg (fun k => by rw [show (grbI _ _ _ _).1 = false from w] at k; cases k)
      rw [e1]
  · cases hF
def rodN (A Q : Bd) (pa pb : V2) : Bool × V2 := vUnit (vSub (toS Q pb) (toS A pa))
def rodK (A Q : Bd) (pa pb : V2) : Nb := nAdd (hftS A (toS A pa) (rodN A Q pa pb).2) (hftS Q (toS Q pb) (rodN A Q pa pb).2)
def rodD (A Q : Bd) (pa pb : V2) (ln r : Nb) : Nb := nDiv (nNeg (nAdd (vDot (vSub (spdS Q (toS Q pb)) (spdS A (toS A pa))) (rodN A Q pa pb).2) (nMul (nSub (vLen (vSub (toS Q pb) (toS A pa))) ln) r))) (rodK A Q pa pb)
def rodT (B : Nat → Bd) (i j : Nat) (pa pb : V2) (ln r : Nb) : Nat → Bd := if (rodN (B i) (B j) pa pb).1 = true ∧ (rodK (B i) (B j) pa pb).1 ≠ 0 then
  updB (updB B i (apaA (B i) (toS (B i) pa) (rodN (B i) (B j) pa pb).2 (rodD (B i) (B j) pa pb ln r))) j (apaB (B j) (toS (B j) pb) (rodN (B i) (B j) pa pb).2 (rodD (B i) (B j) pa pb ln r)) else B
def rodF : Nat → (Nat → List AV) → List AV → Option (List Prop × AV × (Nat → List AV))
  | N, get, [.agg [.v (.int .i64 k), .v (.int .i64 a), .v (.int .i64 b), .v (.int .i64 x), .v (.bool e), .v (.int .i64 y), .v (.bool f), .v (.int .i64 z), .v (.bool g), .v (.int .i64 u), .v (.bool h), .v (.int .i64 l), .v (.bool m)], .agg [.v (.int .i64 r), .v (.bool q)]] => some ([get = bsC (bsD get), inBs N (bsD get), N ≤ 1000, 0 ≤ a, a < N, 0 ≤ b, b < N, a ≠ b, inR x, inR y, inR z, inR u, inR l, inR r], .tup [], bsC (rodT (bsD get) a.toNat b.toNat ((x, e), (y, f)) ((z, g), (u, h)) (l, m) (r, q)))
  | _, _, _ => none
def mRod : MCon := mcT 27 151 155 rodF
theorem con195m : MConOK Tryz.prog 195 mRod := MConOK.mcT (G := [(207, k62), (157, k172), (250, k165), (151, kb151), (153, kw153), (150, kb150), (219, k178), (251, k161), (154, k160), (125, k129), (164, k179), (155, k168), (162, .wr mApa)]) (H := [(2, ⟨[(18, .made 16), (19, .made 17)], []⟩), (5, ⟨[(10, .made 9)], []⟩), (7, ⟨[(10, .made 9)], []⟩), (8, ⟨[(8, .made 7)], []⟩), (9, ⟨[(11, .call)], []⟩)]) (.cons kon62 (.cons kon172 (.cons kon165 (.cons konb151 (.cons konw153 (.cons konb150 (.cons kon178 (.cons kon161 (.cons kon160 (.cons kon129 (.cons kon179 (.cons kon168 (.mcons con162m .nil))))))))))))) Tryz.func195 fun N get rest ob val get' hF hob hcl => by
  unfold rodF at hF
  split at hF
  · rename_i k a b x e y f z g u h l m r q
    cases hF
    have h1 : get = bsC (bsD get) := hob _ (by simp)
    have hB : inBs N (bsD get) := hob _ (by simp)
    have hN : N ≤ 1000 := hob _ (by simp)
    have a1 : 0 ≤ a := hob _ (by simp)
    have a2 : a < N := hob _ (by simp)
    have a3 : 0 ≤ b := hob _ (by simp)
    have a4 : b < N := hob _ (by simp)
    have a5 : a ≠ b := hob _ (by simp)
    have k1 : inR x := hob _ (by simp)
    have k2 : inR y := hob _ (by simp)
    have k3 : inR z := hob _ (by simp)
    have k4 : inR u := hob _ (by simp)
    have k5 : inR l := hob _ (by simp)
    have k6 : inR r := hob _ (by simp)
    clear hob
    generalize bsD get = B at *
    subst h1
    refine ⟨by simp [clean], rfl, fun i _ => rfl, by kernel_rfl, bodyM_go (rs := []) rfl rfl ?_⟩
    have hA : a.toNat < N := by omega
    have hA2 : b.toNat < N := by omega
    have hne : ¬ b.toNat = a.toNat := by omega
    obtain ⟨i1, i2⟩ := hB a.toNat hA
    obtain ⟨i3, i4⟩ := hB b.toNat hA2
    obtain ⟨p1, p2, p3, p4, p5, p6, p7, p8, p9, p10, p11, p12, p13, p14, p15, p16⟩ := id i1
    obtain ⟨q1, q2, q3, q4, q5, q6, q7, q8, q9, q10, q11, q12, q13, q14, q15, q16⟩ := id i3
    simp only [go_sem, k62, k172, k165, kb151, kw153, kb150, k178, k161, k160, k129, k179, k168, cBR_eq, mB_ptr, mbP_some, stepC_mbQ, hA, hA2, i1, i3, p6, p7, p8, p9, q6, q7, q8, q9, k1, k2, k3, k4, k5, k6, mApa, apaF]
    refine ⟨a1, a2, a3, a4, fun w => ?_, fun w => ⟨by omega, ?_⟩⟩
    · have e1 : rodT B a.toNat b.toNat ((x, e), (y, f)) ((z, g), (u, h)) (l, m) (r, q) = B := if_neg fun k => by
        rcases w with w | w
        · have w : (rodN (B a.toNat) (B b.toNat) ((x, e), (y, f)) ((z, g), (u, h))).1 = false := w
          rw [k.1] at w; cases w
        · exact k.2 (beq_iff_eq.1 w)
      rw [e1]
    · have e1 : rodT B a.toNat b.toNat ((x, e), (y, f)) ((z, g), (u, h)) (l, m) (r, q) = _ := if_pos ⟨w.1, beq_eq_false_iff_ne.1 w.2⟩
      rw [e1]
      rfl
  · cases hF
end Go.Ax
end

section
/-
  Joints: two places are kept together; all joints.
-/
set_option linter.unusedVariables false
set_option linter.unusedSimpArgs false
set_option maxHeartbeats 4000000
set_option maxRecDepth 100000
namespace Go.Ax
open Go.Proofs
abbrev M3 := Nb × Nb × Nb
/-- The first i numbers are added up. -/
def mxS (m o : M3) : Nat → M3
  | 0 => m
  | 1 => (nAdd m.1 o.1, m.2)
  | 2 => (nAdd m.1 o.1, nAdd m.2.1 o.2.1, m.2.2)
  | _ + 3 => (nAdd m.1 o.1, nAdd m.2.1 o.2.1, nAdd m.2.2 o.2.2)
def mxC (m : M3) : List AV := [i64 m.1.1, bo m.1.2, i64 m.2.1.1, bo m.2.1.2, i64 m.2.2.1, bo m.2.2.2]
theorem cleanCs_mx {m : M3} : cleanCs (mxC m) = true := (rfl)
def pinM (A Q : Bd) (pa pb : V2) : M3 := mxS (matS A (toS A pa)) (matS Q (toS Q pb)) 3
def pinU (A Q : Bd) (pa pb : V2) (r : Nb) : V2 := vAdd (vSub (spdS Q (toS Q pb)) (spdS A (toS A pa))) (vScale (vSub (toS Q pb) (toS A pa)) r)
def pinI (A Q : Bd) (pa pb : V2) (r : Nb) : Bool × V2 := solS (pinM A Q pa pb).1 (pinM A Q pa pb).2.1 (pinM A Q pa pb).2.1 (pinM A Q pa pb).2.2 (vOpp (pinU A Q pa pb r))
def pinT (B : Nat → Bd) (i j : Nat) (pa pb : V2) (r : Nb) : Nat → Bd := if (pinI (B i) (B j) pa pb r).1 = true then
  updB (updB B i (pshS (B i) (toS (B i) pa) (vScale (pinI (B i) (B j) pa pb r).2 (nInt (-1))))) j (pshS (B j) (toS (B j) pb) (pinI (B i) (B j) pa pb r).2) else B
def pinF : Nat → (Nat → List AV) → List AV → Option (List Prop × AV × (Nat → List AV))
  | N, get, [.agg [.v (.int .i64 k), .v (.int .i64 a), .v (.int .i64 b), .v (.int .i64 x), .v (.bool e), .v (.int .i64 y), .v (.bool f), .v (.int .i64 z), .v (.bool g), .v (.int .i64 u), .v (.bool h), .v (.int .i64 l), .v (.bool m)], .agg [.v (.int .i64 r), .v (.bool q)]] => some ([get = bsC (bsD get), inBs N (bsD get), N ≤ 1000, 0 ≤ a, a < N, 0 ≤ b, b < N, a ≠ b, inR x, inR y, inR z, inR u, inR l, inR r], .tup [], bsC (pinT (bsD get) a.toNat b.toNat ((x, e), (y, f)) ((z, g), (u, h)) (r, q)))
  | _, _, _ => none
def mPin : MCon := mcT 27 151 155 pinF
theorem con196m : MConOK Tryz.prog 196 mPin := MConOK.mcT (G := [(207, k62), (248, kb248), (153, kw153), (150, kb150), (157, k172), (122, k169), (121, k130), (252, kw252o), (249, ks249), (178, k127), (115, .wr kw115)]) (H := [(2, ⟨[(18, .made 16), (19, .made 17)], []⟩), (3, ⟨[(8, .made 6), (9, .made 7)], []⟩), (7, ⟨[(9, .slot 10)], []⟩), (9, ⟨[(15, .made 14)], []⟩), (10, ⟨[(8, .made 7)], []⟩), (12, ⟨[(5, .call)], []⟩)]) (.cons kon62 (.cons konb248 (.cons konw153 (.cons konb150 (.cons kon172 (.cons kon169 (.cons kon130 (.cons konw252o (.cons kons249 (.cons kon127 (.mcons konw115 .nil))))))))))) Tryz.func196 fun N get rest ob val get' hF hob hcl => by
  unfold pinF at hF
  split at hF
  · rename_i k a b x e y f z g u h l m r q
    cases hF
    have h1 : get = bsC (bsD get) := hob _ (by simp)
    have hB : inBs N (bsD get) := hob _ (by simp)
    have hN : N ≤ 1000 := hob _ (by simp)
    have a1 : 0 ≤ a := hob _ (by simp)
    have a2 : a < N := hob _ (by simp)
    have a3 : 0 ≤ b := hob _ (by simp)
    have a4 : b < N := hob _ (by simp)
    have a5 : a ≠ b := hob _ (by simp)
    have k1 : inR x := hob _ (by simp)
    have k2 : inR y := hob _ (by simp)
    have k3 : inR z := hob _ (by simp)
    have k4 : inR u := hob _ (by simp)
    have k5 : inR l := hob _ (by simp)
    have k6 : inR r := hob _ (by simp)
    clear hob
    generalize bsD get = B at *
    subst h1
    refine ⟨by simp [clean], rfl, fun i _ => rfl, by kernel_rfl, bodyM_go (rs := []) rfl rfl ?_⟩
    have hA : a.toNat < N := by omega
    have hA2 : b.toNat < N := by omega
    have hne : ¬ b.toNat = a.toNat := by omega
    obtain ⟨i1, i2⟩ := hB a.toNat hA
    obtain ⟨i3, i4⟩ := hB b.toNat hA2
    obtain ⟨p1, p2, p3, p4, p5, p6, p7, p8, p9, p10, p11, p12, p13, p14, p15, p16⟩ := id i1
    obtain ⟨q1, q2, q3, q4, q5, q6, q7, q8, q9, q10, q11, q12, q13, q14, q15, q16⟩ := id i3
    simp only [go_sem, k62, kb248, kw153, kb150, k172, k169, k130, kw252o, ks249, k127, kw115, cBR_eq, mB_ptr, mbP_some, stepC_mbQ, hA, hA2, i1, i3, p6, p7, p8, p9, q6, q7, q8, q9, k1, k2, k3, k4, k5, k6]
    simp only [forall_eq]
    have hm1 : inR (matS (B a.toNat) (toS (B a.toNat) ((x, e), (y, f)))).1.1 := of_eq_true iMa1
    have hm2 : inR (matS (B a.toNat) (toS (B a.toNat) ((x, e), (y, f)))).2.1.1 := of_eq_true iMa2
    have hm3 : inR (matS (B a.toNat) (toS (B a.toNat) ((x, e), (y, f)))).2.2.1 := of_eq_true iMa3
    have hq1 : inR (matS (B b.toNat) (toS (B b.toNat) ((z, g), (u, h)))).1.1 := of_eq_true iMa1
    have hq2 : inR (matS (B b.toNat) (toS (B b.toNat) ((z, g), (u, h)))).2.1.1 := of_eq_true iMa2
    have hq3 : inR (matS (B b.toNat) (toS (B b.toNat) ((z, g), (u, h)))).2.2.1 := of_eq_true iMa3
    unfold pinT pinI pinM pinU
    generalize matS (B a.toNat) (toS (B a.toNat) ((x, e), (y, f))) = MA at *
    generalize matS (B b.toNat) (toS (B b.toNat) ((z, g), (u, h))) = MQ at *
    refine ⟨a1, a2, a3, a4, ?_⟩
    refine loopC_go (fun (i : Nat) => i ≤ 3) (fun i => 3 - i) (fun i => [(48, i64 (i : Int))]) (fun i => [(41, fam1 244 6 (mxC (mxS MA MQ i)) none)]) [42, 32, 31, 2, 1, 0] [49, 50, 12, 51, 52, 53, 54, 55, 56, 57, 58, 59, 60, 48] 0 (by kernel_rfl) ?_ (Nat.zero_le _) ?_ ?_
    · intro i _; simp [goodNames, asg]
    · simp only [go_sem]
      exact fitL_clean rfl
    intro i hi
    match i, hi with
    | 0, hi =>
      have e0 : mxC (mxS MA MQ 0) = [i64 MA.1.1, bo MA.1.2, i64 MA.2.1.1, bo MA.2.1.2, i64 MA.2.2.1, bo MA.2.2.2] := rfl
      rw [e0]
      simp only [go_sem, k62, kb248, kw153, kb150, k172, k169, k130, kw252o, ks249, k127, kw115, cBR_eq, mB_ptr, mbP_some, stepC_mbQ, hA, hA2, i1, i3, p6, p7, p8, p9, q6, q7, q8, q9, k1, k2, k3, k4, k5, k6, hm1, hm2, hm3, hq1, hq2, hq3, forall_eq, imp_false, Nat.not_lt]
      exact ⟨fun _ => ⟨1, by omega, by omega, by decide, fitL_clean rfl⟩, fun w => by cases w⟩
    | 1, hi =>
      have e0 : mxC (mxS MA MQ 1) = [i64 (nAdd MA.1 MQ.1).1, bo (nAdd MA.1 MQ.1).2, i64 MA.2.1.1, bo MA.2.1.2, i64 MA.2.2.1, bo MA.2.2.2] := rfl
      rw [e0]
      simp only [go_sem, k62, kb248, kw153, kb150, k172, k169, k130, kw252o, ks249, k127, kw115, cBR_eq, mB_ptr, mbP_some, stepC_mbQ, hA, hA2, i1, i3, p6, p7, p8, p9, q6, q7, q8, q9, k1, k2, k3, k4, k5, k6, hm1, hm2, hm3, hq1, hq2, hq3, forall_eq, imp_false, Nat.not_lt]
      exact ⟨fun _ => ⟨2, by omega, by omega, by decide, fitL_clean rfl⟩, fun w => by cases w⟩
    | 2, hi =>
      have e0 : mxC (mxS MA MQ 2) = [i64 (nAdd MA.1 MQ.1).1, bo (nAdd MA.1 MQ.1).2, i64 (nAdd MA.2.1 MQ.2.1).1, bo (nAdd MA.2.1 MQ.2.1).2, i64 MA.2.2.1, bo MA.2.2.2] := rfl
      rw [e0]
      simp only [go_sem, k62, kb248, kw153, kb150, k172, k169, k130, kw252o, ks249, k127, kw115, cBR_eq, mB_ptr, mbP_some, stepC_mbQ, hA, hA2, i1, i3, p6, p7, p8, p9, q6, q7, q8, q9, k1, k2, k3, k4, k5, k6, hm1, hm2, hm3, hq1, hq2, hq3, forall_eq, imp_false, Nat.not_lt]
      exact ⟨fun _ => ⟨3, by omega, by omega, by decide, fitL_clean rfl⟩, fun w => by cases w⟩
    | 3, hi =>
      have e0 : mxC (mxS MA MQ 3) = [i64 (nAdd MA.1 MQ.1).1, bo (nAdd MA.1 MQ.1).2, i64 (nAdd MA.2.1 MQ.2.1).1, bo (nAdd MA.2.1 MQ.2.1).2, i64 (nAdd MA.2.2 MQ.2.2).1, bo (nAdd MA.2.2 MQ.2.2).2] := rfl
      rw [e0]
      simp only [go_sem, k62, kb248, kw153, kb150, k172, k169, k130, kw252o, ks249, k127, kw115, cBR_eq, mB_ptr, mbP_some, stepC_mbQ, hA, hA2, i1, i3, p6, p7, p8, p9, q6, q7, q8, q9, k1, k2, k3, k4, k5, k6, hm1, hm2, hm3, hq1, hq2, hq3, forall_eq, imp_false, Nat.not_lt]
      have hof : ∀ v, updB B a.toNat v b.toNat = B b.toNat := fun v => updB_off hne
      simp only [hof]
      have iop : ∀ v : V2, inR v.1.1 → inR v.2.1 → inR (vOpp v).1.1 ∧ inR (vOpp v).2.1 := fun v w1 w2 => ⟨of_eq_true (iNeg w1), of_eq_true (iNeg w2)⟩
      refine ⟨fun w => absurd w (by simp), fun _ => ⟨(iop _ (of_eq_true iVAdd1) (of_eq_true iVAdd2)).1, (iop _ (of_eq_true iVAdd1) (of_eq_true iVAdd2)).2, fun w => ?_, fun w => ?_⟩⟩
      · rw [if_pos (show (solS (mxS MA MQ 3).1 (mxS MA MQ 3).2.1 (mxS MA MQ 3).2.1 (mxS MA MQ 3).2.2 _).1 = true from w)]
        first | exact ⟨i3, rfl⟩ | rfl
      · rw [if_neg (show ¬ (solS (mxS MA MQ 3).1 (mxS MA MQ 3).2.1 (mxS MA MQ 3).2.1 (mxS MA MQ 3).2.2 _).1 = true from fun w2 => by rw [show (solS (mxS MA MQ 3).1 (mxS MA MQ 3).2.1 (mxS MA MQ 3).2.1 (mxS MA MQ 3).2.2 _).1 = false from w] at w2; cases w2)]
    | i + 4, hi => exact absurd hi (by omega)
  · cases hF
end Go.Ax
end

section
/-
  One iteration of a joint.
-/
set_option linter.unusedVariables false
set_option linter.unusedSimpArgs false
set_option maxHeartbeats 4000000
set_option maxRecDepth 100000
namespace Go.Ax
open Go.Proofs
def bndT (N : Nat) (B : Nat → Bd) (k a b : Int) (pa pb : V2) (ln dt : Nb) : Nat → Bd :=
  if cjS N k a b pa pb ln = 0 ∧ 0 < whV dt.1 then
    (if k = 1 then grbT B a.toNat pa pb (nDiv (nRat 1 5) dt) else if k = 2 then rodT B a.toNat b.toNat pa pb ln (nDiv (nRat 1 5) dt) else pinT B a.toNat b.toNat pa pb (nDiv (nRat 1 5) dt)) else B
theorem cj_ok {N : Nat} {k a b : Int} {pa pb : V2} {ln : Nb} (h : cjS N k a b pa pb ln = 0) : (k = 1 ∨ k = 2 ∨ k = 3) ∧ 0 ≤ a ∧ a < N ∧ (k ≠ 1 → 0 ≤ b ∧ b < N ∧ a ≠ b) := by
  unfold cjS at h
  split at h
  · omega
  · split at h
    · omega
    · omega
theorem whV_0 : whV 0 = 0 := by decide
theorem cmpS_le {x : Int} : (cmpS x 0 ≤ 0) = (x ≤ 0) := by
  unfold cmpS
  apply propext
  (repeat' split) <;> omega
def bndF : Nat → (Nat → List AV) → List AV → Option (List Prop × AV × (Nat → List AV))
  | N, get, [.agg [.v (.int .i64 k), .v (.int .i64 a), .v (.int .i64 b), .v (.int .i64 x), .v (.bool e), .v (.int .i64 y), .v (.bool f), .v (.int .i64 z), .v (.bool g), .v (.int .i64 u), .v (.bool h), .v (.int .i64 l), .v (.bool m)], .agg [.v (.int .i64 r), .v (.bool q)]] => some ([get = bsC (bsD get), inBs N (bsD get), N ≤ 1000, inR x, inR y, inR z, inR u, inR l, inR r], .tup [], bsC (bndT N (bsD get) k a b ((x, e), (y, f)) ((z, g), (u, h)) (l, m) (r, q)))
  | _, _, _ => none
def mBnd : MCon := mcT 27 151 155 bndF
theorem con136m : MConOK Tryz.prog 136 mBnd := MConOK.mcT (G := [(51, kj51), (131, c131), (194, .wr mGrb), (195, .wr mRod), (196, .wr mPin), (132, k132), (155, k168)]) (H := [(3, ⟨[(9, .call)], []⟩)]) (.cons konj51 (.cons con131 (.mcons con194m (.mcons con195m (.mcons con196m (.cons kon132 (.cons kon168 .nil))))))) Tryz.func136 fun N get rest ob val get' hF hob hcl => by
  unfold bndF at hF
  split at hF
  · rename_i k a b x e y f z g u h l m r q
    cases hF
    have h1 : get = bsC (bsD get) := hob _ (by simp)
    have hB : inBs N (bsD get) := hob _ (by simp)
    have hN : N ≤ 1000 := hob _ (by simp)
    have k1 : inR x := hob _ (by simp)
    have k2 : inR y := hob _ (by simp)
    have k3 : inR z := hob _ (by simp)
    have k4 : inR u := hob _ (by simp)
    have k5 : inR l := hob _ (by simp)
    have k6 : inR r := hob _ (by simp)
    clear hob
    generalize bsD get = B at *
    subst h1
    refine ⟨by simp [clean], rfl, fun i _ => rfl, by kernel_rfl, bodyM_go (rs := []) rfl rfl ?_⟩
    have hNi : inR (N : Int) := by unfold inR; omega
    by_cases h1 : k = 1
    · subst h1
      simp only [go_sem, kj51, c131, k132, k168, mGrb, grbF, mRod, rodF, mPin, pinF, hN, hNi, hB, k1, k2, k3, k4, k5, k6, cmpS_le, whV_0]
      simp only [forall_eq]
      refine ⟨fun w => ?_, fun w => ?_⟩
      · have e1 : bndT N B 1 a b ((x, e), (y, f)) ((z, g), (u, h)) (l, m) (r, q) = B := if_neg fun c => by
          rcases w with w | w
          · rw [c.1] at w; simp at w
          · have w := cmpS_le.mp w
            have c2 : 0 < whV r := c.2
            omega
        rw [e1]
      · have hc : cjS N 1 a b ((x, e), (y, f)) ((z, g), (u, h)) (l, m) = 0 := by simpa using w.1
        have hp : 0 < whV r := by
          have w2 := w.2
          rw [cmpS_le] at w2
          omega
        have e1 : bndT N B 1 a b ((x, e), (y, f)) ((z, g), (u, h)) (l, m) (r, q) = _ := if_pos ⟨hc, hp⟩
        rw [if_pos rfl] at e1
        obtain ⟨_, j1, j2, j3⟩ := cj_ok hc
        rw [e1]
        exact ⟨by unfold inR; omega, j1, j2, rfl⟩
    by_cases h2 : k = 2
    · subst h2
      simp only [go_sem, kj51, c131, k132, k168, mGrb, grbF, mRod, rodF, mPin, pinF, hN, hNi, hB, k1, k2, k3, k4, k5, k6, cmpS_le, whV_0]
      simp only [forall_eq]
      refine ⟨fun w => ?_, fun w => ?_⟩
      · have e1 : bndT N B 2 a b ((x, e), (y, f)) ((z, g), (u, h)) (l, m) (r, q) = B := if_neg fun c => by
          rcases w with w | w
          · rw [c.1] at w; simp at w
          · have w := cmpS_le.mp w
            have c2 : 0 < whV r := c.2
            omega
        rw [e1]
      · have hc : cjS N 2 a b ((x, e), (y, f)) ((z, g), (u, h)) (l, m) = 0 := by simpa using w.1
        have hp : 0 < whV r := by
          have w2 := w.2
          rw [cmpS_le] at w2
          omega
        have e1 : bndT N B 2 a b ((x, e), (y, f)) ((z, g), (u, h)) (l, m) (r, q) = _ := if_pos ⟨hc, hp⟩
        rw [if_neg (by omega), if_pos rfl] at e1
        obtain ⟨_, j1, j2, j3⟩ := cj_ok hc
        obtain ⟨j4, j5, j6⟩ := j3 (by omega)
        rw [e1]
        exact ⟨by unfold inR; omega, j1, j2, j4, j5, j6, rfl⟩
    by_cases h3 : k = 3
    · subst h3
      simp only [go_sem, kj51, c131, k132, k168, mGrb, grbF, mRod, rodF, mPin, pinF, hN, hNi, hB, k1, k2, k3, k4, k5, k6, cmpS_le, whV_0]
      simp only [forall_eq]
      refine ⟨fun w => ?_, fun w => ?_⟩
      · have e1 : bndT N B 3 a b ((x, e), (y, f)) ((z, g), (u, h)) (l, m) (r, q) = B := if_neg fun c => by
          rcases w with w | w
          · rw [c.1] at w; simp at w
          · have w := cmpS_le.mp w
            have c2 : 0 < whV r := c.2
            omega
        rw [e1]
      · have hc : cjS N 3 a b ((x, e), (y, f)) ((z, g), (u, h)) (l, m) = 0 := by simpa using w.1
        have hp : 0 < whV r := by
          have w2 := w.2
          rw [cmpS_le] at w2
          omega
        have e1 : bndT N B 3 a b ((x, e), (y, f)) ((z, g), (u, h)) (l, m) (r, q) = _ := if_pos ⟨hc, hp⟩
        rw [if_neg (by omega), if_neg (by omega)] at e1
        obtain ⟨_, j1, j2, j3⟩ := cj_ok hc
        obtain ⟨j4, j5, j6⟩ := j3 (by omega)
        rw [e1]
        exact ⟨by unfold inR; omega, j1, j2, j4, j5, j6, rfl⟩
    have hc : cjS N k a b ((x, e), (y, f)) ((z, g), (u, h)) (l, m) ≠ 0 := fun c => by
      have := (cj_ok c).1
      omega
    have e1 : bndT N B k a b ((x, e), (y, f)) ((z, g), (u, h)) (l, m) (r, q) = B := if_neg fun c => hc c.1
    simp only [go_sem, kj51, c131, k132, k168, mGrb, grbF, mRod, rodF, mPin, pinF, hN, hNi, hB, k1, k2, k3, k4, k5, k6, cmpS_le, whV_0]
    rw [e1]
    intro w hw z2 hz2
    exact ⟨fun _ => rfl, fun w2 => absurd (hw ▸ w2.1) (by simpa using hc)⟩
  · cases hF
end Go.Ax
end

section
/-
  One iteration of a joint, by the program and by the reference.
-/
set_option linter.unusedVariables false
set_option linter.unusedSimpArgs false
set_option maxHeartbeats 4000000
set_option maxRecDepth 100000
namespace Go.Ax
open Go.Proofs
def kBnd : Con := cL fun N B rest => match rest with
  | [.agg [.v (.int .i64 k), .v (.int .i64 a), .v (.int .i64 b), .v (.int .i64 x), .v (.bool e), .v (.int .i64 y), .v (.bool f), .v (.int .i64 z), .v (.bool g), .v (.int .i64 u), .v (.bool h), .v (.int .i64 l), .v (.bool m)], .agg [.v (.int .i64 r), .v (.bool q)]] => some ([N ≤ 1000, inBs N B, inR x, inR y, inR z, inR u, inR l, inR r], .ro N 27 (bsC (bndT N B k a b ((x, e), (y, f)) ((z, g), (u, h)) (l, m) (r, q))))
  | _ => none
theorem con49 : ConOK Tryz.prog 49 kBnd := ConOK.cL (G := [(73, .wr mNlay), (136, .wr mBnd), (75, .wr mNtel)]) (H := []) (.mcons con73m (.mcons con136m (.mcons con75m .nil))) Tryz.func49 fun N B rest ob rr hc hob => by
  split at hc
  · rename_i k a b x e y f z g u h l m r q
    cases hc
    have hN : N ≤ 1000 := hob _ (by simp)
    have hB : inBs N B := hob _ (by simp)
    have k1 : inR x := hob _ (by simp)
    have k2 : inR y := hob _ (by simp)
    have k3 : inR z := hob _ (by simp)
    have k4 : inR u := hob _ (by simp)
    have k5 : inR l := hob _ (by simp)
    have k6 : inR r := hob _ (by simp)
    clear hob
    have hNi : inR (N : Int) := by unfold inR; omega
    refine ⟨by kernel_rfl, fnVC_go (rs := [.tmp 6]) rfl rfl ?_⟩
    simp only [go_sem, mBnd, bndF, hN, hB, k1, k2, k3, k4, k5, k6]
    rfl
  · cases hc
theorem con50 : ConOK Tryz.prog 50 kBnd := ConOK.cL (G := [(76, .wr mNbs), (52, kj52), (137, kw137), (83, kw83b), (80, k144), (138, k68), (139, kb139), (32, k181), (85, k147), (33, kb33), (140, ks140), (38, kb38), (141, k140), (71, kb71), (79, k208), (142, k47), (81, k46), (27, k52), (34, k145), (92, k111), (93, .wr mPai), (86, k138), (143, k50)]) (H := [(4, ⟨[(4, .made 3)], []⟩), (9, ⟨[(11, .made 10)], []⟩), (12, ⟨[(8, .slot 0)], []⟩), (16, ⟨[(12, .made 10), (13, .made 11)], []⟩), (19, ⟨[(10, .made 9)], []⟩), (22, ⟨[(8, .made 7)], []⟩), (23, ⟨[(16, .call)], []⟩), (25, ⟨[(8, .made 6), (9, .made 7)], []⟩), (29, ⟨[(9, .slot 22)], []⟩), (30, ⟨[(7, .made 6)], []⟩), (31, ⟨[(20, .made 19)], []⟩), (33, ⟨[(10, .slot 0)], []⟩), (34, ⟨[(8, .slot 0)], []⟩)]) (.mcons con76m (.cons konj52 (.cons konw137 (.cons konw83b (.cons kon144 (.cons kon68 (.cons konb139 (.cons kon181 (.cons kon147 (.cons konb33 (.cons kons140 (.cons konb38 (.cons kon140 (.cons konb71 (.cons kon208 (.cons kon47 (.cons kon46 (.cons kon52 (.cons kon145 (.cons kon111 (.mcons con93m (.cons kon138 (.cons kon50 .nil))))))))))))))))))))))) Tryz.func50 fun N B rest ob rr hc hob => by
  split at hc
  · rename_i k a b x e y f z g u h l m r q
    cases hc
    have hN : N ≤ 1000 := hob _ (by simp)
    have hB : inBs N B := hob _ (by simp)
    have k1 : inR x := hob _ (by simp)
    have k2 : inR y := hob _ (by simp)
    have k3 : inR z := hob _ (by simp)
    have k4 : inR u := hob _ (by simp)
    have k5 : inR l := hob _ (by simp)
    have k6 : inR r := hob _ (by simp)
    clear hob
    have hNi : inR (N : Int) := by unfold inR; omega
    refine ⟨by kernel_rfl, fnVC_go (rs := [.tmp 6]) rfl rfl ?_⟩
    by_cases hcj : cjS N k a b ((x, e), (y, f)) ((z, g), (u, h)) (l, m) = 0 ∧ 0 < whV r
    · obtain ⟨jk, a1, a2, jj⟩ := cj_ok hcj.1
      have hA : a.toNat < N := by omega
      obtain ⟨i1, i2⟩ := hB a.toNat hA
      obtain ⟨p1, p2, p3, p4, p5, p6, p7, p8, p9, p10, p11, p12, p13, p14, p15, p16⟩ := id i1
      have hc1 := hcj.1
      have hc2 : ¬ whV r ≤ 0 := by omega
      have hjE : bndT N B k a b ((x, e), (y, f)) ((z, g), (u, h)) (l, m) (r, q) = (if k = 1 then grbT B a.toNat ((x, e), (y, f)) ((z, g), (u, h)) (nDiv (nRat 1 5) (r, q)) else if k = 2 then rodT B a.toNat b.toNat ((x, e), (y, f)) ((z, g), (u, h)) (l, m) (nDiv (nRat 1 5) (r, q)) else pinT B a.toNat b.toNat ((x, e), (y, f)) ((z, g), (u, h)) (nDiv (nRat 1 5) (r, q))) := if_pos hcj
      rcases jk with h1 | h1 | h1 <;> subst h1
      · rw [if_pos rfl] at hjE
        simp only [go_sem, kj52, kw137, kw83b, k144, k68, kb139, k181, k147, kb33, ks140, kb38, k140, kb71, k208, k47, k46, k52, k145, k111, k138, k50, cB_eq, hN, hNi, hB, k1, k2, k3, k4, k5, k6, Int.reduceBEq, hc1, hc2, hA, a1, a2, i1, i2, p6, p7, p8, p9, true_imp_iff, reduceCtorEq, false_imp_iff, implies_true, and_true, hjE]
        simp only [forall_eq]
        refine ⟨fun w => absurd w (by simp; omega), fun _ => ⟨of_eq_true iMa1, of_eq_true iMa2, of_eq_true iMa2, of_eq_true iMa3, fun w => ?_, fun w => ?_⟩⟩
        · have e1 : grbT B a.toNat ((x, e), (y, f)) ((z, g), (u, h)) (nDiv (nRat 1 5) (r, q)) = _ := if_pos w
          rw [e1]
          rfl
        · have e1 : grbT B a.toNat ((x, e), (y, f)) ((z, g), (u, h)) (nDiv (nRat 1 5) (r, q)) = B := if_neg (fun k => by rw [show (grbI _ _ _ _).1 = false from w] at k; cases k)
          rw [e1]
          rfl
      · rw [if_neg (by omega), if_pos rfl] at hjE
        obtain ⟨a3, a4, a5⟩ := jj (by omega)
        have hA2 : b.toNat < N := by omega
        have hne : ¬ b.toNat = a.toNat := by omega
        obtain ⟨i3, i4⟩ := hB b.toNat hA2
        obtain ⟨q1, q2, q3, q4, q5, q6, q7, q8, q9, q10, q11, q12, q13, q14, q15, q16⟩ := id i3
        simp only [go_sem, kj52, kw137, kw83b, k144, k68, kb139, k181, k147, kb33, ks140, kb38, k140, kb71, k208, k47, k46, k52, k145, k111, k138, k50, cB_eq, hN, hNi, hB, k1, k2, k3, k4, k5, k6, Int.reduceBEq, hc1, hc2, hA, a1, a2, i1, i2, p6, p7, p8, p9, true_imp_iff, reduceCtorEq, false_imp_iff, implies_true, and_true, hjE, hA2, a3, a4, a5, i3, i4, q6, q7, q8, q9, mPai, paiF, bsD_C, inBs]
        simp only [forall_eq]
        refine ⟨hB, fun w => absurd w (by simp; omega), fun _ => ⟨fun w => ?_, fun w => ⟨by omega, hB, ?_⟩⟩⟩
        · have e1 : rodT B a.toNat b.toNat ((x, e), (y, f)) ((z, g), (u, h)) (l, m) (nDiv (nRat 1 5) (r, q)) = B := if_neg fun k => by
            rcases w with w | w
            · have w : (rodN (B a.toNat) (B b.toNat) ((x, e), (y, f)) ((z, g), (u, h))).1 = false := w
              rw [k.1] at w; cases w
            · exact k.2 (beq_iff_eq.1 w)
          rw [e1]
          rfl
        · have e1 : rodT B a.toNat b.toNat ((x, e), (y, f)) ((z, g), (u, h)) (l, m) (nDiv (nRat 1 5) (r, q)) = _ := if_pos ⟨w.1, beq_eq_false_iff_ne.1 w.2⟩
          rw [e1]
          rfl
      · rw [if_neg (by omega), if_neg (by omega)] at hjE
        obtain ⟨a3, a4, a5⟩ := jj (by omega)
        have hA2 : b.toNat < N := by omega
        have hne : ¬ b.toNat = a.toNat := by omega
        obtain ⟨i3, i4⟩ := hB b.toNat hA2
        obtain ⟨q1, q2, q3, q4, q5, q6, q7, q8, q9, q10, q11, q12, q13, q14, q15, q16⟩ := id i3
        simp only [go_sem, kj52, kw137, kw83b, k144, k68, kb139, k181, k147, kb33, ks140, kb38, k140, kb71, k208, k47, k46, k52, k145, k111, k138, k50, cB_eq, hN, hNi, hB, k1, k2, k3, k4, k5, k6, Int.reduceBEq, hc1, hc2, hA, a1, a2, i1, i2, p6, p7, p8, p9, true_imp_iff, reduceCtorEq, false_imp_iff, implies_true, and_true, hjE, hA2, a3, a4, a5, i3, i4, q6, q7, q8, q9]
        simp only [forall_eq]
        refine ⟨fun w => absurd w (by simp; omega), fun _ => ?_⟩
        have hm1 : inR (matS (B a.toNat) (toS (B a.toNat) ((x, e), (y, f)))).1.1 := of_eq_true iMa1
        have hm2 : inR (matS (B a.toNat) (toS (B a.toNat) ((x, e), (y, f)))).2.1.1 := of_eq_true iMa2
        have hm3 : inR (matS (B a.toNat) (toS (B a.toNat) ((x, e), (y, f)))).2.2.1 := of_eq_true iMa3
        have hq1 : inR (matS (B b.toNat) (toS (B b.toNat) ((z, g), (u, h)))).1.1 := of_eq_true iMa1
        have hq2 : inR (matS (B b.toNat) (toS (B b.toNat) ((z, g), (u, h)))).2.1.1 := of_eq_true iMa2
        have hq3 : inR (matS (B b.toNat) (toS (B b.toNat) ((z, g), (u, h)))).2.2.1 := of_eq_true iMa3
        unfold pinT pinI pinM pinU
        generalize matS (B a.toNat) (toS (B a.toNat) ((x, e), (y, f))) = MA at *
        generalize matS (B b.toNat) (toS (B b.toNat) ((z, g), (u, h))) = MQ at *
        refine loopC_go (fun (i : Nat) => i ≤ 3) (fun i => 3 - i) (fun i => [(24, i64 (i : Int))]) (fun i => [(75, fam1 164 6 (mxC (mxS MA MQ i)) none)]) [76, 63, 62, 50, 43, 33, 26, 19, 4, 1, 0] [169, 170, 173, 174, 175, 176, 177, 178, 179, 180, 181, 171, 172, 24] 0 (by kernel_rfl) ?_ (Nat.zero_le _) ?_ ?_
        · intro i _; simp [goodNames, asg]
        · simp only [go_sem]
          exact fitL_clean rfl
        intro i hi
        match i, hi with
        | 0, hi =>
          have e0 : mxC (mxS MA MQ 0) = [i64 MA.1.1, bo MA.1.2, i64 MA.2.1.1, bo MA.2.1.2, i64 MA.2.2.1, bo MA.2.2.2] := rfl
          rw [e0]
          simp only [go_sem, kj52, kw137, kw83b, k144, k68, kb139, k181, k147, kb33, ks140, kb38, k140, kb71, k208, k47, k46, k52, k145, k111, k138, k50, cB_eq, hN, hNi, hB, k1, k2, k3, k4, k5, k6, hA, hA2, a1, a2, a3, a4, a5, i1, i2, i3, i4, p6, p7, p8, p9, q6, q7, q8, q9, hm1, hm2, hm3, hq1, hq2, hq3, forall_eq, imp_false, Nat.not_lt]
          exact ⟨fun _ => ⟨1, by omega, by omega, by decide, fitL_clean rfl⟩, fun w => by cases w⟩
        | 1, hi =>
          have e0 : mxC (mxS MA MQ 1) = [i64 (nAdd MA.1 MQ.1).1, bo (nAdd MA.1 MQ.1).2, i64 MA.2.1.1, bo MA.2.1.2, i64 MA.2.2.1, bo MA.2.2.2] := rfl
          rw [e0]
          simp only [go_sem, kj52, kw137, kw83b, k144, k68, kb139, k181, k147, kb33, ks140, kb38, k140, kb71, k208, k47, k46, k52, k145, k111, k138, k50, cB_eq, hN, hNi, hB, k1, k2, k3, k4, k5, k6, hA, hA2, a1, a2, a3, a4, a5, i1, i2, i3, i4, p6, p7, p8, p9, q6, q7, q8, q9, hm1, hm2, hm3, hq1, hq2, hq3, forall_eq, imp_false, Nat.not_lt]
          exact ⟨fun _ => ⟨2, by omega, by omega, by decide, fitL_clean rfl⟩, fun w => by cases w⟩
        | 2, hi =>
          have e0 : mxC (mxS MA MQ 2) = [i64 (nAdd MA.1 MQ.1).1, bo (nAdd MA.1 MQ.1).2, i64 (nAdd MA.2.1 MQ.2.1).1, bo (nAdd MA.2.1 MQ.2.1).2, i64 MA.2.2.1, bo MA.2.2.2] := rfl
          rw [e0]
          simp only [go_sem, kj52, kw137, kw83b, k144, k68, kb139, k181, k147, kb33, ks140, kb38, k140, kb71, k208, k47, k46, k52, k145, k111, k138, k50, cB_eq, hN, hNi, hB, k1, k2, k3, k4, k5, k6, hA, hA2, a1, a2, a3, a4, a5, i1, i2, i3, i4, p6, p7, p8, p9, q6, q7, q8, q9, hm1, hm2, hm3, hq1, hq2, hq3, forall_eq, imp_false, Nat.not_lt]
          exact ⟨fun _ => ⟨3, by omega, by omega, by decide, fitL_clean rfl⟩, fun w => by cases w⟩
        | 3, hi =>
          have e0 : mxC (mxS MA MQ 3) = [i64 (nAdd MA.1 MQ.1).1, bo (nAdd MA.1 MQ.1).2, i64 (nAdd MA.2.1 MQ.2.1).1, bo (nAdd MA.2.1 MQ.2.1).2, i64 (nAdd MA.2.2 MQ.2.2).1, bo (nAdd MA.2.2 MQ.2.2).2] := rfl
          rw [e0]
          have hof : ∀ v, updB B a.toNat v b.toNat = B b.toNat := fun v => updB_off hne
          have hbu : ∀ u v, inB u → u.n ≤ 1000 → inB v → v.n ≤ 1000 → inBs N (updB (updB B a.toNat u) b.toNat v) := fun u v h1 h2 h3 h4 => inBs_upd hB h1 h2 h3 h4
          simp only [go_sem, kj52, kw137, kw83b, k144, k68, kb139, k181, k147, kb33, ks140, kb38, k140, kb71, k208, k47, k46, k52, k145, k111, k138, k50, cB_eq, hN, hNi, hB, k1, k2, k3, k4, k5, k6, hA, hA2, a1, a2, a3, a4, a5, i1, i2, i3, i4, p6, p7, p8, p9, q6, q7, q8, q9, hm1, hm2, hm3, hq1, hq2, hq3, forall_eq, imp_false, Nat.not_lt, hof, hB, mPai, paiF, bsD_C, hbu]
          have iop : ∀ v : V2, inR v.1.1 → inR v.2.1 → inR (vOpp v).1.1 ∧ inR (vOpp v).2.1 := fun v w1 w2 => ⟨of_eq_true (iNeg w1), of_eq_true (iNeg w2)⟩
          refine ⟨fun w => absurd w (by simp), fun _ => ⟨fun w => ?_, fun w => ?_⟩⟩
          · exact congrArg (fun T => AV.ro N 27 (bsC T)) (if_pos w).symm
          · exact congrArg (fun T => AV.ro N 27 (bsC T)) (if_neg (fun w2 => Bool.noConfusion (w2.symm.trans w))).symm
        | i + 4, hi => exact absurd hi (by omega)
    · have hjE : bndT N B k a b ((x, e), (y, f)) ((z, g), (u, h)) (l, m) (r, q) = B := if_neg hcj
      simp only [go_sem, kj52, kw137, kw83b, k144, k68, kb139, k181, k147, kb33, ks140, kb38, k140, kb71, k208, k47, k46, k52, k145, k111, k138, k50, cB_eq, hN, hNi, hB, k1, k2, k3, k4, k5, k6, hjE]
      intro v hv w hw
      refine ⟨fun _ => trivial, fun _ => rfl, fun c => absurd ?_ hcj⟩
      obtain ⟨c1, c2⟩ := c
      exact ⟨hv ▸ (by simpa using c1), hw ▸ (by omega)⟩
  · cases hc
end Go.Ax
end

section
/-
  One iteration of a joint keeps the bodies in their ranges.
-/
set_option linter.unusedVariables false
set_option linter.unusedSimpArgs false
set_option maxHeartbeats 4000000
set_option maxRecDepth 100000
namespace Go.Ax
open Go.Proofs
theorem inBs_upd1 {N : Nat} {B : Nat → Bd} {i : Nat} {u : Bd} (h : inBs N B) (hu : inB u) (hu2 : u.n ≤ 1000) : inBs N (updB B i u) := fun k hk => by
  unfold updB
  split
  · exact ⟨hu, hu2⟩
  · exact h k hk
theorem bnd_in {N : Nat} {B : Nat → Bd} {k a b : Int} {pa pb : V2} {ln dt : Nb} (h : inBs N B) : inBs N (bndT N B k a b pa pb ln dt) := by
  unfold bndT
  split
  · rename_i hc
    obtain ⟨jk, a1, a2, jj⟩ := cj_ok hc.1
    obtain ⟨i1, i2⟩ := h a.toNat (by omega)
    split
    · unfold grbT
      split
      · exact inBs_upd1 h (inB_psh i1) (by rw [psh_n]; exact i2)
      · exact h
    rename_i hk
    obtain ⟨b1, b2, b3⟩ := jj hk
    obtain ⟨i3, i4⟩ := h b.toNat (by omega)
    split
    · unfold rodT apaA apaB
      split
      · exact inBs_upd h (inB_psh i1) (by rw [psh_n]; exact i2) (inB_psh i3) (by rw [psh_n]; exact i4)
      · exact h
    · unfold pinT
      split
      · exact inBs_upd h (inB_psh i1) (by rw [psh_n]; exact i2) (inB_psh i3) (by rw [psh_n]; exact i4)
      · exact h
  · exact h
end Go.Ax
end

section
/-
  Lists of contacts and of joints.
-/
set_option linter.unusedVariables false
set_option linter.unusedSimpArgs false
set_option maxHeartbeats 4000000
set_option maxRecDepth 100000
namespace Go.Ax
open Go.Proofs
/-- Lists of contacts. -/
def csC (C : Nat → Ct) : Nat → List AV := fun i => contC (C i)
def csD (g : Nat → List AV) : Nat → Ct := fun i => contD (g i)
theorem csD_C {C : Nat → Ct} : csD (csC C) = C := rfl
theorem csC_at {C : Nat → Ct} {i : Nat} : csC C i = contC (C i) := (rfl)
attribute [go_sem] csD_C csC_at
def inCs (M : Nat) (C : Nat → Ct) : Prop := ∀ i, i < M → inC (C i) ∧ (C i).n ≤ 1000
theorem byt32 : bytesT Tryz.prog 32 = 136 := by kernel_rfl
def kCs : Con
  | [.ro M 15 g] => some ([g = csC (csD g), M ≤ 1000, inCs M (csD g)], .ro M 15 (csC (csD g)))
  | _ => none
theorem con57 : ConOK Tryz.prog 57 kCs := ConOK.of (G := [(17, kCon)]) (H := []) (.cons con17 .nil) Tryz.func57 fun l ob r hc hob => by
  unfold kCs at hc
  split at hc
  · rename_i M g
    cases hc
    have e : g = csC (csD g) := hob _ (by simp)
    have hM : M ≤ 1000 := hob _ (by simp)
    have hC : inCs M (csD g) := hob _ (by simp)
    clear hob
    generalize csD g = C at *
    subst e
    refine ⟨by kernel_rfl, fnVC_go (rs := [.tmp 2]) rfl rfl ?_⟩
    simp only [go_sem, kCon]
    refine loopN_go (fun (i : Nat) => i ≤ M) (fun i => M - i) (fun i => [(4, i64 (i : Int)), (3, .own 3 0 i 15)]) (fun i => [(3, famN i 15 32 (csC C) none)]) [] [5, 6, 7, 8, 11, 12, 13, 14, 15, 16, 17, 18, 3, 9, 10, 4] 1 0 (by kernel_rfl) (Nat.zero_le _) ⟨[(3, none)], ?_, ?_, ?_, ?_⟩ ?_
    · simp only [go_sem]
    · simp only [go_sem]
    · simp only [go_sem]
    · simp [goodNames, asg]
    intro i hi
    by_cases hiM : i < M
    · obtain ⟨i1, i2⟩ := hC i hiM
      simp only [go_sem, kCon, i1, i2, byt32, forall_eq]
      refine ⟨fun h => ⟨by omega, h, by omega, by omega, i + 1, by omega, by omega, [(3, some 15)], ?_⟩, fun h => absurd hiM (by omega)⟩
      simp only [go_sem]
      refine ⟨by rw [wrap_in (by unfold inR; omega)]; rfl, fun j hj => ?_, by simp [goodNames, asg]⟩
      by_cases e : j < i
      · rw [if_pos e]; exact fitL_clean rfl
      · have e : j = i := by omega
        subst e
        rw [if_neg (by omega), Nat.sub_self]
        exact fitL_clean rfl
    · simp only [go_sem, kCon, byt32, forall_eq]
      refine ⟨fun h => absurd h (by omega), fun _ => ?_⟩
      have e : i = M := by omega
      subst e
      rfl
  · cases hc
def kSaCs : Con
  | [.ro M 15 g, b] => some ([g = csC (csD g), M ≤ 1000, inCs M (csD g), b = .ro M 15 (csC (csD g))], bo true)
  | _ => none
theorem con60 : ConOK Tryz.prog 60 kSaCs := ConOK.of (G := [(21, kSaC)]) (H := []) (.cons con21 .nil) Tryz.func60 fun l ob r hc hob => by
  unfold kSaCs at hc
  split at hc
  · rename_i M g b
    cases hc
    have e : g = csC (csD g) := hob _ (by simp)
    have hM : M ≤ 1000 := hob _ (by simp)
    have hC : inCs M (csD g) := hob _ (by simp)
    have hb : b = .ro M 15 (csC (csD g)) := hob _ (by simp)
    clear hob
    generalize csD g = C at *
    subst e hb
    refine ⟨by kernel_rfl, fnVC_go (rs := [.tmp 4]) rfl rfl ?_⟩
    simp only [go_sem, kSaC]
    refine ⟨fun h => by simp at h, fun h => ?_⟩
    refine loopC_go (fun (i : Nat) => i ≤ M) (fun i => M - i) (fun i => [(5, i64 (i : Int))]) (fun _ => []) [] [11, 12, 13, 14, 17, 18, 19, 20, 21, 22, 23, 24, 25, 26, 4, 15, 16, 5] 0 (by kernel_rfl) ?_ (Nat.zero_le _) ?_ ?_
    · intro x _; simp [goodNames, asg]
    · simp only [go_sem]
    intro i hi
    by_cases hiM : i < M
    · obtain ⟨i1, i2⟩ := hC i hiM
      simp only [go_sem, kSaC, kSaC, i1, i2, forall_eq]
      exact ⟨fun h => ⟨by omega, h, by omega, h, by simp, fun _ => ⟨i + 1, by omega, by omega, by rw [wrap_in (by unfold inR; omega)]; rfl⟩⟩, fun _ => trivial⟩
    · simp only [go_sem, kSaC, forall_eq]
      exact ⟨fun h => absurd h (by omega), fun _ => trivial⟩
  · cases hc
theorem con76 : ConOK Tryz.prog 76 kBs := ConOK.cL (G := [(116, kb116)]) (H := []) (.cons konb116 .nil) Tryz.func76 fun N B rest ob r hc hob => by
  split at hc
  · cases hc
    have hN : N ≤ 1000 := hob _ (by simp)
    have hB : inBs N B := hob _ (by simp)
    clear hob
    refine ⟨by kernel_rfl, fnVC_go (rs := [.tmp 2]) rfl rfl ?_⟩
    simp only [go_sem, kb116]
    refine loopN_go (fun (i : Nat) => i ≤ N) (fun i => N - i) (fun i => [(4, i64 (i : Int)), (3, .own 3 0 i 27)]) (fun i => [(3, famN i 27 57 (bsC B) none)]) [] [5, 6, 7, 8, 11, 12, 13, 14, 15, 16, 17, 18, 3, 9, 10, 4] 1 0 (by kernel_rfl) (Nat.zero_le _) ⟨[(3, none)], ?_, ?_, ?_, ?_⟩ ?_
    · simp only [go_sem]
    · simp only [go_sem]
    · simp only [go_sem]
    · simp [goodNames, asg]
    intro i hi
    by_cases hiN : i < N
    · obtain ⟨i1, i2⟩ := hB i hiN
      simp only [go_sem, kb116, cB_eq, i1, i2, byt57, forall_eq]
      refine ⟨fun h => ⟨by omega, h, by omega, by omega, i + 1, by omega, by omega, [(3, some 15)], ?_⟩, fun h => absurd hiN (by omega)⟩
      simp only [go_sem]
      refine ⟨by rw [wrap_in (by unfold inR; omega)]; rfl, fun j hj => ?_, by simp [goodNames, asg]⟩
      by_cases e : j < i
      · rw [if_pos e]; exact fitL_clean rfl
      · have e : j = i := by omega
        subst e
        rw [if_neg (by omega), Nat.sub_self]
        exact fitL_clean rfl
    · simp only [go_sem, kb116, cB_eq, byt57, forall_eq]
      refine ⟨fun h => absurd h (by omega), fun _ => ?_⟩
      have e : i = N := by omega
      subst e
      rfl
  · cases hc
end Go.Ax
end

section
/-
  Lists of joints; rounds.
-/
set_option linter.unusedVariables false
set_option linter.unusedSimpArgs false
set_option maxHeartbeats 4000000
set_option maxRecDepth 100000
namespace Go.Ax
open Go.Proofs
/-- A joint. -/
structure Jt where
  k : Int
  a : Int
  b : Int
  x : Int
  e : Bool
  y : Int
  f : Bool
  z : Int
  g : Bool
  u : Int
  h : Bool
  l : Int
  m : Bool
def jtC (j : Jt) : List AV := [i64 j.k, i64 j.a, i64 j.b, i64 j.x, bo j.e, i64 j.y, bo j.f, i64 j.z, bo j.g, i64 j.u, bo j.h, i64 j.l, bo j.m]
def jtD (l : List AV) : Jt := ⟨gi l 0, gi l 1, gi l 2, gi l 3, gib l 4, gi l 5, gib l 6, gi l 7, gib l 8, gi l 9, gib l 10, gi l 11, gib l 12⟩
def jsC (J : Nat → Jt) : Nat → List AV := fun i => jtC (J i)
def jsD (g : Nat → List AV) : Nat → Jt := fun i => jtD (g i)
theorem jsD_C {J : Nat → Jt} : jsD (jsC J) = J := rfl
theorem jsC_at {J : Nat → Jt} {i : Nat} : jsC J i = jtC (J i) := (rfl)
def inJ (j : Jt) : Prop := inR j.x ∧ inR j.y ∧ inR j.z ∧ inR j.u ∧ inR j.l
def inJs (L : Nat) (J : Nat → Jt) : Prop := ∀ i, i < L → inJ (J i)
attribute [go_sem] jsD_C
def bndJ (N : Nat) (B : Nat → Bd) (j : Jt) (dt : Nb) : Nat → Bd := bndT N B j.k j.a j.b ((j.x, j.e), (j.y, j.f)) ((j.z, j.g), (j.u, j.h)) (j.l, j.m) dt
def bndL (N : Nat) (J : Nat → Jt) (dt : Nb) (B : Nat → Bd) : Nat → (Nat → Bd)
  | 0 => B
  | i + 1 => bndJ N (bndL N J dt B i) (J i) dt
def updC (C : Nat → Ct) (i : Nat) (c : Ct) : Nat → Ct := fun j => if j = i then c else C j
structure Sv where
  B : Nat → Bd
  C : Nat → Ct
def hitL (N : Nat) (s : Sv) : Nat → Sv
  | 0 => s
  | i + 1 => ⟨hitT N (hitL N s i).B ((hitL N s i).C i), updC (hitL N s i).C i (hitC N (hitL N s i).B ((hitL N s i).C i))⟩
def rndS (N M L : Nat) (J : Nat → Jt) (dt : Nb) (s : Sv) : Nat → Sv
  | 0 => s
  | i + 1 => hitL N ⟨bndL N J dt (rndS N M L J dt s i).B L, (rndS N M L J dt s i).C⟩ M
def parL (N : Nat) (C : Nat → Ct) (B : Nat → Bd) : Nat → (Nat → Bd)
  | 0 => B
  | i + 1 => parT N (parL N C B i) (C i)
def rdN (r : Int) : Nat := (max 0 (min r 16)).toNat
def solT (N M L : Nat) (B : Nat → Bd) (C : Nat → Ct) (J : Nat → Jt) (r : Int) (dt : Nb) : Sv := ⟨parL N (rndS N M L J dt ⟨B, C⟩ (rdN r)).C (rndS N M L J dt ⟨B, C⟩ (rdN r)).B M, (rndS N M L J dt ⟨B, C⟩ (rdN r)).C⟩
theorem bndL_in {N : Nat} {J : Nat → Jt} {dt : Nb} {B : Nat → Bd} (h : inBs N B) : ∀ i, inBs N (bndL N J dt B i)
  | 0 => h
  | i + 1 => bnd_in (bndL_in h i)
theorem inCs_upd {M : Nat} {C : Nat → Ct} {i : Nat} {c : Ct} (h : inCs M C) (hc : inC c) (hn : c.n ≤ 1000) : inCs M (updC C i c) := fun k hk => by
  unfold updC
  split
  · exact ⟨hc, hn⟩
  · exact h k hk
theorem hitL_in {N M : Nat} {s : Sv} (h : inBs N s.B) (hc : inCs M s.C) : ∀ i, i ≤ M → inBs N (hitL N s i).B ∧ inCs M (hitL N s i).C
  | 0, _ => ⟨h, hc⟩
  | i + 1, hi => by
    obtain ⟨h1, h2⟩ := hitL_in h hc i (by omega)
    obtain ⟨k1, k2⟩ := h2 i (by omega)
    exact ⟨hitT_in h1 k1, inCs_upd h2 (hitC_in h1 k1) (by rw [hitC_n]; exact k2)⟩
theorem rndS_in {N M L : Nat} {J : Nat → Jt} {dt : Nb} {s : Sv} (h : inBs N s.B) (hc : inCs M s.C) : ∀ i, inBs N (rndS N M L J dt s i).B ∧ inCs M (rndS N M L J dt s i).C
  | 0 => ⟨h, hc⟩
  | i + 1 => by
    obtain ⟨h1, h2⟩ := rndS_in h hc i
    exact hitL_in (s := ⟨bndL N J dt (rndS N M L J dt s i).B L, (rndS N M L J dt s i).C⟩) (bndL_in h1 L) h2 M (Nat.le_refl M)
theorem parL_in {N : Nat} {C : Nat → Ct} {B : Nat → Bd} (h : inBs N B) : ∀ i, inBs N (parL N C B i)
  | 0 => h
  | i + 1 => par_in (parL_in h i)
theorem csC_upd {C : Nat → Ct} {i : Nat} {c : Ct} : (fun j => if j = i then contC c else csC C j) = csC (updC C i c) := funext fun j => by
  unfold csC updC
  split <;> rfl
theorem famN_updC {M : Nat} {C : Nat → Ct} {i : Nat} {c : Ct} : famN M 15 32 (fun j => if j = i then contC c else csC C j) none = famN M 15 32 (csC (updC C i c)) none := by rw [csC_upd]
theorem famN_updC2 {M : Nat} {C : Nat → Ct} {i : Nat} {c : Ct} : famN M 15 32 (fun j => if j = i then contC c else contC (C j)) none = famN M 15 32 (csC (updC C i c)) none := famN_updC
theorem famCl_cs {M : Nat} {C : Nat → Ct} : famCl (famN M 15 32 (csC C) none) = True := famCl_Nt fun _ _ => rfl
attribute [go_sem] famN_updC famN_updC2 famCl_cs
/-- Solve, of bodies, contacts and joints. -/
def kSol : Con
  | [.ro N 27 g, .ro M 15 c, .ro L 13 j, .v (.int .i64 r), .agg [.v (.int .i64 d), .v (.bool q)]] => some ([g = bsC (bsD g), c = csC (csD c), j = jsC (jsD j), N ≤ 1000, inBs N (bsD g), M ≤ 1000, inCs M (csD c), L ≤ 1000, inJs L (jsD j), inR r, inR d],
    .tup [.ro N 27 (bsC (solT N M L (bsD g) (csD c) (jsD j) r (d, q)).B), .ro M 15 (csC (solT N M L (bsD g) (csD c) (jsD j) r (d, q)).C)])
  | _ => none
end Go.Ax
end

section
/-
  Solve, by the program.
-/
set_option linter.unusedVariables false
set_option linter.unusedSimpArgs false
set_option maxHeartbeats 4000000
set_option maxRecDepth 100000
namespace Go.Ax
open Go.Proofs
def zCt : List AV := [i64 0, i64 0, i64 0, bo false, i64 0, bo false, .v (.slice none 0 0), i64 0, bo false, i64 0, bo false, i64 0, bo false, i64 0, bo false]
def gZ (C : Nat → Ct) (i : Nat) : Nat → List AV := fun j => if j < i then contC (C j) else zCt
theorem gZ_0 {C : Nat → Ct} {j : Nat} : gZ C 0 j = zCt := if_neg (Nat.not_lt_zero j)
theorem gZ_lt {C : Nat → Ct} {i j : Nat} (h : j < i) : gZ C i j = contC (C j) := if_pos h
theorem gZ_cl {C : Nat → Ct} {i j : Nat} : cleanCs (gZ C i j) = true := by
  unfold gZ
  split <;> rfl
theorem gZ_st {C : Nat → Ct} {i j : Nat} : (if j = i then contC (C i) ++ List.drop 15 (gZ C i i) else gZ C i j) = gZ C (i + 1) j := by
  by_cases h : j = i
  · subst h
    rw [if_pos rfl, gZ_lt (Nat.lt_succ_self j), show gZ C j j = zCt from if_neg (Nat.lt_irrefl j)]
    rfl
  · rw [if_neg h]
    unfold gZ
    by_cases h2 : j < i
    · rw [if_pos h2, if_pos (by omega)]
    · rw [if_neg h2, if_neg (by omega)]
theorem rdN_lt {r : Int} {k : Nat} : ((k : Int) < max 0 (min r 16)) = (k < rdN r) := by
  unfold rdN
  apply propext
  omega
theorem con58 : ConOK Tryz.prog 58 kSol := ConOK.of (G := [(73, .wr mNlay), (88, kCon), (136, .wr mBnd), (89, .wr mHit), (74, .wr mPar), (75, .wr mNtel)]) (H := []) (.mcons con73m (.cons con88 (.mcons con136m (.mcons con89m (.mcons con74m (.mcons con75m .nil)))))) Tryz.func58 fun l ob rr hc hob => by
  unfold kSol at hc
  split at hc
  · rename_i N g M c L j r d q
    cases hc
    have e1 : g = bsC (bsD g) := hob _ (by simp)
    have e2 : c = csC (csD c) := hob _ (by simp)
    have e3 : j = jsC (jsD j) := hob _ (by simp)
    have hN : N ≤ 1000 := hob _ (by simp)
    have hB : inBs N (bsD g) := hob _ (by simp)
    have hM : M ≤ 1000 := hob _ (by simp)
    have hC : inCs M (csD c) := hob _ (by simp)
    have hL : L ≤ 1000 := hob _ (by simp)
    have hJ : inJs L (jsD j) := hob _ (by simp)
    have hr : inR r := hob _ (by simp)
    have hd : inR d := hob _ (by simp)
    clear hob
    generalize bsD g = B at *
    generalize csD c = C at *
    generalize jsD j = J at *
    subst e1 e2 e3
    refine ⟨by kernel_rfl, fnVC_go (rs := [.tmp 10, .tmp 11]) rfl rfl ?_⟩
    simp only [go_sem, kCon, hN, hB]
    refine ⟨by omega, by omega, by rw [byt32]; omega, ?_⟩
    refine loopC_go (fun (i : Nat) => i ≤ M) (fun i => M - i) (fun i => [(28, i64 (i : Int))]) (fun i => [(8, famN M 15 32 (gZ C i) none)]) [4, 0] [29, 30, 31, 32, 15, 14, 33, 34, 35, 36, 37, 38, 28] 0 (by kernel_rfl) ?_ (Nat.zero_le _) ?_ ?_
    · intro i _; simp [goodNames, asg]
    · simp only [go_sem]
      exact fun j _ => by rw [gZ_0]; exact fitL_clean rfl
    intro i hi
    by_cases hiM : i < M
    · obtain ⟨i1, i2⟩ := hC i hiM
      simp only [go_sem, kCon, i1, i2, forall_eq]
      refine ⟨fun h => ⟨by omega, h, by omega, h, hiM, i + 1, by omega, by omega, by rw [wrap_in (by unfold inR; omega)]; rfl, fun j _ => ?_⟩, fun h => absurd hiM (by omega)⟩
      rw [gZ_st]
      exact fitL_clean gZ_cl
    · simp only [go_sem, kCon, forall_eq]
      refine ⟨fun h => absurd h (by omega), fun _ => ?_⟩
      have e : M = i := by omega
      subst e
      have hR16 : rdN r ≤ 16 := by unfold rdN; omega
      generalize hR : rdN r = R at *
      obtain ⟨S, hS⟩ : ∃ S : Nat → Sv, S = rndS N M L J (d, q) ⟨B, C⟩ := ⟨_, rfl⟩
      have s0 : S 0 = ⟨B, C⟩ := by rw [hS]; rfl
      have sI : ∀ k, inBs N (S k).B ∧ inCs M (S k).C := fun k => by rw [hS]; exact rndS_in (s := ⟨B, C⟩) hB hC k
      refine loopC_go (fun (k : Nat) => k ≤ R) (fun k => R - k) (fun k => [(42, i64 (k : Int))]) (fun k => [(4, famT 4 N 27 151 155 (bsC (S k).B)), (8, famN M 15 32 (csC (S k).C) none)]) [0] [43, 44, 45, 46, 47, 48, 49, 17, 50, 51, 52, 53, 54, 46, 55, 56, 57, 58, 59, 18, 60, 61, 62, 63, 64, 65, 57, 66, 42] 0 (by kernel_rfl) ?_ (Nat.zero_le _) ?_ ?_
      · intro i _; simp [goodNames, asg]
      · simp only [go_sem, s0]
        exact ⟨fitF_T (by omega) fun _ _ => rfl, fun j hj => by rw [gZ_lt hj]; exact fitL_clean rfl⟩
      intro k hk
      simp only [go_sem, kCon, forall_eq]
      have hkr : ((k : Int) < max 0 (min r 16)) ↔ k < R := by rw [← hR]; exact iff_of_eq rdN_lt
      have hSk := sI k
      refine ⟨fun hkR => ?_, fun hkR => ?_⟩ <;> rw [hkr] at hkR
      · obtain ⟨T, hT⟩ : ∃ T : Nat → Nat → Bd, T = bndL N J (d, q) (S k).B := ⟨_, rfl⟩
        have t0 : T 0 = (S k).B := by rw [hT]; rfl
        have tI : ∀ i, inBs N (T i) := fun i => by rw [hT]; exact bndL_in hSk.1 i
        refine loopC_go (fun (i : Nat) => i ≤ L) (fun i => L - i) (fun i => [(46, i64 (i : Int))]) (fun i => [(4, famT 4 N 27 151 155 (bsC (T i)))]) [8, 0] [47, 48, 49, 17, 50, 51, 52, 53, 54, 46] 0 (by kernel_rfl) ?_ (Nat.zero_le _) ?_ ?_
        · intro i _; simp [goodNames, asg]
        · simp only [go_sem, t0]
          exact fitF_T (by omega) fun _ _ => rfl
        intro i hi
        by_cases hiL : i < L
        · obtain ⟨j1, j2, j3, j4, j5⟩ := hJ i hiL
          simp only [go_sem, kCon, jsC_at, jtC, mBnd, bndF, hN, tI, j1, j2, j3, j4, j5, hd, forall_eq]
          refine ⟨fun h => ⟨by omega, h, i + 1, by omega, by omega, by rw [wrap_in (by unfold inR; omega)]; rfl, ?_⟩, fun h => absurd hiL (by omega)⟩
          have e : T (i + 1) = bndJ N (T i) (J i) (d, q) := by rw [hT]; rfl
          rw [e]
          exact fitF_T (by omega) fun _ _ => rfl
        simp only [go_sem, kCon, forall_eq]
        refine ⟨fun h => absurd h (by omega), fun _ => ?_⟩
        have e : L = i := by omega
        subst e
        obtain ⟨U, hU⟩ : ∃ U : Nat → Sv, U = hitL N ⟨T L, (S k).C⟩ := ⟨_, rfl⟩
        have u0 : U 0 = ⟨T L, (S k).C⟩ := by rw [hU]; rfl
        have uI : ∀ i, i ≤ M → inBs N (U i).B ∧ inCs M (U i).C := fun i hi => by rw [hU]; exact hitL_in (s := ⟨T L, (S k).C⟩) (tI L) hSk.2 i hi
        refine loopC_go (fun (i : Nat) => i ≤ M) (fun i => M - i) (fun i => [(57, i64 (i : Int))]) (fun i => [(4, famT 4 N 27 151 155 (bsC (U i).B)), (8, famN M 15 32 (csC (U i).C) none)]) [0] [58, 59, 18, 60, 61, 62, 63, 64, 65, 57] 0 (by kernel_rfl) ?_ (Nat.zero_le _) ?_ ?_
        · intro i _; simp [goodNames, asg]
        · simp only [go_sem, u0]
          exact ⟨fitF_T (by omega) fun _ _ => rfl, fun j hj => fitL_clean rfl⟩
        intro i hi
        by_cases hiM : i < M
        · obtain ⟨v1, v2⟩ := uI i hi
          obtain ⟨w1, w2⟩ := v2 i hiM
          simp only [go_sem, kCon, mHit, hitF, hN, v1, w1, w2, forall_eq]
          refine ⟨fun h => ⟨by omega, h, by decide, hiM, i + 1, by omega, by omega, by rw [wrap_in (by unfold inR; omega)]; rfl, ?_⟩, fun h => absurd hiM (by omega)⟩
          have e : U (i + 1) = ⟨hitT N (U i).B ((U i).C i), updC (U i).C i (hitC N (U i).B ((U i).C i))⟩ := by rw [hU]; rfl
          rw [e]
          exact ⟨fitF_T (by omega) fun _ _ => rfl, fun j hj => fitL_clean rfl⟩
        simp only [go_sem, kCon, forall_eq]
        refine ⟨fun h => absurd h (by omega), fun _ => ?_⟩
        have e : M = i := by omega
        subst e
        have e : S (k + 1) = U M := by rw [hU, hT, hS]; rfl
        refine ⟨k + 1, by omega, by omega, by rw [wrap_in (by unfold inR; omega)]; rfl, ?_⟩
        rw [e]
        exact ⟨fitF_T (by omega) fun _ _ => rfl, fun j hj => fitL_clean rfl⟩
      · have e : R = k := by omega
        subst e
        obtain ⟨V, hV⟩ : ∃ V : Nat → Nat → Bd, V = parL N (S R).C (S R).B := ⟨_, rfl⟩
        have v0 : V 0 = (S R).B := by rw [hV]; rfl
        have vI : ∀ i, inBs N (V i) := fun i => by rw [hV]; exact parL_in hSk.1 i
        refine loopC_go (fun (i : Nat) => i ≤ M) (fun i => M - i) (fun i => [(69, i64 (i : Int))]) (fun i => [(4, famT 4 N 27 151 155 (bsC (V i)))]) [8, 0] [70, 71, 72, 20, 73, 74, 75, 76, 69] 0 (by kernel_rfl) ?_ (Nat.zero_le _) ?_ ?_
        · intro i _; simp [goodNames, asg]
        · simp only [go_sem, v0]
          exact fitF_T (by omega) fun _ _ => rfl
        intro i hi
        by_cases hiM : i < M
        · obtain ⟨w1, w2⟩ := hSk.2 i hiM
          simp only [go_sem, kCon, mPar, parF, hN, vI, w1, w2, forall_eq]
          refine ⟨fun h => ⟨by omega, h, hiM, i + 1, by omega, by omega, by rw [wrap_in (by unfold inR; omega)]; rfl, ?_⟩, fun h => absurd hiM (by omega)⟩
          have e : V (i + 1) = parT N (V i) ((S R).C i) := by rw [hV]; rfl
          rw [e]
          exact fitF_T (by omega) fun _ _ => rfl
        simp only [go_sem, kCon, hN, forall_eq]
        refine ⟨fun h => absurd h (by omega), fun _ => ?_⟩
        have e : M = i := by omega
        subst e
        have e : solT N M L B C J r (d, q) = ⟨V M, (S R).C⟩ := by rw [hV, hS]; unfold solT; rw [hR]
        rw [e]
        rfl
  · cases hc
end Go.Ax
end

section
/-
  Solve, by the reference.
-/
set_option linter.unusedVariables false
set_option linter.unusedSimpArgs false
set_option maxHeartbeats 4000000
set_option maxRecDepth 100000
namespace Go.Ax
open Go.Proofs
theorem con59 : ConOK Tryz.prog 59 kSol := ConOK.of (G := [(76, kBs), (90, kCon), (50, kBnd), (23, kHit), (20, kPar)]) (H := []) (.cons con76 (.cons con90 (.cons con50 (.cons con23 (.cons con20 .nil))))) Tryz.func59 fun l ob rr hc hob => by
  unfold kSol at hc
  split at hc
  · rename_i N g M c L j r d q
    cases hc
    have e1 : g = bsC (bsD g) := hob _ (by simp)
    have e2 : c = csC (csD c) := hob _ (by simp)
    have e3 : j = jsC (jsD j) := hob _ (by simp)
    have hN : N ≤ 1000 := hob _ (by simp)
    have hB : inBs N (bsD g) := hob _ (by simp)
    have hM : M ≤ 1000 := hob _ (by simp)
    have hC : inCs M (csD c) := hob _ (by simp)
    have hL : L ≤ 1000 := hob _ (by simp)
    have hJ : inJs L (jsD j) := hob _ (by simp)
    have hr : inR r := hob _ (by simp)
    have hd : inR d := hob _ (by simp)
    clear hob
    generalize bsD g = B at *
    generalize csD c = C at *
    generalize jsD j = J at *
    subst e1 e2 e3
    refine ⟨by kernel_rfl, fnVC_go (rs := [.tmp 10, .tmp 11]) rfl rfl ?_⟩
    simp only [go_sem, kBs, kCon, kBnd, kHit, kPar, cL_eq, bsD_C, hN, hB]
    refine loopN_go (fun (i : Nat) => i ≤ M) (fun i => M - i) (fun i => [(13, i64 (i : Int)), (12, .own 8 0 i 15)]) (fun i => [(8, famN i 15 32 (csC C) none)]) [0] [20, 21, 22, 23, 26, 27, 28, 29, 30, 31, 32, 33, 12, 24, 25, 13] 1 0 (by kernel_rfl) (Nat.zero_le _) ⟨[(8, none)], ?_, ?_, ?_, ?_⟩ ?_
    · simp only [go_sem]
    · simp only [go_sem]
    · simp only [go_sem]
    · simp [goodNames, asg]
    intro i hi
    by_cases hiM : i < M
    · obtain ⟨i1, i2⟩ := hC i hiM
      simp only [go_sem, kBs, kCon, kBnd, kHit, kPar, i1, i2, byt32, forall_eq]
      refine ⟨fun h => ⟨by omega, h, by omega, by omega, i + 1, by omega, by omega, [(8, some 20)], ?_⟩, fun h => absurd hiM (by omega)⟩
      simp only [go_sem]
      refine ⟨by rw [wrap_in (by unfold inR; omega)]; rfl, fun j hj => ?_, by simp [goodNames, asg]⟩
      by_cases e : j < i
      · rw [if_pos e]; exact fitL_clean rfl
      · have e : j = i := by omega
        subst e
        rw [if_neg (by omega), Nat.sub_self]
        exact fitL_clean rfl
    simp only [go_sem, kBs, kCon, kBnd, kHit, kPar, forall_eq]
    refine ⟨fun h => absurd h (by omega), fun _ => ?_⟩
    have e : M = i := by omega
    subst e
    have hR16 : rdN r ≤ 16 := by unfold rdN; omega
    generalize hR : rdN r = R at *
    obtain ⟨S, hS⟩ : ∃ S : Nat → Sv, S = rndS N M L J (d, q) ⟨B, C⟩ := ⟨_, rfl⟩
    have s0 : S 0 = ⟨B, C⟩ := by rw [hS]; rfl
    have sI : ∀ k, inBs N (S k).B ∧ inCs M (S k).C := fun k => by rw [hS]; exact rndS_in (s := ⟨B, C⟩) hB hC k
    refine loopC_go (fun (k : Nat) => k ≤ R) (fun k => R - k) (fun k => [(14, i64 (k : Int)), (0, .ro N 27 (bsC (S k).B))]) (fun k => [(8, famN M 15 32 (csC (S k).C) none)]) [0] [34, 35, 36, 37, 38, 39, 40, 15, 43, 44, 45, 46, 49, 50, 51, 52, 53, 54, 55, 0, 47, 48, 15, 16, 56, 57, 58, 59, 63, 64, 65, 66, 67, 68, 69, 70, 62, 71, 72, 0, 73, 60, 61, 16, 41, 42, 14] 0 (by kernel_rfl) ?_ (Nat.zero_le _) ?_ ?_
    · intro i _; simp [goodNames, asg]
    · simp only [go_sem, s0]
      exact fun j hj => fitL_clean rfl
    intro k hk
    simp only [go_sem, kBs, kCon, kBnd, kHit, kPar, forall_eq]
    have hSk := sI k
    have hkr : ((k : Int) < r ∧ (k : Int) < 16) ↔ k < R := by rw [← hR]; unfold rdN; omega
    refine ⟨fun hkR => ?_, fun hkR => ?_⟩
    · rw [hkr] at hkR
      obtain ⟨T, hT⟩ : ∃ T : Nat → Nat → Bd, T = bndL N J (d, q) (S k).B := ⟨_, rfl⟩
      have t0 : T 0 = (S k).B := by rw [hT]; rfl
      have tI : ∀ i, inBs N (T i) := fun i => by rw [hT]; exact bndL_in hSk.1 i
      refine loopC_go (fun (i : Nat) => i ≤ L) (fun i => L - i) (fun i => [(15, i64 (i : Int)), (0, .ro N 27 (bsC (T i)))]) (fun i => []) [8, 0] [43, 44, 45, 46, 49, 50, 51, 52, 53, 54, 55, 0, 47, 48, 15] 0 (by kernel_rfl) ?_ (Nat.zero_le _) ?_ ?_
      · intro i _; simp [goodNames, asg]
      · simp only [go_sem, t0]
      intro i hi
      by_cases hiL : i < L
      · obtain ⟨j1, j2, j3, j4, j5⟩ := hJ i hiL
        simp only [go_sem, kBs, kCon, kBnd, kHit, kPar, cL_eq, bsD_C, jsC_at, jtC, hN, tI, j1, j2, j3, j4, j5, hd, forall_eq]
        have e : T (i + 1) = bndJ N (T i) (J i) (d, q) := by rw [hT]; rfl
        refine ⟨fun h => ⟨by omega, h, i + 1, by omega, by omega, by rw [wrap_in (by unfold inR; omega)]; rfl, by rw [e]; rfl⟩, fun h => absurd hiL (by omega)⟩
      simp only [go_sem, kBs, kCon, kBnd, kHit, kPar, forall_eq]
      refine ⟨fun h => absurd h (by omega), fun _ => ?_⟩
      have e : L = i := by omega
      subst e
      obtain ⟨U, hU⟩ : ∃ U : Nat → Sv, U = hitL N ⟨T L, (S k).C⟩ := ⟨_, rfl⟩
      have u0 : U 0 = ⟨T L, (S k).C⟩ := by rw [hU]; rfl
      have uI : ∀ i, i ≤ M → inBs N (U i).B ∧ inCs M (U i).C := fun i hi => by rw [hU]; exact hitL_in (s := ⟨T L, (S k).C⟩) (tI L) hSk.2 i hi
      refine loopC_go (fun (i : Nat) => i ≤ M) (fun i => M - i) (fun i => [(16, i64 (i : Int)), (0, .ro N 27 (bsC (U i).B))]) (fun i => [(8, famN M 15 32 (csC (U i).C) none)]) [0] [56, 57, 58, 59, 63, 64, 65, 66, 67, 68, 69, 70, 62, 71, 72, 0, 73, 60, 61, 16] 0 (by kernel_rfl) ?_ (Nat.zero_le _) ?_ ?_
      · intro i _; simp [goodNames, asg]
      · simp only [go_sem, u0]
        exact fun j hj => fitL_clean rfl
      intro i hi
      by_cases hiM : i < M
      · obtain ⟨v1, v2⟩ := uI i hi
        obtain ⟨w1, w2⟩ := v2 i hiM
        simp only [go_sem, kBs, kCon, kBnd, kHit, kPar, cL_eq, bsD_C, hN, v1, w1, w2, forall_eq]
        have e : U (i + 1) = ⟨hitT N (U i).B ((U i).C i), updC (U i).C i (hitC N (U i).B ((U i).C i))⟩ := by rw [hU]; rfl
        refine ⟨fun h => ⟨by omega, h, hiM, by omega, h, hiM, i + 1, by omega, by omega, ⟨by rw [wrap_in (by unfold inR; omega)]; rfl, by rw [e]⟩, ?_⟩, fun h => absurd hiM (by omega)⟩
        rw [e]
        exact fun j hj => fitL_clean rfl
      simp only [go_sem, kBs, kCon, kBnd, kHit, kPar, forall_eq]
      refine ⟨fun h => absurd h (by omega), fun _ => ?_⟩
      have e : M = i := by omega
      subst e
      have e : S (k + 1) = U M := by rw [hU, hT, hS]; rfl
      refine ⟨k + 1, by omega, by omega, ⟨by rw [wrap_in (by unfold inR; omega)]; rfl, by rw [e]⟩, ?_⟩
      rw [e]
      exact fun j hj => fitL_clean rfl
    · have hkR : ¬ k < R := fun h => by
        rw [← hkr] at h
        have hkR2 : (decide ((k : Int) < r) && decide ((k : Int) < 16)) = false := hkR
        rw [decide_eq_true h.1, decide_eq_true h.2] at hkR2
        cases hkR2
      have e : R = k := by omega
      subst e
      obtain ⟨V, hV⟩ : ∃ V : Nat → Nat → Bd, V = parL N (S R).C (S R).B := ⟨_, rfl⟩
      have v0 : V 0 = (S R).B := by rw [hV]; rfl
      have vI : ∀ i, inBs N (V i) := fun i => by rw [hV]; exact parL_in hSk.1 i
      refine loopC_go (fun (i : Nat) => i ≤ M) (fun i => M - i) (fun i => [(17, i64 (i : Int)), (0, .ro N 27 (bsC (V i)))]) (fun i => []) [8, 0] [74, 75, 76, 77, 80, 81, 82, 83, 84, 85, 0, 78, 79, 17] 0 (by kernel_rfl) ?_ (Nat.zero_le _) ?_ ?_
      · intro i _; simp [goodNames, asg]
      · simp only [go_sem, v0]
      intro i hi
      by_cases hiM : i < M
      · obtain ⟨w1, w2⟩ := hSk.2 i hiM
        simp only [go_sem, kBs, kCon, kBnd, kHit, kPar, cL_eq, bsD_C, hN, vI, w1, w2, forall_eq]
        have e : V (i + 1) = parT N (V i) ((S R).C i) := by rw [hV]; rfl
        refine ⟨fun h => ⟨by omega, h, hiM, i + 1, by omega, by omega, by rw [wrap_in (by unfold inR; omega)]; rfl, by rw [e]⟩, fun h => absurd hiM (by omega)⟩
      simp only [go_sem, kBs, kCon, kBnd, kHit, kPar, hN, forall_eq]
      refine ⟨fun h => absurd h (by omega), fun _ => ?_⟩
      have e : M = i := by omega
      subst e
      have e : solT N M L B C J r (d, q) = ⟨V M, (S R).C⟩ := by rw [hV, hS]; unfold solT; rw [hR]
      rw [e]
      rfl
  · cases hc
end Go.Ax
end
