/-
  The law of the lowest free slot.
-/
import Derived.Test.YtfpgjkeelegdpaaGreatCM9
import Derived.Test.YtfpgjkeelegdpaaGreatRows
import Derived.WalkKit
import Derived.ProofKit
section
set_option linter.unusedVariables false
set_option linter.unusedSimpArgs false
set_option maxHeartbeats 4000000
set_option maxRecDepth 100000
namespace Go.Ax
open Go.Proofs
theorem vc6 {most : Int} {k : Nat} {X : Nat → Int} (hm : inR most) (hX : ∀ i, inR (X i)) : fnVC Tryz.prog [(15, c15), (34, .wr mN34), (35, .wr mN35W), (36, c36), (37, k37), (38, c38), (39, k39), (40, .wr m40), (41, c41)] [] Tryz.f6 [i64 most, .ro k 1 fun i => [i64 (X i)]] (· = bo true) := by
  refine fnVC_go (rs := [.tmp 4]) rfl rfl ?_
  simp only [go_sem, c15, c36, k37, c38, k39, m40, c41, hm]
  refine ⟨fun _ _ => trivial, fun hk z hz => ⟨by omega, hX, fun h => (by rw [hz] at h; cases h), fun _ => ?_⟩⟩
  have hn := tdN_in (most := most)
  have hI := tdAt_I (X := X) hn k (by omega)
  have hT := tdAt_tl (n := tdN most) (X := X) k
  generalize tdAt (tdN most) X k = t at hI hT ⊢
  generalize tdN most = n at hn hI hT
  obtain ⟨⟨x, N, G, tl⟩, live, given⟩ := t
  have hN : n = N := hI.sn.symm
  subst hN
  have hx0 : 0 ≤ x ∧ x < 18446744073709551616 := hI.x0
  have hTL : tlOK (famR [⟨live.length, 2, 64, lsF live, none⟩, ⟨given.length, 2, 64, lsF given, none⟩] noRows) := of_eq_true (tlOK_td (t := ⟨⟨x, n, G, tl⟩, live, given⟩))
  have hO : ∀ TL : Fam, slOK ⟨x, n, G, TL⟩ := fun TL => hI.slOK
  have hG : ∀ i, i < n → 0 ≤ G i ∧ G i ≤ k := hI.gen
  have hhi : ∀ j, n ≤ j → x.toNat.testBit j = false := hI.hi
  clear hI hT
  dsimp only
  generalize famR [⟨live.length, 2, 64, lsF live, none⟩, ⟨given.length, 2, 64, lsF given, none⟩] noRows = TL at hTL ⊢
  have hn0 : 0 < n := by omega
  refine ⟨hx0.1, hx0.2, hn0, hn.2, ?_⟩
  simp only [forall_eq]
  rw [wrap_in (by unfold inR; omega)]
  have hA : ∀ h, h ∈ allL x n G n ↔ ∃ j : Nat, j < n ∧ x.toNat.testBit j = true ∧ h = ((j : Int), G j) := fun h => allL_mem (Nat.le_refl n)
  have hS := allL_sorted (x := x) (X := G) n (Nat.le_refl n)
  have hL := allL_len (x := x) (X := G) n (Nat.le_refl n)
  generalize allL x n G n = all at hA hS hL
  refine loopN_go (fun (p : Nat × Nat) => p.1 ≤ n ∧ n - p.1 ≤ p.2 ∧ p.2 ≤ n ∧ (p.2 < n → x.toNat.testBit p.2 = false) ∧ ∀ j, n - p.1 ≤ j → j < p.2 → x.toNat.testBit j = true) (fun p => n - p.1) (fun p => [(8, i64 ((n : Int) - 1 - p.1)), (7, i64 p.2)]) (fun p => []) [14, 7, 6] [35, 36, 40, 41, 42, 43, 39, 44, 45, 9, 10, 46, 47, 48, 7, 49, 50, 51, 52, 53, 54, 55, 56, 4, 37, 38, 8] 0 (0, n) (by kernel_rfl) ⟨Nat.zero_le _, by show n - 0 ≤ n; omega, Nat.le_refl n, fun h => absurd h (Nat.lt_irrefl n), fun j h1 h2 => by have h1 : n - 0 ≤ j := h1; omega⟩ ⟨[], ?_, ?_, ?_, ?_⟩ ?_
  · simp only [go_sem]; simp
  · simp only [go_sem]
  · simp only [go_sem]
  · simp [goodNames, asg]
  rintro ⟨i, f⟩ ⟨q1, q2, q3, q4, q5⟩
  dsimp only at q1 q2 q3 q4 q5
  simp only [go_sem, c36, c41, k37, k39, m40, hx0, hn0, hn, F37]
  have hlsall : lP all.length (gxP fun i => lsF all i) = all := lP_ls
  rw [hlsall]
  have hall : all.length ≤ 64 := by rw [hL]; exact Nat.le_trans (cntB_le n) hn.2
  refine ⟨fun h1 z1 k1 => ?_, fun h1 => ?_⟩
  · have e : (n : Int) - 1 - i = ((n - 1 - i : Nat) : Int) := by omega
    have hlt : n - 1 - i < n := by omega
    have hni : n - (i + 1) = n - 1 - i := by omega
    rw [e] at k1 ⊢
    rw [atOk_nat hlt] at k1 ⊢
    rw [Int.toNat_natCast]
    have hw : IntKind.i64.wrap (((n - 1 - i : Nat) : Int) - 1) = (n : Int) - 1 - (i + 1 : Nat) := by rw [wrap_in (by unfold inR; omega)]; omega
    rw [hw]
    refine ⟨fun hf zb kb => ⟨by omega, fun _ _ => trivial, fun hc => (by rw [hf] at hc; cases hc.2), fun _ z kz => ⟨(i + 1, n - 1 - i), ⟨?_, ?_, ?_, fun _ => ?_, fun j h2 h3 => ?_⟩, ?_, [], ⟨kz, rfl⟩, by simp [goodNames, asg]⟩⟩, fun ht zb kb => ⟨by omega, fun _ _ => trivial, fun hc => ?_, fun _ z kz => ⟨(i + 1, f), ⟨?_, ?_, q3, q4, fun j h2 h3 => ?_⟩, ?_, [], ⟨kz, rfl⟩, by simp [goodNames, asg]⟩⟩⟩
    · show i + 1 ≤ n; omega
    · show n - (i + 1) ≤ n - 1 - i; omega
    · show n - 1 - i ≤ n; omega
    · show x.toNat.testBit (n - 1 - i) = false
      rw [← k1]; exact hf
    · have h2 : n - (i + 1) ≤ j := h2
      have h3 : j < n - 1 - i := h3
      omega
    · show n - (i + 1) < n - i; omega
    · rw [ht] at k1
      rw [← k1] at kb
      simp only [if_true] at kb
      have : zb = true := by rw [kb]; exact decide_eq_true ((hA _).2 ⟨n - 1 - i, hlt, k1.symm, rfl⟩)
      rw [this, ht] at hc
      cases hc.1
    · show i + 1 ≤ n; omega
    · show n - (i + 1) ≤ f; omega
    · have h2 : n - (i + 1) ≤ j := h2
      have h3 : j < f := h3
      by_cases ej : j = n - 1 - i
      · rw [ej, ← k1, ht]
      · exact q5 j (by omega) h3
    · show n - (i + 1) < n - i; omega
  have ei : i = n := by omega
  subst ei
  have hff : ∀ j, j < f → x.toNat.testBit j = true := fun j hj => q5 j (by omega) hj
  refine loopN_go (fun (j : Nat) => 1 ≤ j ∧ (j ≤ all.length ∨ j = 1)) (fun j => all.length - j) (fun j => [(11, i64 j)]) (fun j => []) [14, 7, 6] [57, 58, 59, 60, 63, 64, 65, 66, 67, 68, 69, 70, 71, 72, 73, 74, 4, 61, 62, 11] 0 1 (by kernel_rfl) ⟨Nat.le_refl 1, .inr rfl⟩ ⟨[], ?_, ?_, ?_, ?_⟩ ?_
  · simp only [go_sem, Int.cast_ofNat_Int]
  · simp only [go_sem]
  · simp only [go_sem]
  · simp [goodNames, asg]
  rintro j ⟨j1, j2⟩
  simp only [go_sem, c36, c41, k37, k39, m40, hx0, hn0, hn, F39, F40, lsF_at, hTL, hO]
  refine ⟨fun h2 => ⟨by omega, h2, by omega, fun z2 k2 => ?_⟩, fun h2 => ?_⟩
  · have e2 : z2 = ((j - 1 : Nat) : Int) := by rw [k2, wrap_in (by unfold inR; omega)]; omega
    subst e2
    rw [Int.toNat_natCast]
    have hp := List.pairwise_iff_getElem.1 hS (j - 1) j (by omega) (by omega) (by omega)
    have g1 : all.getD j (0, 0) = all[j]'(by omega) := by rw [List.getD_eq_getElem?_getD, List.getElem?_eq_getElem (by omega)]; rfl
    have g2 : all.getD (j - 1) (0, 0) = all[j - 1]'(by omega) := by rw [List.getD_eq_getElem?_getD, List.getElem?_eq_getElem (by omega)]; rfl
    rw [g1, g2]
    exact ⟨by omega, by omega, by omega, fun h => by omega, fun _ z kz => ⟨j + 1, ⟨by omega, .inl (by omega)⟩, by omega, [], by rw [kz, wrap_in (by unfold inR; omega)]; omega, by simp [goodNames, asg]⟩⟩
  · have hI : tkI ⟨x, i, G, TL⟩ = f := by
      have hm : ∀ j, j < i → mayT x G j = !x.toNat.testBit j := fun j hj => mayT_gen (by have := hG j hj; omega)
      unfold tkI
      by_cases hfi : f < i
      · exact lst_eq (fun j hj => by rw [hm j (by omega), hff j hj]; rfl) hfi (by rw [hm f hfi, q4 hfi]; rfl)
      · have : f = i := by omega
        rw [this]
        refine lst_full fun j hj => ?_
        have hj : j < i := hj
        rw [hm j hj, hff j (by omega)]; rfl
    have hn' : (tkS ⟨x, i, G, TL⟩).n = i := by unfold tkS; split <;> rfl
    intro z2 k2 z3 k3
    refine ⟨tkS_tl _ hTL, fun z4 k4 => ?_⟩
    rw [hn'] at k4 ⊢
    subst k4
    by_cases hfi : f < i
    · have hfd := q4 hfi
      have hS' : tkS ⟨x, i, G, TL⟩ = ⟨setX x (f : Nat), i, upI G f (G f + 1), TL⟩ := by
        have : tkI ⟨x, i, G, TL⟩ < i := by rw [hI]; exact hfi
        unfold tkS; rw [if_pos this, hI]
      have hH' : tkH ⟨x, i, G, TL⟩ = ((f : Int), G f + 1) := by
        have : tkI ⟨x, i, G, TL⟩ < i := by rw [hI]; exact hfi
        unfold tkH; rw [if_pos this, hI]
      have hE' : tkE ⟨x, i, G, TL⟩ = 0 := by
        have : tkI ⟨x, i, G, TL⟩ < i := by rw [hI]; exact hfi
        unfold tkE; rw [if_pos this]
      rw [hE'] at k3
      rw [if_pos ⟨by omega, by omega⟩] at k2
      subst k3 k2
      rw [hS', hH']
      dsimp only
      have hGf := hG f hfi
      rw [wrap_in (x := G f + 1) (by unfold inR; omega), wrap_in (x := (all.length : Int) + 1) (by unfold inR; omega)]
      have hx1 : 0 ≤ setX x (f : Nat) ∧ setX x (f : Nat) < 18446744073709551616 := by
        unfold setX
        have := setN_lt (a := x.toNat) (k := f) (by omega) (by omega)
        rw [Int.toNat_natCast]; omega
      have hcnt : cntB (setX x (f : Nat)).toNat.testBit 64 = all.length + 1 := by
        have e1 : cntB x.toNat.testBit 64 = cntB x.toNat.testBit i := cntB_up hhi 64 hn.2
        rw [hL, ← e1]
        exact cntB_add1 (by omega) hfd (by rw [setX_bit, decide_eq_true rfl, Bool.or_true]) fun j hj => by rw [setX_bit, decide_eq_false hj, Bool.or_false]
      refine ⟨fun h => ?_, fun _ z5 k5 z6 k6 => ⟨fun _ => hx1.1, fun _ => hx1.2, fun _ => hn0, fun z7 k7 z8 k8 => ?_⟩⟩
      · have : (f : Int) = i := by simpa using h
        omega
      · subst k5 k6 k7 k8
        rw [hcnt]
        simp
    · have hfi : f = i := by omega
      have hni : ¬ tkI ⟨x, i, G, TL⟩ < i := by rw [hI]; omega
      have hH' : tkH ⟨x, i, G, TL⟩ = (0, 0) := by unfold tkH; rw [if_neg hni]
      have hE' : tkE ⟨x, i, G, TL⟩ = 10 := by unfold tkE; rw [if_neg hni]
      rw [hE'] at k3
      subst k3
      rw [hH', hfi]
      refine ⟨fun _ z5 k5 => ⟨⟨rfl, rfl, rfl⟩, k5⟩, fun h => ?_⟩
      simp at h
end Go.Ax
end

section
/-
  What is proved: for every input bagatellelaw04.IndexLeast returns true, and the input reads ars it did. No further condition.
-/
namespace Go.Proofs.YtfpgjkeelegdpaaGreat.indexLeastDone
open Go.ChangeShapes Go.WideShapes Go.ChangeAt Go.RowKit Go.Ax
set_option linter.unusedVariables false

theorem own : ownKnob Tryz.prog.godebug = none := by kernel_rfl

theorem ctx : CtxOK Tryz.prog [(15, c15), (34, .wr mN34), (35, .wr mN35W), (36, c36), (37, k37), (38, c38), (39, k39), (40, .wr m40), (41, c41)] :=
  (.cons con15 (.mcons mon34 (.mcons mon35W (.cons con36 (.cons con37 (.cons con38 (.cons con39 (.mcons mon40 (.cons con41 .nil)))))))))

set_option maxRecDepth 100000 in
theorem walk {w : World} {avs : List AV} {vs : List Value} (h : fitVs [.int .i64, .slice 1 [.int .i64]] avs) (hR : Rs w (.ext (All w)) avs vs) :
    Calls Tryz.prog 6 vs.toArray w fun e w' => e = .returned (.bool true) ∧ Below w.heap.size w w' := by
  obtain ⟨_, _, rfl, ⟨most, rfl, hmost⟩, _, _, rfl, ⟨k, get, rfl, hnk, hget⟩, rfl⟩ := h
  rw [(rowsI hget).1] at hR
  obtain ⟨_, k2⟩ := fn_sound ctx Tryz.func6 (by kernel_rfl) (vc6 (k := k) (wf_i64 hmost) (rowsI hget).2) (All w) w vs (fun _ h => h) hR
  refine k2.mono fun e w' ⟨v, he, ⟨r, hr, hv⟩, hb⟩ => ?_
  subst hr
  cases hv
  exact ⟨he, hb⟩

set_option maxRecDepth 100000 in
theorem lifted (os : Os) (started : os.Started) (H : Type) (enc : TypeId × Value → H) :
    ReturnsInHanded {} Tryz.checked os 6 .any (Rows.indexLeastSpec.pre6 enc Tryz.prog Tryz.f6 Rows.indexLeastRow.domain false) (Rows.indexLeastSpec.post enc Tryz.prog Tryz.f6 false true false false) := by
  refine returnsInHanded_of_change (C := Tryz.checked) own started (by kernel_rfl) Tryz.func6
    (ChangeSpec.witness6 (enc := enc) (C := Tryz.checked) false ⟨#[], #[.int .i64 0, .slice none 0 0], []⟩ 8 (by kernel_rfl) (by kernel_rfl) (by kernel_rfl) (by kernel_rfl)) ?_
  intro W base args ds gs before hval hW hcnd _
  have hW' := hW
  obtain ⟨p, q, hA, hV, rfl, hfz, hnd⟩ := hW
  obtain ⟨rfl, rfl⟩ := trodVars_none hV
  have hA' := hA
  rw [Tryz.params6] at hA hval
  obtain ⟨avs, w1, w2⟩ := args_read (P := Tryz.prog) (ss := [.int .i64, .slice 1 [.int .i64]]) (by kernel_rfl) (fun j t v hj hv => hval j t v (by simpa using hj) (by simpa using hv)) hA
  obtain ⟨v0, vs0, d0, ds0, p0, q0, hargs, rfl, rfl, h0, r0⟩ := trodAll_cons hA
  obtain ⟨v1, vs1, d1, ds1, p1, q1, rfl, rfl, rfl, h1, r1⟩ := trodAll_cons r0
  obtain ⟨rfl, rfl, rfl⟩ := trodAll_nil r1
  have hw := walk w1 w2
  rw [show args.toList.toArray = args by simp] at hw
  refine hw.mono fun e W' ⟨he, bel⟩ => ?_
  subst he
  obtain ⟨ps, hst⟩ := args_stay laidOut bel (by kernel_rfl) hA'
  exact ⟨_, rfl, _, _, _, [], _, [], hW', trodAll_mk1 (shut_bool Tryz.underlying4 _), hst, rfl, bel.frame _, fun h => by cases h⟩

theorem func : Tryz.pinned.checked.prog.funcNamed Rows.indexLeastRow.func = some 6 := by kernel_rfl
theorem four : ((Rows.indexLeastRow.inPlace == Tryz.prog.inPlace 6) = true) ∧ ((Rows.indexLeastRow.unfollowed == Tryz.prog.unfollowed 6) = true) ∧ ((Rows.indexLeastRow.recurses == Tryz.prog.recurses 6) = true) ∧ ((Rows.indexLeastRow.named == Tryz.prog.varsNamed 6) = true) := by
  have h : ((Rows.indexLeastRow.inPlace == Tryz.prog.inPlace 6) && ((Rows.indexLeastRow.unfollowed == Tryz.prog.unfollowed 6) && ((Rows.indexLeastRow.recurses == Tryz.prog.recurses 6) && (Rows.indexLeastRow.named == Tryz.prog.varsNamed 6)))) = true := by kernel_rfl
  simpa only [Bool.and_eq_true] using h
theorem facts : joinedFacts Tryz.prog 6 Tryz.f6 Rows.indexLeastSpec Rows.indexLeastRow = true :=
  andT (andT (andT (andT (andT (andT (andT (andT (andT (andT (andT (andT (andT (andT (andT (andT (andT (andT (andT (andT (andT (andT (andT (andT (andT (andT (andT (andT (andT (andT (andT (by kernel_rfl) laidOut) fRowed) (by kernel_rfl)) (by kernel_rfl)) (by kernel_rfl)) fStops) (by kernel_rfl)) fStopK) four.1) four.2.1) four.2.2.1) four.2.2.2) (by kernel_rfl)) (by kernel_rfl)) (by kernel_rfl)) (by kernel_rfl)) (by kernel_rfl)) (by kernel_rfl)) (by kernel_rfl)) (by kernel_rfl)) (by kernel_rfl)) fPlain) (by kernel_rfl)) fHeard) fMay) fLift) fMake) (by kernel_rfl)) (by kernel_rfl)) (by kernel_rfl)) (by kernel_rfl)
theorem over : Rows.indexLeastRow.holds Tryz.pinned (OpenSpec.ofChange Rows.indexLeastSpec) :=
  OpenClaim.holds_of_wide 6 Tryz.f6 rfl rfl rfl rfl rfl rfl rfl ⟨rfl, rfl, rfl, rfl, rfl⟩ rfl rfl rfl rfl rfl func Tryz.func6 facts
    (of_decide_eq_true (by kernel_rfl)) (by unfold Func.isWrapper; first | (rw [if_pos (by decide +kernel)]; kernel_rfl) | (rw [if_neg (by decide +kernel)]; exact ⟨rfl, rfl⟩))
    (fun os started H enc _ => lifted os started H enc)

theorem proved : Rows.IndexLeastSaid := over
#print axioms proved
end Go.Proofs.YtfpgjkeelegdpaaGreat.indexLeastDone
end
