/-
  The law of copies.
-/
import Derived.Test.YtfpgjkeelegdpaaGreatCM10
import Derived.Test.YtfpgjkeelegdpaaGreatRows
import Derived.WalkKit
import Derived.ProofKit
section
set_option linter.unusedVariables false
set_option linter.unusedSimpArgs false
set_option maxHeartbeats 4000000
set_option maxRecDepth 100000
namespace Go.Ax
open Go.Proofs
theorem vc7 {most : Int} {k m : Nat} {X Y : Nat → Int} (hm : inR most) (hX : ∀ i, inR (X i)) (hY : ∀ i, inR (Y i)) : fnVC Tryz.prog [(15, c15), (34, .wr mN34), (42, .wr mN42), (35, .wr mN35W), (36, c36), (43, c43), (40, .wr m40), (16, c16), (44, .wr m44), (41, c41)] [(7, ⟨[(18, .call)], []⟩), (15, ⟨[(14, .call)], []⟩)] Tryz.f7 [i64 most, .ro k 1 fun i => [i64 (X i)], .ro m 1 fun i => [i64 (Y i)]] (· = bo true) := by
  refine fnVC_go (rs := [.tmp 6]) rfl rfl ?_
  simp only [go_sem, hm]
  refine ⟨fun _ _ => trivial, fun hk z hz => ⟨by omega, hX, fun h => (by rw [hz] at h; cases h), fun _ => ?_⟩⟩
  have hn := tdN_in (most := most)
  have hI := tdAt_I (X := X) hn k (by omega)
  generalize tdAt (tdN most) X k = t at hI ⊢
  generalize tdN most = n at hn hI
  obtain ⟨⟨x, N, G, tl⟩, live, given⟩ := t
  have hN : n = N := hI.sn.symm
  subst hN
  have hx0 : 0 ≤ x ∧ x < 18446744073709551616 := hI.x0
  have hTL : tlOK (famR [⟨live.length, 2, 64, lsF live, none⟩, ⟨given.length, 2, 64, lsF given, none⟩] noRows) := of_eq_true (tlOK_td (t := ⟨⟨x, n, G, tl⟩, live, given⟩))
  have hO : ∀ TL : Fam, slOK ⟨x, n, G, TL⟩ := fun TL => hI.slOK
  have hG : ∀ i, i < n → 0 ≤ G i ∧ G i ≤ k := hI.gen
  have hhi : ∀ j, n ≤ j → x.toNat.testBit j = false := hI.hi
  have hl64 : live.length ≤ 64 := by
    have h1 : live.length = cntB x.toNat.testBit n := hI.cnt
    rw [h1]; exact Nat.le_trans (cntB_le n) hn.2
  have hn0 : 0 < n := by omega
  clear hI
  dsimp only
  have hA : ∀ h, h ∈ allL x n G n ↔ ∃ j : Nat, j < n ∧ x.toNat.testBit j = true ∧ h = ((j : Int), G j) := fun h => allL_mem (Nat.le_refl n)
  have hS := allL_sorted (x := x) (X := G) n (Nat.le_refl n)
  have hL := allL_len (x := x) (X := G) n (Nat.le_refl n)
  obtain ⟨all, hA0⟩ : ∃ all, allL x n G n = all := ⟨_, rfl⟩
  rw [hA0] at hS hL
  simp only [hA0] at hA
  have hlsall : lP all.length (gxP fun i => lsF all i) = all := lP_ls
  have hall : all.length ≤ 64 := by rw [hL]; exact Nat.le_trans (cntB_le n) hn.2
  simp only [go_sem, c36, hx0, hn0, hn, hTL, slF_eq, hA0]
  intro z1 k1 z2 k2
  subst k1 k2
  have e0 : ((n : Int) != n) = false := by simp
  refine ⟨fun _ => ⟨e0, fun z3 k3 => ⟨fun _ => trivial, fun _ => by omega, fun _ _ _ => trivial, fun _ _ _ => trivial, fun h => ?_, fun _ => ?_⟩⟩, fun h => ?_⟩
  · rw [e0, k3] at h
    simp at h
  · refine loopN_go (fun (p : Nat × Int × (Nat → Int)) => p.1 ≤ m ∧ slOK ⟨p.2.1, n, p.2.2, (famR [⟨live.length, 2, 64, lsF live, none⟩, ⟨given.length, 2, 64, lsF given, none⟩] noRows)⟩) (fun p => m - p.1) (fun p => [(10, i64 p.1)]) (fun p => [(11, famR [⟨1, 2, 100, fun _ => [u64 p.2.1, .own 11 1 n 1], none⟩, ⟨n, 1, 3, fun i => [i64 (p.2.2 i)], none⟩] (famR [⟨live.length, 2, 64, lsF live, none⟩, ⟨given.length, 2, 64, lsF given, none⟩] noRows))]) [22, 19, 12] [57, 58, 59, 60, 63, 64, 65, 66, 67, 68, 69, 70, 71, 72, 73, 74, 75, 76, 77, 78, 79, 80, 81, 82, 83, 84, 85, 86, 87, 88, 89, 90, 61, 62, 10] 0 (0, x, G) (by kernel_rfl) ⟨Nat.zero_le _, hO (famR [⟨live.length, 2, 64, lsF live, none⟩, ⟨given.length, 2, 64, lsF given, none⟩] noRows)⟩ ⟨[], ?_, ?_, ?_, ?_⟩ ?_
    · simp only [go_sem, Int.cast_ofNat_Int]
    · simp only [go_sem]
      exact fitF_sl (s := ⟨x, n, G, (famR [⟨live.length, 2, 64, lsF live, none⟩, ⟨given.length, 2, 64, lsF given, none⟩] noRows)⟩) (by decide) hTL
    · simp only [go_sem]
    · simp [goodNames, asg]
    rintro ⟨j, y, Gy⟩ ⟨hj, hsl⟩
    dsimp only at hj hsl
    obtain ⟨⟨hy0, hy1⟩, _, hy4⟩ := hsl
    have hlive : ∀ i, lsF live i = [i64 (live.getD i (0, 0)).1, i64 (live.getD i (0, 0)).2] := fun _ => rfl
    simp only [go_sem, c36, c41, c16, m40, m44, F40, F44, hx0, hn0, hn, hTL, slF_eq, hA0, hY, hlive]
    have hsl : slOK ⟨y, n, Gy, (famR [⟨live.length, 2, 64, lsF live, none⟩, ⟨given.length, 2, 64, lsF given, none⟩] noRows)⟩ := ⟨⟨hy0, hy1⟩, ⟨hn0, hn.2⟩, hy4⟩
    generalize hTLe : (famR [⟨live.length, 2, 64, lsF live, none⟩, ⟨given.length, 2, 64, lsF given, none⟩] noRows) = TL at hTL hsl hO ⊢
    have hstep : ∀ (s : SlS), s.n = n → s.tl = TL → slOK s → ∀ (z : Int) (w : Mem), j < m → z = IntKind.i64.wrap (j + 1) → look w 11 = some (famR [⟨1, 2, 100, fun _ => [u64 s.x, .own 11 1 s.n 1], none⟩, ⟨s.n, 1, 3, fun i => [i64 (s.G i)], none⟩] s.tl) →
        ∃ y1 : Nat × Int × (Nat → Int), (y1.1 ≤ m ∧ slOK ⟨y1.2.1, n, y1.2.2, TL⟩) ∧ m - y1.1 < m - j ∧ ∃ σ, z = (y1.1 : Int) ∧ fitRows 49 49 σ w [(11, famR [⟨1, 2, 100, fun _ => [u64 y1.2.1, .own 11 1 n 1], none⟩, ⟨n, 1, 3, fun i => [i64 (y1.2.2 i)], none⟩] TL)] ∧ goodNames 49 0 σ [(11, famR [⟨1, 2, 100, fun _ => [u64 y1.2.1, .own 11 1 n 1], none⟩, ⟨n, 1, 3, fun i => [i64 (y1.2.2 i)], none⟩] TL)] [22, 19, 12] := fun s e1 e2 e3 z w hjm hz hw => by
      refine ⟨(j + 1, s.x, s.G), ⟨by show j + 1 ≤ m; omega, ?_⟩, by show m - (j + 1) < m - j; omega, [], ?_, ?_, ?_⟩
      · have : (⟨s.x, n, s.G, TL⟩ : SlS) = s := by obtain ⟨_, _, _, _⟩ := s; subst e1 e2; rfl
        rw [this]; exact e3
      · rw [hz, wrap_in (by unfold inR; omega)]
        show (j : Int) + 1 = ((j + 1 : Nat) : Int)
        omega
      · rw [e1, e2] at hw
        simp only [fitRows_none, hw]
        exact ⟨fitF_sl (s := ⟨s.x, n, s.G, TL⟩) (by decide) hTL, trivial⟩
      · simp [goodNames, asg]
    refine ⟨fun hjm => ⟨by omega, hjm, fun q1 k1 => ⟨fun _ q2 k2 => ⟨by rw [tkS_t]; exact hTL, hsl, fun q3 k3 => hstep _ tkS_n tkS_t (slOK_tk hsl) _ _ (by omega) k3 rfl⟩, fun _ => ⟨fun hlp => ⟨by omega, hjm, fun q2 k2 => ?_⟩, fun _ q2 k2 => hstep ⟨y, n, Gy, TL⟩ rfl rfl hsl _ _ (by omega) k2 rfl⟩⟩⟩, fun hjm => ?_⟩
    · have hq := modS_in (n := Y j) (m := live.length) hlp
      rw [← k2] at hq
      exact ⟨hlp, by unfold inR; omega, hq.1, hq.2, by omega, fun q3 k3 => ⟨by rw [frS_t]; exact hTL, hsl, fun q4 k4 => hstep _ frS_n frS_t (slOK_fr hsl) _ _ (by omega) k4 rfl⟩⟩
    · have e64 : cntB x.toNat.testBit 64 = all.length := by rw [hL]; exact cntB_up hhi 64 hn.2
      refine fun q1 k1 => ⟨by omega, fun _ _ => trivial, fun _ _ => trivial, fun q2 k2 => ⟨fun _ => trivial, fun _ => trivial, fun _ => trivial, fun h => ?_, fun _ => ⟨hy0, hy1, ?_⟩⟩⟩
      · rw [k1, k2, e64] at h
        simp at h
      have hal2 : (allL y n Gy n).length ≤ 64 := Nat.le_trans (allL_le n) hn.2
      obtain ⟨aft, haft⟩ : ∃ aft, allL y n Gy n = aft := ⟨_, rfl⟩
      rw [haft] at hal2
      simp only [haft]
      refine loopN_go (fun (p : Nat × Int) => p.1 ≤ all.length ∧ slOK ⟨p.2, n, G, noRows⟩ ∧ (∀ j, n ≤ j → p.2.toNat.testBit j = false) ∧ ∀ j : Nat, j < n → (p.2.toNat.testBit j = true ↔ ∃ k, p.1 ≤ k ∧ k < all.length ∧ all.getD k (0, 0) = ((j : Int), G j))) (fun p => all.length - p.1) (fun p => [(12, i64 p.1)]) (fun p => [(19, famR [⟨1, 2, 100, fun _ => [u64 p.2, .own 19 1 n 1], none⟩, ⟨n, 1, 3, fun i => [i64 (G i)], none⟩] noRows)]) [67, 22, 12, 11] [106, 107, 108, 109, 112, 113, 114, 115, 116, 117, 118, 6, 110, 111, 12] 0 (0, x) (by kernel_rfl) ⟨Nat.zero_le _, hO noRows, hhi, fun j hj => ?_⟩ ⟨[], ?_, ?_, ?_, ?_⟩ ?_
      · have hm2 := hA ((j : Int), G j)
        constructor
        · intro hb
          obtain ⟨q, hq, hq2⟩ := List.mem_iff_getElem.1 (hm2.2 ⟨j, hj, hb, rfl⟩)
          exact ⟨q, Nat.zero_le _, hq, by rw [List.getD_eq_getElem?_getD, List.getElem?_eq_getElem hq, hq2]; rfl⟩
        · rintro ⟨q, _, hq, hq2⟩
          have : ((j : Int), G j) ∈ all := by
            rw [← hq2, List.getD_eq_getElem?_getD, List.getElem?_eq_getElem hq]
            exact List.getElem_mem hq
          obtain ⟨j', h1, h2, h3⟩ := hm2.1 this
          have : (j : Int) = j' := congrArg Prod.fst h3
          have : j = j' := by omega
          rw [this]; exact h2
      · simp only [go_sem, Int.cast_ofNat_Int]
      · simp only [go_sem]
        exact fitF_sl (s := ⟨x, n, G, noRows⟩) (by decide) (of_eq_true tlOK_no)
      · simp only [go_sem]
      · simp [goodNames, asg]
      rintro ⟨i, xi⟩ ⟨hi, hsx, hxh, hxb⟩
      dsimp only at hi hsx hxh hxb
      have hxi : 0 ≤ xi ∧ xi < 18446744073709551616 := hsx.1
      have hall' : ∀ i, lsF all i = [i64 (all.getD i (0, 0)).1, i64 (all.getD i (0, 0)).2] := fun _ => rfl
      simp only [go_sem, c36, c41, c16, m40, m44, F40, F44, hx0, hn0, hn, hTL, slF_eq, hA0, hY, hall', hxi, haft, hsx]
      have hgm : ∀ q, q < all.length → ∃ j' : Nat, j' < n ∧ x.toNat.testBit j' = true ∧ all.getD q (0, 0) = ((j' : Int), G j') := fun q hq => by
        have : all.getD q (0, 0) ∈ all := by
          rw [List.getD_eq_getElem?_getD, List.getElem?_eq_getElem hq]
          exact List.getElem_mem hq
        exact (hA _).1 this
      refine ⟨fun hlt => ⟨by omega, hlt, by omega, fun r1 kr1 => ?_⟩, fun hge => ?_⟩
      · have hil : i < all.length := by omega
        obtain ⟨j', hj1, hj2, hj3⟩ := hgm i hil
        have hbit : xi.toNat.testBit j' = true := (hxb j' hj1).2 ⟨i, Nat.le_refl i, hil, hj3⟩
        have hhas : hasI ⟨xi, n, G, noRows⟩ (j' : Int) (G j') = true := by
          unfold hasI
          dsimp only
          rw [atOk_nat hj1, hbit, Int.toNat_natCast]
          simp
        have hfr : frS ⟨xi, n, G, noRows⟩ (j' : Int) (G j') = ⟨clrX xi j', n, G, noRows⟩ := by unfold frS; rw [if_pos hhas]
        rw [hj3] at kr1 ⊢
        dsimp only at kr1 ⊢
        rw [hhas] at kr1
        rw [if_pos rfl] at kr1
        rw [hfr]
        have hcb : ∀ q, (clrX xi (j' : Int)).toNat.testBit q = (xi.toNat.testBit q && decide (q ≠ j')) := fun q => clrX_bit (by omega) hxi
        have hsl2 := slOK_fr (a := (j' : Int)) (g := G j') hsx
        rw [hfr] at hsl2
        refine ⟨of_eq_true tlOK_no, fun h => (by rw [kr1] at h; cases h), fun _ r2 kr2 => ⟨(i + 1, clrX xi (j' : Int)), ⟨by show i + 1 ≤ all.length; omega, hsl2, fun q hq => ?_, fun q hq => ?_⟩, by show all.length - (i + 1) < all.length - i; omega, [], ?_, ?_, ?_⟩⟩
        · show (clrX xi (j' : Int)).toNat.testBit q = false
          rw [hcb, hxh q hq]; rfl
        · show (clrX xi (j' : Int)).toNat.testBit q = true ↔ ∃ k, i + 1 ≤ k ∧ k < all.length ∧ all.getD k (0, 0) = ((q : Int), G q)
          rw [hcb, Bool.and_eq_true, decide_eq_true_iff, hxb q hq]
          constructor
          · rintro ⟨⟨p, h1, h2, h3⟩, h4⟩
            refine ⟨p, ?_, h2, h3⟩
            by_cases e : p = i
            · rw [e, hj3] at h3
              have : (j' : Int) = q := congrArg Prod.fst h3
              omega
            · omega
          · rintro ⟨p, h1, h2, h3⟩
            refine ⟨⟨p, by omega, h2, h3⟩, fun e => ?_⟩
            have hp := List.pairwise_iff_getElem.1 hS i p hil h2 (by omega)
            rw [List.getD_eq_getElem?_getD, List.getElem?_eq_getElem h2] at h3
            rw [List.getD_eq_getElem?_getD, List.getElem?_eq_getElem hil] at hj3
            have h3 : all[p] = ((q : Int), G q) := h3
            have hj3 : all[i] = ((j' : Int), G j') := hj3
            rw [h3, hj3] at hp
            have hp : (j' : Int) < q := hp
            omega
        · rw [kr2, wrap_in (by unfold inR; omega)]
          show (i : Int) + 1 = ((i + 1 : Nat) : Int)
          omega
        · simp only [go_sem]
          exact fitF_sl (s := ⟨clrX xi (j' : Int), n, G, noRows⟩) (by decide) (of_eq_true tlOK_no)
        · simp [goodNames, asg]
      · have hc0 : cntB xi.toNat.testBit 64 = 0 := by
          have h0 : ∀ q, xi.toNat.testBit q = false := fun q => by
            by_cases hq : q < n
            · cases hb : xi.toNat.testBit q with
              | false => rfl
              | true =>
                obtain ⟨p, h1, h2, _⟩ := (hxb q hq).1 hb
                omega
            · exact hxh q (by omega)
          exact cntB_up (n := 0) (fun q _ => h0 q) 64 (by omega)
        intro r1 kr1
        rw [hc0] at kr1
        subst kr1
        exact ⟨fun _ => ⟨rfl, hy0, hy1, fun r2 kr2 => ⟨fun _ => trivial, fun _ => by omega, fun _ _ _ => trivial, fun _ _ _ => trivial, fun r3 kr3 => ⟨⟨rfl, kr2⟩, kr3⟩⟩⟩, fun h => (by cases h)⟩
  · rw [e0] at h
    simp at h
end Go.Ax
end

section
/-
  What is proved: for every input bagatellelaw04.IndexCopies returns true, and the input reads ars it did. No further condition.
-/
namespace Go.Proofs.YtfpgjkeelegdpaaGreat.indexCopiesDone
open Go.ChangeShapes Go.WideShapes Go.ChangeAt Go.RowKit Go.Ax
set_option linter.unusedVariables false

theorem own : ownKnob Tryz.prog.godebug = none := by kernel_rfl

theorem ctx : CtxOK Tryz.prog [(15, c15), (34, .wr mN34), (42, .wr mN42), (35, .wr mN35W), (36, c36), (43, c43), (40, .wr m40), (16, c16), (44, .wr m44), (41, c41)] :=
  (.cons con15 (.mcons mon34 (.mcons mon42 (.mcons mon35W (.cons con36 (.cons con43 (.mcons mon40 (.cons con16 (.mcons mon44 (.cons con41 .nil))))))))))

set_option maxRecDepth 100000 in
theorem walk {w : World} {avs : List AV} {vs : List Value} (h : fitVs [.int .i64, .slice 1 [.int .i64], .slice 1 [.int .i64]] avs) (hR : Rs w (.ext (All w)) avs vs) :
    Calls Tryz.prog 7 vs.toArray w fun e w' => e = .returned (.bool true) ∧ Below w.heap.size w w' := by
  obtain ⟨_, _, rfl, ⟨most, rfl, hmost⟩, _, _, rfl, ⟨k, get, rfl, hnk, hget⟩, _, _, rfl, ⟨m, got, rfl, hnm, hgot⟩, rfl⟩ := h
  rw [(rowsI hget).1, (rowsI hgot).1] at hR
  obtain ⟨_, k2⟩ := fn_sound ctx Tryz.func7 (by kernel_rfl) (vc7 (k := k) (m := m) (wf_i64 hmost) (rowsI hget).2 (rowsI hgot).2) (All w) w vs (fun _ h => h) hR
  refine k2.mono fun e w' ⟨v, he, ⟨r, hr, hv⟩, hb⟩ => ?_
  subst hr
  cases hv
  exact ⟨he, hb⟩

set_option maxRecDepth 100000 in
theorem lifted (os : Os) (started : os.Started) (H : Type) (enc : TypeId × Value → H) :
    ReturnsInHanded {} Tryz.checked os 7 .any (Rows.indexCopiesSpec.pre6 enc Tryz.prog Tryz.f7 Rows.indexCopiesRow.domain false) (Rows.indexCopiesSpec.post enc Tryz.prog Tryz.f7 false true false false) := by
  refine returnsInHanded_of_change (C := Tryz.checked) own started (by kernel_rfl) Tryz.func7
    (ChangeSpec.witness6 (enc := enc) (C := Tryz.checked) false ⟨#[], #[.int .i64 0, .slice none 0 0, .slice none 0 0], []⟩ 8 (by kernel_rfl) (by kernel_rfl) (by kernel_rfl) (by kernel_rfl)) ?_
  intro W base args ds gs before hval hW hcnd _
  have hW' := hW
  obtain ⟨p, q, hA, hV, rfl, hfz, hnd⟩ := hW
  obtain ⟨rfl, rfl⟩ := trodVars_none hV
  have hA' := hA
  rw [Tryz.params7] at hA hval
  obtain ⟨avs, w1, w2⟩ := args_read (P := Tryz.prog) (ss := [.int .i64, .slice 1 [.int .i64], .slice 1 [.int .i64]]) (by kernel_rfl) (fun j t v hj hv => hval j t v (by simpa using hj) (by simpa using hv)) hA
  obtain ⟨v0, vs0, d0, ds0, p0, q0, hargs, rfl, rfl, h0, r0⟩ := trodAll_cons hA
  obtain ⟨v1, vs1, d1, ds1, p1, q1, rfl, rfl, rfl, h1, r1⟩ := trodAll_cons r0
  obtain ⟨v2, vs2, d2, ds2, p2, q2, rfl, rfl, rfl, h2, r2⟩ := trodAll_cons r1
  obtain ⟨rfl, rfl, rfl⟩ := trodAll_nil r2
  have hw := walk w1 w2
  rw [show args.toList.toArray = args by simp] at hw
  refine hw.mono fun e W' ⟨he, bel⟩ => ?_
  subst he
  obtain ⟨ps, hst⟩ := args_stay laidOut bel (by kernel_rfl) hA'
  exact ⟨_, rfl, _, _, _, [], _, [], hW', trodAll_mk1 (shut_bool Tryz.underlying4 _), hst, rfl, bel.frame _, fun h => by cases h⟩

theorem func : Tryz.pinned.checked.prog.funcNamed Rows.indexCopiesRow.func = some 7 := by kernel_rfl
theorem four : ((Rows.indexCopiesRow.inPlace == Tryz.prog.inPlace 7) = true) ∧ ((Rows.indexCopiesRow.unfollowed == Tryz.prog.unfollowed 7) = true) ∧ ((Rows.indexCopiesRow.recurses == Tryz.prog.recurses 7) = true) ∧ ((Rows.indexCopiesRow.named == Tryz.prog.varsNamed 7) = true) := by
  have h : ((Rows.indexCopiesRow.inPlace == Tryz.prog.inPlace 7) && ((Rows.indexCopiesRow.unfollowed == Tryz.prog.unfollowed 7) && ((Rows.indexCopiesRow.recurses == Tryz.prog.recurses 7) && (Rows.indexCopiesRow.named == Tryz.prog.varsNamed 7)))) = true := by kernel_rfl
  simpa only [Bool.and_eq_true] using h
theorem facts : joinedFacts Tryz.prog 7 Tryz.f7 Rows.indexCopiesSpec Rows.indexCopiesRow = true :=
  andT (andT (andT (andT (andT (andT (andT (andT (andT (andT (andT (andT (andT (andT (andT (andT (andT (andT (andT (andT (andT (andT (andT (andT (andT (andT (andT (andT (andT (andT (andT (by kernel_rfl) laidOut) fRowed) (by kernel_rfl)) (by kernel_rfl)) (by kernel_rfl)) fStops) (by kernel_rfl)) fStopK) four.1) four.2.1) four.2.2.1) four.2.2.2) (by kernel_rfl)) (by kernel_rfl)) (by kernel_rfl)) (by kernel_rfl)) (by kernel_rfl)) (by kernel_rfl)) (by kernel_rfl)) (by kernel_rfl)) (by kernel_rfl)) fPlain) (by kernel_rfl)) fHeard) fMay) fLift) fMake) (by kernel_rfl)) (by kernel_rfl)) (by kernel_rfl)) (by kernel_rfl)
theorem over : Rows.indexCopiesRow.holds Tryz.pinned (OpenSpec.ofChange Rows.indexCopiesSpec) :=
  OpenClaim.holds_of_wide 7 Tryz.f7 rfl rfl rfl rfl rfl rfl rfl ⟨rfl, rfl, rfl, rfl, rfl⟩ rfl rfl rfl rfl rfl func Tryz.func7 facts
    (of_decide_eq_true (by kernel_rfl)) (by unfold Func.isWrapper; first | (rw [if_pos (by decide +kernel)]; kernel_rfl) | (rw [if_neg (by decide +kernel)]; exact ⟨rfl, rfl⟩))
    (fun os started H enc _ => lifted os started H enc)

theorem proved : Rows.IndexCopiesSaid := over
#print axioms proved
end Go.Proofs.YtfpgjkeelegdpaaGreat.indexCopiesDone
end
