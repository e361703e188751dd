/-
  The law of tables made of generations.
-/
import Derived.Test.YtfpgjkeelegdpaaGreatCM8
import Derived.Test.YtfpgjkeelegdpaaGreatRows
import Derived.WalkKit
import Derived.ProofKit
section
set_option linter.unusedVariables false
set_option linter.unusedSimpArgs false
set_option maxHeartbeats 4000000
set_option maxRecDepth 100000
namespace Go.Ax
open Go.Proofs
theorem rs55_eq {a b : AV} : F55 [a, b] = F55f (roJ a) (roB b) := (rfl)
theorem rs56_eq {a b : AV} : F56 [a, b] = F56f (roJ a) (roB b) := (rfl)
theorem rJ_ro {n : Nat} {g : Nat → List AV} : roJ (.ro n 1 g) = some ([ints n g], n, gx g 0) := (rfl)
theorem rB_ro {n : Nat} {g : Nat → List AV} : roB (.ro n 1 g) = some ([bools n g], n, fun i => gz (g i)) := (rfl)
theorem rs55_ok {o1 o2 : List Prop} {n m : Nat} {G : Nat → Int} {T : Nat → Bool} (h : rsE n m G T = 0) : F55f (some (o1, n, G)) (some (o2, m, T)) = some (o1 ++ o2, fun k => .tup [.bx k 0, i64 0], fun k => some (slF k ⟨xOf T n, n, G, noRows⟩)) := by
  unfold F55f
  dsimp only
  rw [if_pos h]
theorem rs55_no {o1 o2 : List Prop} {n m : Nat} {G : Nat → Int} {T : Nat → Bool} (h : rsE n m G T ≠ 0) : F55f (some (o1, n, G)) (some (o2, m, T)) = some (o1 ++ o2, fun _ => .tup [.v (.pointer none), i64 (rsE n m G T)], fun _ => none) := by
  unfold F55f
  dsimp only
  rw [if_neg h]
theorem rs56_ok {o1 o2 : List Prop} {n m : Nat} {G : Nat → Int} {T : Nat → Bool} (h : rsE n m G T = 0) : F56f (some (o1, n, G)) (some (o2, m, T)) = some (o1 ++ o2, fun k => .tup [.bx k 0, i64 0], fun k => some (rtF k ⟨n, G, T, noRows⟩)) := by
  unfold F56f
  dsimp only
  rw [if_pos h]
theorem rs56_no {o1 o2 : List Prop} {n m : Nat} {G : Nat → Int} {T : Nat → Bool} (h : rsE n m G T ≠ 0) : F56f (some (o1, n, G)) (some (o2, m, T)) = some (o1 ++ o2, fun _ => .tup [.v (.pointer none), i64 (rsE n m G T)], fun _ => none) := by
  unfold F56f
  dsimp only
  rw [if_neg h]
theorem famNK_bo {key n : Nat} {T : Nat → Bool} : famNK key (famN n 1 4 (fun i => [bo (T i)]) none) := fun f j hj c hc => by
  match f with
  | 0 =>
    have hc : c ∈ [bo (T j)] := hc
    simp only [List.mem_cons, List.not_mem_nil, or_false] at hc
    subst hc; trivial
  | f + 1 => have hj : j < 0 := hj; omega
theorem rsE_in {n m : Nat} {G : Nat → Int} {T : Nat → Bool} (h : rsE n m G T = 0) : (0 < n ∧ n ≤ 64) ∧ (∀ i, i < n → 0 ≤ G i) := by
  unfold rsE at h
  split at h
  · cases h
  · rename_i h1
    split at h
    · cases h
    · rename_i h2
      refine ⟨by omega, fun i hi => ?_⟩
      have h3 := lst_no (p := badG G) (n := n) (i := i) (by have := lst_le (p := badG G) n; omega)
      unfold badG at h3
      rw [Bool.or_eq_false_iff, decide_eq_false_iff_not] at h3
      omega
theorem alk_rs {n m : Nat} {G : Nat → Int} {T : Nat → Bool} (h : rsE n m G T = 0) : Alk ⟨xOf T n, n, G, noRows⟩ ⟨n, G, T, noRows⟩ := by
  obtain ⟨h1, h2⟩ := rsE_in h
  refine ⟨⟨xOf_lt h1.2, h1, h2⟩, rfl, fun j hj => ?_, fun j hj => ?_, fun _ _ => rfl, rfl, rfl⟩
  · have hj : n ≤ j := hj
    show (xOf T n).toNat.testBit j = false
    rw [xOf_bit, decide_eq_false (by omega)]; rfl
  · have hj : j < n := hj
    show T j = (xOf T n).toNat.testBit j
    rw [xOf_bit, decide_eq_true hj]; rfl
theorem vc10 {n m k : Nat} {G : Nat → Int} {T : Nat → Bool} {X Y Z : Nat → Int} (hX : ∀ i, inR (X i)) (hY : ∀ i, inR (Y i)) : fnVC Tryz.prog [(15, c15), (53, .wr mN53), (54, .wr mN54), (55, .wr mN55), (56, .wr mN56), (49, c49), (47, c47), (48, .wr m48)] [] Tryz.f10 [.ro n 1 fun i => [i64 (G i)], .ro m 1 fun i => [bo (T i)], .ro k 3 fun i => [i64 (X i), i64 (Y i), i64 (Z i)]] (· = bo true) := by
  refine fnVC_go (rs := [.tmp 6]) rfl rfl ?_
  have b0 : ∀ z : Int, (z != z) = false := fun z => by simp
  have t0 : tlOK noRows = True := tlOK_no
  have hXY : ∀ i, inR (X i) ∧ inR (Y i) := fun i => ⟨hX i, hY i⟩
  by_cases h : rsE n m G T = 0
  · have e1 : ∀ o1 o2, F55f (some (o1, n, G)) (some (o2, m, T)) = some (o1 ++ o2, fun k => .tup [.bx k 0, i64 0], fun k => some (slF k ⟨xOf T n, n, G, noRows⟩)) := fun o1 o2 => rs55_ok h
    have e2 : ∀ o1 o2, F56f (some (o1, n, G)) (some (o2, m, T)) = some (o1 ++ o2, fun k => .tup [.bx k 0, i64 0], fun k => some (rtF k ⟨n, G, T, noRows⟩)) := fun o1 o2 => rs56_ok h
    simp only [go_sem, c15, c49, c47, m48, stepC_Wt, stepC_Wf, m48, mN53_eq, mN54_eq, mN55_eq, mN56_eq, F53, F54, rs55_eq, rs56_eq, rJ_ro, rB_ro, e1, e2, slF_eq, rtF_eq, F48, canT, t0, b0, hXY, ↓forall_eq]
    have hA := alk_rs h
    obtain ⟨hn, hG⟩ := rsE_in h
    have bff : (false == false) = true := rfl
    refine ⟨fun _ => trivial, fun hlen => ⟨by omega, famNK_bo, by omega, of_eq_true (famNK_R (key := 30) (n := n) (X := G) (T := T)), fun _ => by omega, fun _ => trivial, fun _ => trivial, fun hf => ?_, fun _ => ?_⟩⟩
    · rcases hf with ((h | h) | h) | h <;> first | exact h.elim | cases h
    refine loopN_go (fun (p : Nat × (Nat → Bool)) => p.1 ≤ m ∧ ∀ j, p.1 ≤ j → p.2 j = T j) (fun p => m - p.1) (fun p => [(13, i64 p.1)]) (fun p => [(17, famN m 1 4 (fun j => [bo (p.2 j)]) none)]) [30, 22, 15] [68, 69, 70, 71, 74, 75, 76, 77, 78, 79, 80, 81, 82, 6, 83, 84, 85, 86, 87, 88, 89, 90, 72, 73, 13] 0 (0, T) (by kernel_rfl) ⟨Nat.zero_le _, fun _ _ => rfl⟩ ⟨[], ?_, ?_, ?_, ?_⟩ ?_
    · simp only [go_sem, Int.cast_ofNat_Int]
    · simp only [go_sem]
      exact fun _ _ => trivial
    · simp only [go_sem]
    · simp [goodNames, asg]
    rintro ⟨i, U⟩ ⟨hi, hU⟩
    dsimp only at hi hU
    simp only [go_sem, c15, c49, c47, m48, b0, ↓forall_eq]
    refine ⟨fun hlt => ⟨by omega, hlt, by omega, by omega, hlt, fun hne => ?_, fun _ => ⟨by omega, hlt, by omega, by omega, hlt, by omega, (i + 1, fun j => if j = i then !U i else U j), ⟨by show i + 1 ≤ m; omega, fun j hj => ?_⟩, by show m - (i + 1) < m - i; omega, [], ?_, ?_, ?_⟩⟩, fun hge => ?_⟩
    · rw [hU i (Nat.le_refl i)] at hne
      simp at hne
    · have hj : i + 1 ≤ j := hj
      show (if j = i then !U i else U j) = T j
      rw [if_neg (by omega), hU j (by omega)]
    · rw [wrap_in (by unfold inR; omega)]
      show (i : Int) + 1 = ((i + 1 : Nat) : Int)
      omega
    · simp only [go_sem]
      refine fun q hq => ?_
      by_cases e : q = i
      · subst e
        simp only [if_true]
        exact fitL_clean rfl
      · simp only [if_neg e]
        exact fitL_clean rfl
    · simp [goodNames, asg]
    refine loopN_go (fun (p : Nat × (Nat → Int)) => p.1 ≤ n) (fun p => n - p.1) (fun p => [(14, i64 p.1)]) (fun p => [(15, famN n 1 3 (fun j => [i64 (p.2 j)]) none)]) [17, 30, 22] [91, 92, 93, 94, 97, 98, 99, 95, 96, 14] 0 (0, G) (by kernel_rfl) (Nat.zero_le _) ⟨[], ?_, ?_, ?_, ?_⟩ ?_
    · simp only [go_sem, Int.cast_ofNat_Int]
    · simp only [go_sem]
      exact fun _ _ => trivial
    · simp only [go_sem]
    · simp [goodNames, asg]
    rintro ⟨q, V⟩ hq
    dsimp only at hq
    simp only [go_sem, c15, c49, c47, m48, stepC_Wt, stepC_Wf, m48, hn, hA, slF_eq, rtF_eq, F48, canT, t0, b0, hXY, eq57z, eq79z, ↓forall_eq]
    refine ⟨fun hlt => ⟨by omega, hlt, by omega, (q + 1, fun j => if j = q then 5 else V j), by show q + 1 ≤ n; omega, by show n - (q + 1) < n - q; omega, [], ?_, ?_, ?_⟩, fun hge => ?_⟩
    · rw [wrap_in (by unfold inR; omega)]
      show (q : Int) + 1 = ((q + 1 : Nat) : Int)
      omega
    · simp only [go_sem]
      refine fun z hz => ?_
      by_cases e : z = q
      · subst e
        simp only [if_true]
        exact fitL_clean rfl
      · simp only [if_neg e]
        exact fitL_clean rfl
    · simp [goodNames, asg]
    exact ⟨hA.ok.1, hA.hi, fun _ _ => trivial, hA.bit, by decide, by omega, rfl, fun _ => trivial⟩
  · have e1 : ∀ o1 o2, F55f (some (o1, n, G)) (some (o2, m, T)) = some (o1 ++ o2, fun _ => .tup [.v (.pointer none), i64 (rsE n m G T)], fun _ => none) := fun o1 o2 => rs55_no h
    have e2 : ∀ o1 o2, F56f (some (o1, n, G)) (some (o2, m, T)) = some (o1 ++ o2, fun _ => .tup [.v (.pointer none), i64 (rsE n m G T)], fun _ => none) := fun o1 o2 => rs56_no h
    simp only [go_sem, c15, c49, c47, m48, stepC_Wt, stepC_Wf, m48, mN53_eq, mN54_eq, mN55_eq, mN56_eq, F53, F54, rs55_eq, rs56_eq, rJ_ro, rB_ro, e1, e2, t0, b0, hXY, eq57z, eq79z, ↓forall_eq]
    have btt : (true == true) = true := rfl
    refine ⟨fun _ => trivial, fun hlen => ⟨by omega, famNK_bo, by omega, fun _ => by omega, fun _ => trivial, fun _ => trivial, fun hf => ?_, fun _ => ?_⟩⟩
    · rcases hf with ((h | h) | h) | h <;> first | exact h.elim | cases h
    refine loopN_go (fun (p : Nat × (Nat → Bool)) => p.1 ≤ m ∧ ∀ j, p.1 ≤ j → p.2 j = T j) (fun p => m - p.1) (fun p => [(13, i64 p.1)]) (fun p => [(17, famN m 1 4 (fun j => [bo (p.2 j)]) none)]) [15] [68, 69, 70, 71, 74, 75, 76, 77, 78, 79, 80, 81, 82, 6, 83, 84, 85, 86, 87, 88, 89, 90, 72, 73, 13] 0 (0, T) (by kernel_rfl) ⟨Nat.zero_le _, fun _ _ => rfl⟩ ⟨[], ?_, ?_, ?_, ?_⟩ ?_
    · simp only [go_sem, Int.cast_ofNat_Int]
    · simp only [go_sem]
      exact fun _ _ => trivial
    · simp only [go_sem]
    · simp [goodNames, asg]
    rintro ⟨i, U⟩ ⟨hi, hU⟩
    dsimp only at hi hU
    simp only [go_sem, c15, c49, c47, m48, b0, ↓forall_eq]
    refine ⟨fun hlt => ⟨by omega, hlt, by omega, by omega, hlt, fun hne => ?_, fun _ => ⟨by omega, hlt, by omega, by omega, hlt, by omega, (i + 1, fun j => if j = i then !U i else U j), ⟨by show i + 1 ≤ m; omega, fun j hj => ?_⟩, by show m - (i + 1) < m - i; omega, [], ?_, ?_, ?_⟩⟩, fun hge => ?_⟩
    · rw [hU i (Nat.le_refl i)] at hne
      simp at hne
    · have hj : i + 1 ≤ j := hj
      show (if j = i then !U i else U j) = T j
      rw [if_neg (by omega), hU j (by omega)]
    · rw [wrap_in (by unfold inR; omega)]
      show (i : Int) + 1 = ((i + 1 : Nat) : Int)
      omega
    · simp only [go_sem]
      refine fun q hq => ?_
      by_cases e : q = i
      · subst e
        simp only [if_true]
        exact fitL_clean rfl
      · simp only [if_neg e]
        exact fitL_clean rfl
    · simp [goodNames, asg]
    refine loopN_go (fun (p : Nat × (Nat → Int)) => p.1 ≤ n) (fun p => n - p.1) (fun p => [(14, i64 p.1)]) (fun p => [(15, famN n 1 3 (fun j => [i64 (p.2 j)]) none)]) [17] [91, 92, 93, 94, 97, 98, 99, 95, 96, 14] 0 (0, G) (by kernel_rfl) (Nat.zero_le _) ⟨[], ?_, ?_, ?_, ?_⟩ ?_
    · simp only [go_sem, Int.cast_ofNat_Int]
    · simp only [go_sem]
      exact fun _ _ => trivial
    · simp only [go_sem]
    · simp [goodNames, asg]
    rintro ⟨q, V⟩ hq
    dsimp only at hq
    simp only [go_sem, c15, c49, c47, m48, stepC_Wt, stepC_Wf, m48, slF_eq, rtF_eq, F48, canT, t0, b0, hXY, eq57z, eq79z, ↓forall_eq]
    refine ⟨fun hlt => ⟨by omega, hlt, by omega, (q + 1, fun j => if j = q then 5 else V j), by show q + 1 ≤ n; omega, by show n - (q + 1) < n - q; omega, [], ?_, ?_, ?_⟩, fun hge => ?_⟩
    · rw [wrap_in (by unfold inR; omega)]
      show (q : Int) + 1 = ((q + 1 : Nat) : Int)
      omega
    · simp only [go_sem]
      refine fun z hz => ?_
      by_cases e : z = q
      · subst e
        simp only [if_true]
        exact fitL_clean rfl
      · simp only [if_neg e]
        exact fitL_clean rfl
    · simp [goodNames, asg]
    exact fun h => (by cases h)
end Go.Ax
end

section
/-
  What is proved: for every input bagatellelaw04.IndexRestores returns true, and the input reads ars it did. No further condition.
-/
namespace Go.Proofs.YtfpgjkeelegdpaaGreat.indexRestoresDone
open Go.ChangeShapes Go.WideShapes Go.ChangeAt Go.RowKit Go.Ax
set_option linter.unusedVariables false

theorem own : ownKnob Tryz.prog.godebug = none := by kernel_rfl

theorem ctx : CtxOK Tryz.prog [(15, c15), (53, .wr mN53), (54, .wr mN54), (55, .wr mN55), (56, .wr mN56), (49, c49), (47, c47), (48, .wr m48)] :=
  (.cons con15 (.mcons mon53 (.mcons mon54 (.mcons mon55 (.mcons mon56 (.cons con49 (.cons con47 (.mcons mon48 .nil))))))))

set_option maxRecDepth 100000 in
theorem walk {w : World} {avs : List AV} {vs : List Value} (h : fitVs [.slice 1 [.int .i64], .slice 1 [.bool], .slice 3 [.int .i64, .int .i64, .int .i64]] avs) (hR : Rs w (.ext (All w)) avs vs) :
    Calls Tryz.prog 10 vs.toArray w fun e w' => e = .returned (.bool true) ∧ Below w.heap.size w w' := by
  obtain ⟨_, _, rfl, ⟨n, gor, rfl, hnn, hgor⟩, _, _, rfl, ⟨m, got, rfl, hnm, hgot⟩, _, _, rfl, ⟨k, get, rfl, hnk, hget⟩, rfl⟩ := h
  rw [(rowsI hgor).1, rowsO hgot, (rowsT hget).1] at hR
  obtain ⟨_, k2⟩ := fn_sound ctx Tryz.func10 (by kernel_rfl) (vc10 (n := n) (m := m) (k := k) (rowsT hget).2.1 (rowsT hget).2.2.1) (All w) w vs (fun _ h => h) hR
  refine k2.mono fun e w' ⟨v, he, ⟨r, hr, hv⟩, hb⟩ => ?_
  subst hr
  cases hv
  exact ⟨he, hb⟩

set_option maxRecDepth 100000 in
theorem lifted (os : Os) (started : os.Started) (H : Type) (enc : TypeId × Value → H) :
    ReturnsInHanded {} Tryz.checked os 10 .any (Rows.indexRestoresSpec.pre6 enc Tryz.prog Tryz.f10 Rows.indexRestoresRow.domain false) (Rows.indexRestoresSpec.post enc Tryz.prog Tryz.f10 false true false false) := by
  refine returnsInHanded_of_change (C := Tryz.checked) own started (by kernel_rfl) Tryz.func10
    (ChangeSpec.witness6 (enc := enc) (C := Tryz.checked) false ⟨#[], #[.slice none 0 0, .slice none 0 0, .slice none 0 0], []⟩ 8 (by kernel_rfl) (by kernel_rfl) (by kernel_rfl) (by kernel_rfl)) ?_
  intro W base args ds gs before hval hW hcnd _
  have hW' := hW
  obtain ⟨p, q, hA, hV, rfl, hfz, hnd⟩ := hW
  obtain ⟨rfl, rfl⟩ := trodVars_none hV
  have hA' := hA
  rw [Tryz.params10] at hA hval
  obtain ⟨avs, w1, w2⟩ := args_read (P := Tryz.prog) (ss := [.slice 1 [.int .i64], .slice 1 [.bool], .slice 3 [.int .i64, .int .i64, .int .i64]]) (by kernel_rfl) (fun j t v hj hv => hval j t v (by simpa using hj) (by simpa using hv)) hA
  obtain ⟨v0, vs0, d0, ds0, p0, q0, hargs, rfl, rfl, h0, r0⟩ := trodAll_cons hA
  obtain ⟨v1, vs1, d1, ds1, p1, q1, rfl, rfl, rfl, h1, r1⟩ := trodAll_cons r0
  obtain ⟨v2, vs2, d2, ds2, p2, q2, rfl, rfl, rfl, h2, r2⟩ := trodAll_cons r1
  obtain ⟨rfl, rfl, rfl⟩ := trodAll_nil r2
  have hw := walk w1 w2
  rw [show args.toList.toArray = args by simp] at hw
  refine hw.mono fun e W' ⟨he, bel⟩ => ?_
  subst he
  obtain ⟨ps, hst⟩ := args_stay laidOut bel (by kernel_rfl) hA'
  exact ⟨_, rfl, _, _, _, [], _, [], hW', trodAll_mk1 (shut_bool Tryz.underlying4 _), hst, rfl, bel.frame _, fun h => by cases h⟩

theorem func : Tryz.pinned.checked.prog.funcNamed Rows.indexRestoresRow.func = some 10 := by kernel_rfl
theorem four : ((Rows.indexRestoresRow.inPlace == Tryz.prog.inPlace 10) = true) ∧ ((Rows.indexRestoresRow.unfollowed == Tryz.prog.unfollowed 10) = true) ∧ ((Rows.indexRestoresRow.recurses == Tryz.prog.recurses 10) = true) ∧ ((Rows.indexRestoresRow.named == Tryz.prog.varsNamed 10) = true) := by
  have h : ((Rows.indexRestoresRow.inPlace == Tryz.prog.inPlace 10) && ((Rows.indexRestoresRow.unfollowed == Tryz.prog.unfollowed 10) && ((Rows.indexRestoresRow.recurses == Tryz.prog.recurses 10) && (Rows.indexRestoresRow.named == Tryz.prog.varsNamed 10)))) = true := by kernel_rfl
  simpa only [Bool.and_eq_true] using h
theorem facts : joinedFacts Tryz.prog 10 Tryz.f10 Rows.indexRestoresSpec Rows.indexRestoresRow = true :=
  andT (andT (andT (andT (andT (andT (andT (andT (andT (andT (andT (andT (andT (andT (andT (andT (andT (andT (andT (andT (andT (andT (andT (andT (andT (andT (andT (andT (andT (andT (andT (by kernel_rfl) laidOut) fRowed) (by kernel_rfl)) (by kernel_rfl)) (by kernel_rfl)) fStops) (by kernel_rfl)) fStopK) four.1) four.2.1) four.2.2.1) four.2.2.2) (by kernel_rfl)) (by kernel_rfl)) (by kernel_rfl)) (by kernel_rfl)) (by kernel_rfl)) (by kernel_rfl)) (by kernel_rfl)) (by kernel_rfl)) (by kernel_rfl)) fPlain) (by kernel_rfl)) fHeard) fMay) fLift) fMake) (by kernel_rfl)) (by kernel_rfl)) (by kernel_rfl)) (by kernel_rfl)
theorem over : Rows.indexRestoresRow.holds Tryz.pinned (OpenSpec.ofChange Rows.indexRestoresSpec) :=
  OpenClaim.holds_of_wide 10 Tryz.f10 rfl rfl rfl rfl rfl rfl rfl ⟨rfl, rfl, rfl, rfl, rfl⟩ rfl rfl rfl rfl rfl func Tryz.func10 facts
    (of_decide_eq_true (by kernel_rfl)) (by unfold Func.isWrapper; first | (rw [if_pos (by decide +kernel)]; kernel_rfl) | (rw [if_neg (by decide +kernel)]; exact ⟨rfl, rfl⟩))
    (fun os started H enc _ => lifted os started H enc)

theorem proved : Rows.IndexRestoresSaid := over
#print axioms proved
end Go.Proofs.YtfpgjkeelegdpaaGreat.indexRestoresDone
end
