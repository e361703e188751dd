/-
  The law of tables, act by act.
-/
import Derived.Test.YtfpgjkeelegdpaaGreatCM8
import Derived.Test.YtfpgjkeelegdpaaGreatRows
import Derived.WalkKit
import Derived.ProofKit
section
set_option linter.unusedVariables false
set_option linter.unusedSimpArgs false
set_option maxHeartbeats 4000000
set_option maxRecDepth 100000
namespace Go.Ax
open Go.Proofs
theorem alk_new {n : Nat} (h : 0 < n ∧ n ≤ 64) : Alk ⟨0, n, fun _ => 0, noRows⟩ ⟨n, fun _ => 0, fun _ => false, noRows⟩ :=
  ⟨⟨⟨Int.le_refl 0, (by decide : (0 : Int) < 18446744073709551616)⟩, h, fun _ _ => Int.le_refl _⟩, rfl, fun j _ => by simp, fun j _ => by simp, fun _ _ => rfl, rfl, rfl⟩
theorem eq57z {xo yo : Operand} : eqE Tryz.prog false 57 xo yo (.v (.pointer none)) (.v (.pointer none)) = some ⟨[], .v (.bool true), .none⟩ := by kernel_rfl
theorem eq79z {xo yo : Operand} : eqE Tryz.prog false 79 xo yo (.v (.pointer none)) (.v (.pointer none)) = some ⟨[], .v (.bool true), .none⟩ := by kernel_rfl
theorem mcDe_SR {F : SlS → RtS → List AV → Option (List Prop × AV)} {K K' : Nat} {rest : List AV} {x : Int} {n n' : Nat} {X X' : Nat → Int} {T : Nat → Bool} {tl tl' : Fam} : mcDe oS oR F K K' rest (some (famR [⟨1, 2, 100, fun _ => [u64 x, .own K 1 n 1], none⟩, ⟨n, 1, 3, fun i => [i64 (X i)], none⟩] tl)) (some (famR [⟨1, 2, 125, fun _ => [.own K' 1 n' 1, .own K' 2 n' 1], none⟩, ⟨n', 1, 3, fun i => [i64 (X' i)], none⟩, ⟨n', 1, 4, fun i => [bo (T i)], none⟩] tl')) = mcDf oS oR K K' ⟨x, n, X, tl⟩ ⟨n', X', T, tl'⟩ (F ⟨x, n, X, tl⟩ ⟨n', X', T, tl'⟩ rest) := mcDe_fm (O := oS) (Q := oR) (x := ⟨x, n, X, tl⟩) (y := ⟨n', X', T, tl'⟩)
attribute [go_sem] mcD_eq mcDe_SR mcDf_some
theorem vc8 {most : Int} {k : Nat} {X Y Z : Nat → Int} (hX : ∀ i, inR (X i)) (hY : ∀ i, inR (Y i)) : fnVC Tryz.prog [(15, c15), (45, .wr m45), (46, .wr m46), (47, c47), (48, .wr m48)] [] Tryz.f8 [i64 most, .ro k 3 fun i => [i64 (X i), i64 (Y i), i64 (Z i)]] (· = bo true) := by
  refine fnVC_go (rs := [.tmp 4]) rfl rfl ?_
  have b0 : ((0 : Int) != 0) = false := by decide
  have b3 : ((3 : Int) != 3) = false := by decide
  have t0 : tlOK noRows = True := tlOK_no
  have hXY : ∀ i, inR (X i) ∧ inR (Y i) := fun i => ⟨hX i, hY i⟩
  by_cases h : 1 ≤ most ∧ most ≤ 64
  · obtain ⟨n, rfl⟩ : ∃ n : Nat, most = n := ⟨most.toNat, by omega⟩
    have hn : 0 < n ∧ n ≤ 64 := by omega
    have e1 : F45 [i64 (n : Int)] = some ([], fun k => .tup [.bx k 0, i64 0], fun k => some (slF k ⟨0, n, fun _ => 0, noRows⟩)) := by
      show (if 1 ≤ (n : Int) ∧ (n : Int) ≤ 64 then _ else _) = _
      rw [if_pos h, Int.toNat_natCast]
    have e2 : F46 [i64 (n : Int)] = some ([], fun k => .tup [.bx k 0, i64 0], fun k => some (rtF k ⟨n, fun _ => 0, fun _ => false, noRows⟩)) := by
      show (if 1 ≤ (n : Int) ∧ (n : Int) ≤ 64 then _ else _) = _
      rw [if_pos h, Int.toNat_natCast]
    have hA := alk_new hn
    simp only [go_sem, c15, m45, m46, c47, m48, stepC_Wt, stepC_Wf, m45, m46, m48, e1, e2, slF_eq, rtF_eq, F48, canT, t0, b0, b3, hn, hA, hXY, ↓forall_eq]
    refine ⟨fun _ => trivial, fun hk => ⟨fun h => ?_, fun _ => ⟨fun j _ => Nat.zero_testBit j, fun _ _ => trivial, fun j _ => (Nat.zero_testBit j).symm, by decide, by omega, rfl, fun _ => trivial⟩⟩⟩
    rcases h with h | h
    · exact h
    · cases h
  · have e1 : F45 [i64 most] = some ([], fun _ => .tup [.v (.pointer none), i64 3], fun _ => none) := by
      show (if 1 ≤ most ∧ most ≤ 64 then _ else _) = _
      rw [if_neg h]
    have e2 : F46 [i64 most] = some ([], fun _ => .tup [.v (.pointer none), i64 3], fun _ => none) := by
      show (if 1 ≤ most ∧ most ≤ 64 then _ else _) = _
      rw [if_neg h]
    simp only [go_sem, c15, m45, m46, c47, m48, stepC_Wt, stepC_Wf, m45, m46, m48, e1, e2, b0, b3, eq57z, eq79z, ↓forall_eq]
    refine ⟨fun _ => trivial, fun hk => ⟨fun h => ?_, fun _ h => (by cases h)⟩⟩
    rcases h with h | h
    · exact h
    · cases h
end Go.Ax
end

section
/-
  What is proved: for every input bagatellelaw04.IndexSlots returns true, and the input reads ars it did. No further condition.
-/
namespace Go.Proofs.YtfpgjkeelegdpaaGreat.indexSlotsDone
open Go.ChangeShapes Go.WideShapes Go.ChangeAt Go.RowKit Go.Ax
set_option linter.unusedVariables false

theorem own : ownKnob Tryz.prog.godebug = none := by kernel_rfl

theorem ctx : CtxOK Tryz.prog [(15, c15), (45, .wr m45), (46, .wr m46), (47, c47), (48, .wr m48)] :=
  (.cons con15 (.mcons mon45 (.mcons mon46 (.cons con47 (.mcons mon48 .nil)))))

set_option maxRecDepth 100000 in
theorem walk {w : World} {avs : List AV} {vs : List Value} (h : fitVs [.int .i64, .slice 3 [.int .i64, .int .i64, .int .i64]] avs) (hR : Rs w (.ext (All w)) avs vs) :
    Calls Tryz.prog 8 vs.toArray w fun e w' => e = .returned (.bool true) ∧ Below w.heap.size w w' := by
  obtain ⟨_, _, rfl, ⟨most, rfl, hmost⟩, _, _, rfl, ⟨k, get, rfl, hnk, hget⟩, rfl⟩ := h
  rw [(rowsT hget).1] at hR
  obtain ⟨_, k2⟩ := fn_sound ctx Tryz.func8 (by kernel_rfl) (vc8 (k := k) (rowsT hget).2.1 (rowsT hget).2.2.1) (All w) w vs (fun _ h => h) hR
  refine k2.mono fun e w' ⟨v, he, ⟨r, hr, hv⟩, hb⟩ => ?_
  subst hr
  cases hv
  exact ⟨he, hb⟩

set_option maxRecDepth 100000 in
theorem lifted (os : Os) (started : os.Started) (H : Type) (enc : TypeId × Value → H) :
    ReturnsInHanded {} Tryz.checked os 8 .any (Rows.indexSlotsSpec.pre6 enc Tryz.prog Tryz.f8 Rows.indexSlotsRow.domain false) (Rows.indexSlotsSpec.post enc Tryz.prog Tryz.f8 false true false false) := by
  refine returnsInHanded_of_change (C := Tryz.checked) own started (by kernel_rfl) Tryz.func8
    (ChangeSpec.witness6 (enc := enc) (C := Tryz.checked) false ⟨#[], #[.int .i64 0, .slice none 0 0], []⟩ 8 (by kernel_rfl) (by kernel_rfl) (by kernel_rfl) (by kernel_rfl)) ?_
  intro W base args ds gs before hval hW hcnd _
  have hW' := hW
  obtain ⟨p, q, hA, hV, rfl, hfz, hnd⟩ := hW
  obtain ⟨rfl, rfl⟩ := trodVars_none hV
  have hA' := hA
  rw [Tryz.params8] at hA hval
  obtain ⟨avs, w1, w2⟩ := args_read (P := Tryz.prog) (ss := [.int .i64, .slice 3 [.int .i64, .int .i64, .int .i64]]) (by kernel_rfl) (fun j t v hj hv => hval j t v (by simpa using hj) (by simpa using hv)) hA
  obtain ⟨v0, vs0, d0, ds0, p0, q0, hargs, rfl, rfl, h0, r0⟩ := trodAll_cons hA
  obtain ⟨v1, vs1, d1, ds1, p1, q1, rfl, rfl, rfl, h1, r1⟩ := trodAll_cons r0
  obtain ⟨rfl, rfl, rfl⟩ := trodAll_nil r1
  have hw := walk w1 w2
  rw [show args.toList.toArray = args by simp] at hw
  refine hw.mono fun e W' ⟨he, bel⟩ => ?_
  subst he
  obtain ⟨ps, hst⟩ := args_stay laidOut bel (by kernel_rfl) hA'
  exact ⟨_, rfl, _, _, _, [], _, [], hW', trodAll_mk1 (shut_bool Tryz.underlying4 _), hst, rfl, bel.frame _, fun h => by cases h⟩

theorem func : Tryz.pinned.checked.prog.funcNamed Rows.indexSlotsRow.func = some 8 := by kernel_rfl
theorem four : ((Rows.indexSlotsRow.inPlace == Tryz.prog.inPlace 8) = true) ∧ ((Rows.indexSlotsRow.unfollowed == Tryz.prog.unfollowed 8) = true) ∧ ((Rows.indexSlotsRow.recurses == Tryz.prog.recurses 8) = true) ∧ ((Rows.indexSlotsRow.named == Tryz.prog.varsNamed 8) = true) := by
  have h : ((Rows.indexSlotsRow.inPlace == Tryz.prog.inPlace 8) && ((Rows.indexSlotsRow.unfollowed == Tryz.prog.unfollowed 8) && ((Rows.indexSlotsRow.recurses == Tryz.prog.recurses 8) && (Rows.indexSlotsRow.named == Tryz.prog.varsNamed 8)))) = true := by kernel_rfl
  simpa only [Bool.and_eq_true] using h
theorem facts : joinedFacts Tryz.prog 8 Tryz.f8 Rows.indexSlotsSpec Rows.indexSlotsRow = true :=
  andT (andT (andT (andT (andT (andT (andT (andT (andT (andT (andT (andT (andT (andT (andT (andT (andT (andT (andT (andT (andT (andT (andT (andT (andT (andT (andT (andT (andT (andT (andT (by kernel_rfl) laidOut) fRowed) (by kernel_rfl)) (by kernel_rfl)) (by kernel_rfl)) fStops) (by kernel_rfl)) fStopK) four.1) four.2.1) four.2.2.1) four.2.2.2) (by kernel_rfl)) (by kernel_rfl)) (by kernel_rfl)) (by kernel_rfl)) (by kernel_rfl)) (by kernel_rfl)) (by kernel_rfl)) (by kernel_rfl)) (by kernel_rfl)) fPlain) (by kernel_rfl)) fHeard) fMay) fLift) fMake) (by kernel_rfl)) (by kernel_rfl)) (by kernel_rfl)) (by kernel_rfl)
theorem over : Rows.indexSlotsRow.holds Tryz.pinned (OpenSpec.ofChange Rows.indexSlotsSpec) :=
  OpenClaim.holds_of_wide 8 Tryz.f8 rfl rfl rfl rfl rfl rfl rfl ⟨rfl, rfl, rfl, rfl, rfl⟩ rfl rfl rfl rfl rfl func Tryz.func8 facts
    (of_decide_eq_true (by kernel_rfl)) (by unfold Func.isWrapper; first | (rw [if_pos (by decide +kernel)]; kernel_rfl) | (rw [if_neg (by decide +kernel)]; exact ⟨rfl, rfl⟩))
    (fun os started H enc _ => lifted os started H enc)

theorem proved : Rows.IndexSlotsSaid := over
#print axioms proved
end Go.Proofs.YtfpgjkeelegdpaaGreat.indexSlotsDone
end
