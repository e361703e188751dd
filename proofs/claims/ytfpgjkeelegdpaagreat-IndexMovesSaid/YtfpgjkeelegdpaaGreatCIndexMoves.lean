/-
  The law of moves.
-/
import Derived.Test.YtfpgjkeelegdpaaGreatCM10
import Derived.Test.YtfpgjkeelegdpaaGreatRows
import Derived.WalkKit
import Derived.ProofKit
section
set_option linter.unusedVariables false
set_option linter.unusedSimpArgs false
set_option maxHeartbeats 4000000
set_option maxRecDepth 100000
namespace Go.Ax
open Go.Proofs
theorem F14_eq {n : Nat} {g : Nat → List AV} {last : Bool} : F14 [.ro n 4 g, bo last] = some ([n ≤ 256, bxOK n g], fun k => .bx k 0, fun k => some (swF k ⟨ptL n last (bxI g) n, noRows⟩)) := (rfl)
theorem c13_eq {k : Nat} {g : Nat → List AV} {most : Int} : c13 [.ro k 1 g, i64 most] = some ([ints k g, k ≤ 9223372036854775807, ∀ i, inR (gx g 0 i), 0 ≤ most, most ≤ 1000], .ro (bxN k most) 4 (bxG (bxS k (gx g 0)).1 (bxS k (gx g 0)).2 (gx g 0))) := (rfl)
theorem F21_eq {L : Ents} : F21 [.rop [.rm 4 L]] = some ([selIn L, L.length ≤ 256], fun k => .own k 0 (pairsL L).length 2, fun k => some (famN (pairsL L).length 2 95 (lsF (pairsL L)) none)) := (rfl)
attribute [go_sem] eq32 F14_eq c13_eq F21_eq mN21_eq bxOK_G
theorem vc3 {k m : Nat} {X Y : Nat → Int} (hk : k ≤ 9223372036854775807) (hX : ∀ i, inR (X i)) (hY : ∀ i, inR (Y i)) : fnVC Tryz.prog [(13, c13), (14, .wr mN14), (15, c15), (16, c16), (17, .wr m17), (18, .wr m18), (19, .wr m19), (21, .wr mN21), (20, c20), (22, c22), (23, c23)] [] Tryz.f3 [.ro k 1 fun i => [i64 (X i)], .ro m 1 fun i => [i64 (Y i)]] (· = bo true) := by
  refine fnVC_go (rs := [.tmp 4]) rfl rfl ?_
  simp only [go_sem, hk, swF_eq, famNK_W']
  have hn20 : bxN k 20 ≤ 20 := by unfold bxN; omega
  refine ⟨hX, by omega, by omega, fun h => ?_, fun hm => ⟨by omega, hY, ?_⟩⟩
  · exact fun _ => trivial
  have hI0 : SwI (bxN k 20) (ptL (bxN k 20) false (bxL k X) (bxN k 20)) := ptL_I fun j _ => bxL_ok j
  have hL0 : bxI (bxG (bxS k X).1 (bxS k X).2 X) = bxL k X := rfl
  rw [hL0]
  have hb10 : bxN m 10 ≤ 10 ∧ bxN m 10 ≤ m / 4 := by unfold bxN; omega
  have hin2 : ∀ j, inR (bxX (Y (4 * j)) (bxS m Y).1) ∧ inR (bxX (Y (4 * j + 1)) (bxS m Y).1) ∧ inR (bxF (Y (4 * j)) (Y (4 * j + 2)) (bxS m Y).1 (bxS m Y).2) ∧ inR (bxF (Y (4 * j + 1)) (Y (4 * j + 3)) (bxS m Y).1 (bxS m Y).2) := fun j => by
    have a := checkBoxS_iff.1 (bxG_ok (sp := (bxS m Y).1) (sz := (bxS m Y).2) (X := Y) bxS_in.1 bxS_in.2.1 bxS_in.2.2 j)
    unfold inR; omega
  have hok2 := fun j => bxG_ok (sp := (bxS m Y).1) (sz := (bxS m Y).2) (X := Y) bxS_in.1 bxS_in.2.1 bxS_in.2.2 j
  generalize (bxS m Y).1 = sp at hin2 hok2 ⊢
  generalize (bxS m Y).2 = sz at hin2 hok2 ⊢
  generalize (bxS k X).1 = sp0
  generalize (bxS k X).2 = sz0
  generalize ptL (bxN k 20) false (bxL k X) (bxN k 20) = L0 at hI0
  generalize bxN k 20 = n at hn20 hI0
  generalize bxN m 10 = mm at hb10
  refine loopN_go (fun (p : Nat × Ents × Ents) => p.1 ≤ mm ∧ SwI n p.2.1 ∧ SwI n p.2.2 ∧ ∀ q, memSel p.2.1 q = memSel p.2.2 q) (fun p => mm - p.1) (fun p => [(9, i64 p.1)]) (fun p => [(5, famR [⟨1, 1, 103, fun _ => [.mp 5 1], none⟩, mapR 4 p.2.1] noRows), (7, famR [⟨1, 1, 103, fun _ => [.mp 7 1], none⟩, mapR 4 p.2.2] noRows)]) [] [41, 42, 43, 44, 45, 46, 47, 48, 49, 52, 53, 54, 55, 56, 57, 58, 59, 60, 61, 10, 62, 63, 64, 65, 66, 67, 68, 69, 70, 71, 72, 73, 74, 75, 76, 77, 78, 79, 80, 81, 82, 83, 84, 85, 86, 87, 88, 89, 90, 91, 92, 93, 4, 95, 96, 97, 94, 98, 99, 11, 12, 100, 101, 102, 103, 104, 105, 106, 107, 108, 109, 4, 50, 51, 9] 0 (0, L0, L0) (by kernel_rfl) ⟨Nat.zero_le _, hI0, hI0, fun _ => rfl⟩ ⟨[], ?_, ?_, ?_, ?_⟩ ?_
  · simp only [go_sem, Int.cast_ofNat_Int]
  · simp only [go_sem]
    exact ⟨fitF_sw (by decide) (of_eq_true tlOK_no), fitF_sw (by decide) (of_eq_true tlOK_no)⟩
  · simp only [go_sem]
  · simp [goodNames, asg]
  rintro ⟨i, Lv, Lw⟩ ⟨hi, hv, hw, heq⟩
  dsimp only at hi hv hw heq
  have hbx : ∀ j, bxG sp sz Y j = [i64 (bxX (Y (4 * j)) sp), i64 (bxX (Y (4 * j + 1)) sp), i64 (bxF (Y (4 * j)) (Y (4 * j + 2)) sp sz), i64 (bxF (Y (4 * j + 1)) (Y (4 * j + 3)) sp sz)] := fun _ => rfl
  simp only [go_sem, c16, c22, c23, m17, m18, m19, F17, F18, F19, swF_eq, famNK_W', hbx, hin2]
  have b0 : ((0 : Int) != 0) = false := by decide
  have hvn := hv.len
  refine ⟨fun hc z hz => ?_, fun hc => ?_⟩
  · have hz : z = ((4 * i : Nat) : Int) := by rw [hz, wrap_in (by unfold inR; omega)]; omega
    refine ⟨by omega, by omega, fun z1 hz1 z2 hz2 => ?_⟩
    have hid := modS_in (n := z1) (m := n) (by omega)
    rw [← hz2] at hid
    have hzin : inR z1 := by rw [hz1, wrap_i64]; unfold inR; omega
    have hbok := hok2 i
    generalize bxX (Y (4 * i)) sp = a0 at hbok ⊢
    generalize bxX (Y (4 * i + 1)) sp = a1 at hbok ⊢
    generalize bxF (Y (4 * i)) (Y (4 * i + 2)) sp sz = a2 at hbok ⊢
    generalize bxF (Y (4 * i + 1)) (Y (4 * i + 3)) sp sz = a3 at hbok ⊢
    have hmv : (memSel Lv z2).isSome = true := sel_some_mem.2 ((hv.key z2).2 hid)
    have hmw : (memSel Lw z2).isSome = true := sel_some_mem.2 ((hw.key z2).2 hid)
    have e1 : movE Lv z2 a0 a1 a2 a3 = 0 := by unfold movE; rw [if_neg (by omega), if_neg (by rw [hbok]; decide), if_pos hmv]
    have e2 : movW ⟨Lv, noRows⟩ z2 a0 a1 a2 a3 = ⟨memPut Lv z2 [a0, a1, a2, a3], noRows⟩ := by unfold movW; dsimp only; rw [e1]; rfl
    have e3 : drpE Lw z2 = 0 := by unfold drpE; rw [if_neg (by omega), if_pos hmw]
    have e4 : drpW ⟨Lw, noRows⟩ z2 = ⟨memDel Lw z2, noRows⟩ := by unfold drpW; dsimp only; rw [e3]; rfl
    have hno : (memSel (memDel Lw z2) z2).isSome = false := by rw [sel_del hw.nod, if_pos rfl]; rfl
    have hlen : (memDel Lw z2).length ≤ 255 := by
      have h1 := congrArg List.length (keys_del (k := z2) (L := Lw))
      rw [List.length_map, List.length_erase_of_mem ((hw.key z2).2 hid), List.length_map, hw.len] at h1
      omega
    have e5 : putE (memDel Lw z2) z2 a0 a1 a2 a3 = 0 := by unfold putE; rw [if_neg (by omega), if_neg (by rw [hbok]; decide), if_neg (by rw [hno]; decide), if_neg (by omega)]
    have e6 : putW ⟨memDel Lw z2, noRows⟩ z2 a0 a1 a2 a3 = ⟨memPut (memDel Lw z2) z2 [a0, a1, a2, a3], noRows⟩ := by unfold putW; dsimp only; rw [e5]; rfl
    have hbx2 : okBx [a0, a1, a2, a3] := ⟨a0, a1, a2, a3, rfl, hbok⟩
    have hv2 := hv.put hid hbx2
    have hw2 := hw.again hid hbx2
    have heq2 : ∀ q, memSel (memPut Lv z2 [a0, a1, a2, a3]) q = memSel (memPut (memDel Lw z2) z2 [a0, a1, a2, a3]) q := fun q => by
      rw [sel_put, sel_again hw.nod, heq q]
    have hpq := pairs_congr hv2 hw2 heq2
    have hsv := hv2.selIn
    have hsw := hw2.selIn
    have hlv := hv2.len
    have hlw := hw2.len
    have hself : memSel (memPut Lv z2 [a0, a1, a2, a3]) z2 = some [a0, a1, a2, a3] := by rw [sel_put, if_pos rfl]
    have t0 : tlOK noRows = True := tlOK_no
    have hpl := pairs_len (L := memPut (memDel Lw z2) z2 [a0, a1, a2, a3])
    rw [hlw] at hpl
    have hnn : n * n ≤ 20 * 20 := Nat.mul_le_mul hn20 hn20
    refine ⟨by omega, hzin, by unfold inR; omega, by omega, by omega, ?_⟩
    have g0 : selAt (some [a0, a1, a2, a3]) 0 = a0 := rfl
    have g1 : selAt (some [a0, a1, a2, a3]) 1 = a1 := rfl
    have g2 : selAt (some [a0, a1, a2, a3]) 2 = a2 := rfl
    have g3 : selAt (some [a0, a1, a2, a3]) 3 = a3 := rfl
    simp only [e1, e2, e3, e4, e5, e6, b0, g0, g1, g2, g3, forall_eq, t0, hsv, hsw, hpq, hself, Bool.false_eq_true, false_imp_iff, true_imp_iff, and_true, true_and, and_self, implies_true, or_self, decide_true, false_or, true_or, beq_self_eq_true, Bool.and_self, Option.isSome, bne_self_eq_false, reduceCtorEq, Bool.true_eq_false]
    refine ⟨by omega, by omega, by omega, by omega, by omega, by omega, by omega, (i + 1, memPut Lv z2 [a0, a1, a2, a3], memPut (memDel Lw z2) z2 [a0, a1, a2, a3]), ⟨by dsimp only; omega, hv2, hw2, heq2⟩, by dsimp only; omega, [], ?_, ?_, ?_⟩
    · rw [wrap_in (by unfold inR; omega)]; dsimp only; omega
    · simp only [go_sem]
      exact ⟨fitF_sw (by decide) (of_eq_true tlOK_no), fitF_sw (by decide) (of_eq_true tlOK_no)⟩
    · simp [goodNames, asg]
  · intro z hz z1 hz1 z2 hz2
    rw [hz, hz1, hz2, hv.len, hw.len]
    simp
end Go.Ax
end

section
/-
  What is proved: for every input bagatellelaw04.IndexMoves returns true, and the input reads ars it did. No further condition.
-/
namespace Go.Proofs.YtfpgjkeelegdpaaGreat.indexMovesDone
open Go.ChangeShapes Go.WideShapes Go.ChangeAt Go.RowKit Go.Ax
set_option linter.unusedVariables false

theorem own : ownKnob Tryz.prog.godebug = none := by kernel_rfl

theorem ctx : CtxOK Tryz.prog [(13, c13), (14, .wr mN14), (15, c15), (16, c16), (17, .wr m17), (18, .wr m18), (19, .wr m19), (21, .wr mN21), (20, c20), (22, c22), (23, c23)] :=
  (.cons con13 (.mcons mon14 (.cons con15 (.cons con16 (.mcons mon17 (.mcons mon18 (.mcons mon19 (.mcons mon21 (.cons con20 (.cons con22 (.cons con23 .nil)))))))))))

set_option maxRecDepth 100000 in
theorem walk {w : World} {avs : List AV} {vs : List Value} (h : fitVs [.slice 1 [.int .i64], .slice 1 [.int .i64]] avs) (hR : Rs w (.ext (All w)) avs vs) :
    Calls Tryz.prog 3 vs.toArray w fun e w' => e = .returned (.bool true) ∧ Below w.heap.size w w' := by
  obtain ⟨_, _, rfl, ⟨k, get, rfl, hnk, hget⟩, _, _, rfl, ⟨m, got, rfl, hnm, hgot⟩, rfl⟩ := h
  rw [(rowsI hget).1, (rowsI hgot).1] at hR
  have hk : k ≤ 9223372036854775807 := by unfold maxLen at hnk; omega
  obtain ⟨_, k2⟩ := fn_sound ctx Tryz.func3 (by kernel_rfl) (vc3 (k := k) (m := m) hk (rowsI hget).2 (rowsI hgot).2) (All w) w vs (fun _ h => h) hR
  refine k2.mono fun e w' ⟨v, he, ⟨r, hr, hv⟩, hb⟩ => ?_
  subst hr
  cases hv
  exact ⟨he, hb⟩

set_option maxRecDepth 100000 in
theorem lifted (os : Os) (started : os.Started) (H : Type) (enc : TypeId × Value → H) :
    ReturnsInHanded {} Tryz.checked os 3 .any (Rows.indexMovesSpec.pre6 enc Tryz.prog Tryz.f3 Rows.indexMovesRow.domain false) (Rows.indexMovesSpec.post enc Tryz.prog Tryz.f3 false true false false) := by
  refine returnsInHanded_of_change (C := Tryz.checked) own started (by kernel_rfl) Tryz.func3
    (ChangeSpec.witness6 (enc := enc) (C := Tryz.checked) false ⟨#[], #[.slice none 0 0, .slice none 0 0], []⟩ 8 (by kernel_rfl) (by kernel_rfl) (by kernel_rfl) (by kernel_rfl)) ?_
  intro W base args ds gs before hval hW hcnd _
  have hW' := hW
  obtain ⟨p, q, hA, hV, rfl, hfz, hnd⟩ := hW
  obtain ⟨rfl, rfl⟩ := trodVars_none hV
  have hA' := hA
  rw [Tryz.params3] at hA hval
  obtain ⟨avs, w1, w2⟩ := args_read (P := Tryz.prog) (ss := [.slice 1 [.int .i64], .slice 1 [.int .i64]]) (by kernel_rfl) (fun j t v hj hv => hval j t v (by simpa using hj) (by simpa using hv)) hA
  obtain ⟨v0, vs0, d0, ds0, p0, q0, hargs, rfl, rfl, h0, r0⟩ := trodAll_cons hA
  obtain ⟨v1, vs1, d1, ds1, p1, q1, rfl, rfl, rfl, h1, r1⟩ := trodAll_cons r0
  obtain ⟨rfl, rfl, rfl⟩ := trodAll_nil r1
  have hw := walk w1 w2
  rw [show args.toList.toArray = args by simp] at hw
  refine hw.mono fun e W' ⟨he, bel⟩ => ?_
  subst he
  obtain ⟨ps, hst⟩ := args_stay laidOut bel (by kernel_rfl) hA'
  exact ⟨_, rfl, _, _, _, [], _, [], hW', trodAll_mk1 (shut_bool Tryz.underlying4 _), hst, rfl, bel.frame _, fun h => by cases h⟩

theorem func : Tryz.pinned.checked.prog.funcNamed Rows.indexMovesRow.func = some 3 := by kernel_rfl
theorem four : ((Rows.indexMovesRow.inPlace == Tryz.prog.inPlace 3) = true) ∧ ((Rows.indexMovesRow.unfollowed == Tryz.prog.unfollowed 3) = true) ∧ ((Rows.indexMovesRow.recurses == Tryz.prog.recurses 3) = true) ∧ ((Rows.indexMovesRow.named == Tryz.prog.varsNamed 3) = true) := by
  have h : ((Rows.indexMovesRow.inPlace == Tryz.prog.inPlace 3) && ((Rows.indexMovesRow.unfollowed == Tryz.prog.unfollowed 3) && ((Rows.indexMovesRow.recurses == Tryz.prog.recurses 3) && (Rows.indexMovesRow.named == Tryz.prog.varsNamed 3)))) = true := by kernel_rfl
  simpa only [Bool.and_eq_true] using h
theorem facts : joinedFacts Tryz.prog 3 Tryz.f3 Rows.indexMovesSpec Rows.indexMovesRow = true :=
  andT (andT (andT (andT (andT (andT (andT (andT (andT (andT (andT (andT (andT (andT (andT (andT (andT (andT (andT (andT (andT (andT (andT (andT (andT (andT (andT (andT (andT (andT (andT (by kernel_rfl) laidOut) fRowed) (by kernel_rfl)) (by kernel_rfl)) (by kernel_rfl)) fStops) (by kernel_rfl)) fStopK) four.1) four.2.1) four.2.2.1) four.2.2.2) (by kernel_rfl)) (by kernel_rfl)) (by kernel_rfl)) (by kernel_rfl)) (by kernel_rfl)) (by kernel_rfl)) (by kernel_rfl)) (by kernel_rfl)) (by kernel_rfl)) fPlain) (by kernel_rfl)) fHeard) fMay) fLift) fMake) (by kernel_rfl)) (by kernel_rfl)) (by kernel_rfl)) (by kernel_rfl)
theorem over : Rows.indexMovesRow.holds Tryz.pinned (OpenSpec.ofChange Rows.indexMovesSpec) :=
  OpenClaim.holds_of_wide 3 Tryz.f3 rfl rfl rfl rfl rfl rfl rfl ⟨rfl, rfl, rfl, rfl, rfl⟩ rfl rfl rfl rfl rfl func Tryz.func3 facts
    (of_decide_eq_true (by kernel_rfl)) (by unfold Func.isWrapper; first | (rw [if_pos (by decide +kernel)]; kernel_rfl) | (rw [if_neg (by decide +kernel)]; exact ⟨rfl, rfl⟩))
    (fun os started H enc _ => lifted os started H enc)

theorem proved : Rows.IndexMovesSaid := over
#print axioms proved
end Go.Proofs.YtfpgjkeelegdpaaGreat.indexMovesDone
end
