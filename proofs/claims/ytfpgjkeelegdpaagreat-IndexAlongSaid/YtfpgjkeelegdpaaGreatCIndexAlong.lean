/-
  The law of what is along a way.
-/
import Derived.Test.YtfpgjkeelegdpaaGreatCM8
import Derived.Test.YtfpgjkeelegdpaaGreatRows
import Derived.WalkKit
import Derived.ProofKit
section
set_option linter.unusedVariables false
set_option linter.unusedSimpArgs false
set_option maxHeartbeats 4000000
set_option maxRecDepth 100000
namespace Go.Ax
open Go.Proofs
def hsIf (z : Int) : Option (List Prop × Nat × (Nat → Int)) → Option (List Prop × AV)
  | some (ob, n, X) => some (c27f n X z ob)
  | none => none
theorem hsI_eq {a : AV} {z : Int} : c27 [a, i64 z] = hsIf z (roI a) := by
  unfold c27 hsIf
  dsimp only
  cases roI a <;> rfl
theorem hsI_some {z : Int} {ob : List Prop} {n : Nat} {X : Nat → Int} : hsIf z (some (ob, n, X)) = some (c27f n X z ob) := (rfl)
theorem lX_getD {l : List Int} : lX l.length (fun i => l.getD i 0) = l := by
  unfold lX
  refine List.ext_getElem (by simp) fun i h1 h2 => ?_
  rw [List.getElem_map, List.getElem_range, List.getD_eq_getElem?_getD, List.getElem?_eq_getElem h2]; rfl
theorem mod121 {z : Int} : 0 ≤ modS z 121 ∧ modS z 121 ≤ 120 := by
  have := modI_in (n := z) (m := 121) (by omega)
  omega
theorem al14 {n : Nat} {g : Nat → List AV} {last : Bool} : F14 [.ro n 4 g, bo last] = some ([n ≤ 256, bxOK n g], fun k => .bx k 0, fun k => some (swF k ⟨ptL n last (bxI g) n, noRows⟩)) := (rfl)
theorem al13 {k : Nat} {g : Nat → List AV} {most : Int} : c13 [.ro k 1 g, i64 most] = some ([ints k g, k ≤ 9223372036854775807, ∀ i, inR (gx g 0 i), 0 ≤ most, most ≤ 1000], .ro (bxN k most) 4 (bxG (bxS k (gx g 0)).1 (bxS k (gx g 0)).2 (gx g 0))) := (rfl)
theorem vc4 {k : Nat} {X : Nat → Int} {x y dx dy : Int} (hk : k ≤ 9223372036854775807) (hX : ∀ i, inR (X i)) (hx : inR x) (hy : inR y) (hdx : inR dx) (hdy : inR dy) : fnVC Tryz.prog [(13, c13), (14, .wr mN14), (16, c16), (24, .wr mN24), (25, c25), (26, c26), (27, c27), (15, c15)] [(6, ⟨[(14, .made 13)], []⟩)] Tryz.f4 [.ro k 1 fun i => [i64 (X i)], i64 x, i64 y, i64 dx, i64 dy] (· = bo true) := by
  refine fnVC_go (rs := [.tmp 10]) rfl rfl ?_
  have m1 := mod121 (z := x)
  have m2 := mod121 (z := y)
  have m3 := mod121 (z := dx)
  have m4 := mod121 (z := dy)
  have w1 : IntKind.i64.wrap (modS x 121 - 60) = modS x 121 - 60 := wrap_in (by unfold inR; omega)
  have w2 : IntKind.i64.wrap (modS y 121 - 60) = modS y 121 - 60 := wrap_in (by unfold inR; omega)
  have w3 : IntKind.i64.wrap (modS dx 121 - 60) = modS dx 121 - 60 := wrap_in (by unfold inR; omega)
  have w4 : IntKind.i64.wrap (modS dy 121 - 60) = modS dy 121 - 60 := wrap_in (by unfold inR; omega)
  have hn20 : bxN k 20 ≤ 20 := by unfold bxN; omega
  have hI : SwI (bxN k 20) (ptL (bxN k 20) false (bxI (bxG (bxS k X).1 (bxS k X).2 X)) (bxN k 20)) := ptL_I fun j _ => bxL_ok j
  have hsel : ∀ j, j < bxN k 20 → memSel (ptL (bxN k 20) false (bxI (bxG (bxS k X).1 (bxS k X).2 X)) (bxN k 20)) (j : Int) = some (bxI (bxG (bxS k X).1 (bxS k X).2 X) j) := fun j hj => ptL_sel hj
  have hbx : ∀ j, bxG (bxS k X).1 (bxS k X).2 X j = [i64 (gx (bxG (bxS k X).1 (bxS k X).2 X) 0 j), i64 (gx (bxG (bxS k X).1 (bxS k X).2 X) 1 j), i64 (gx (bxG (bxS k X).1 (bxS k X).2 X) 2 j), i64 (gx (bxG (bxS k X).1 (bxS k X).2 X) 3 j)] := fun _ => rfl
  have hok : ∀ j, checkBoxS (gx (bxG (bxS k X).1 (bxS k X).2 X) 0 j) (gx (bxG (bxS k X).1 (bxS k X).2 X) 1 j) (gx (bxG (bxS k X).1 (bxS k X).2 X) 2 j) (gx (bxG (bxS k X).1 (bxS k X).2 X) 3 j) = 0 := fun j => bxG_ok bxS_in.1 bxS_in.2.1 bxS_in.2.2 j
  have t0 : tlOK noRows = True := tlOK_no
  simp only [go_sem, c13, c16, c25, c26, c27, c15, al13, al14, bxOK_G, hk, swF_eq, famNK_W', hx, hy, hdx, hdy, w1, w2, w3, w4, ↓forall_eq]
  unfold bxI at hI hsel ⊢
  generalize bxG (bxS k X).1 (bxS k X).2 X = g at hI hsel hbx hok ⊢
  generalize bxN k 20 = n at hn20 hI hsel ⊢
  generalize gx g 0 = A at hI hsel hbx hok ⊢
  generalize gx g 1 = B at hI hsel hbx hok ⊢
  generalize gx g 2 = C at hI hsel hbx hok ⊢
  generalize gx g 3 = D at hI hsel hbx hok ⊢
  generalize ptL n false (fun i => [A i, B i, C i, D i]) n = L at hI hsel ⊢
  have i121 : inR 121 := by unfold inR; omega
  have hlen := hI.len
  have ha : -60 ≤ modS x 121 - 60 ∧ modS x 121 - 60 ≤ 60 := by omega
  have hb : -60 ≤ modS y 121 - 60 ∧ modS y 121 - 60 ≤ 60 := by omega
  clear w1 w2 w3 w4 m1 m2
  generalize modS x 121 - 60 = a at *
  generalize modS y 121 - 60 = b at *
  obtain ⟨c, hc⟩ : ∃ c, c = IntKind.i64.wrap (a + (modS dx 121 - 60)) := ⟨_, rfl⟩
  obtain ⟨d, hd⟩ : ∃ d, d = IntKind.i64.wrap (b + (modS dy 121 - 60)) := ⟨_, rfl⟩
  rw [← hc, ← hd]
  have hc2 : -120 ≤ c ∧ c ≤ 120 := by rw [hc, wrap_in (by unfold inR; omega)]; omega
  have hd2 : -120 ≤ d ∧ d ≤ 120 := by rw [hd, wrap_in (by unfold inR; omega)]; omega
  clear hc hd m3 m4
  refine ⟨hX, by omega, i121, i121, i121, i121, hI.selIn, by omega, by unfold inR; omega, by unfold inR; omega, by unfold inR; omega, by unfold inR; omega, ?_⟩
  have v1 : validS a b = true := validS_iff.2 (by omega)
  have v2 : validS c d = true := validS_iff.2 (by omega)
  have hnl := seenL_le (L := L) (p := fun x_1 y_1 z t => alS x_1 y_1 z t a b c d)
  have hns : (seenL L fun x y z t => alS x y z t a b c d).Pairwise fun a b => a < b := by
    unfold seenL; rw [hI.srt]; exact rngI_lt.filter _
  have hmem : ∀ q, q ∈ (seenL L fun x y z t => alS x y z t a b c d) ↔ ∃ j : Nat, j < n ∧ q = j ∧ alS (A j) (B j) (C j) (D j) a b c d = true := fun q => by
    unfold seenL
    rw [List.mem_filter, hI.srt, rngI_mem]
    constructor
    · rintro ⟨h1, h2⟩
      obtain ⟨j, rfl⟩ : ∃ j : Nat, q = j := ⟨q.toNat, by omega⟩
      rw [hsel j (by omega)] at h2
      exact ⟨j, by omega, rfl, h2⟩
    · rintro ⟨j, h1, rfl, h2⟩
      refine ⟨by omega, ?_⟩
      rw [hsel j h1]
      exact h2
  generalize (seenL L fun x y z t => alS x y z t a b c d) = al at hnl hns hmem ⊢
  have hlX : ∀ l : List Int, lX l.length (fun i => l.getD i 0) = l := fun l => lX_getD
  refine loopN_go (fun (i : Nat) => i ≤ n) (fun i => n - i) (fun i => [(17, i64 i)]) (fun i => []) [59, 36, 16] [70, 71, 72, 73, 76, 77, 78, 79, 80, 81, 82, 83, 84, 85, 86, 87, 88, 89, 90, 91, 92, 93, 94, 95, 10, 74, 75, 17] 0 0 (by kernel_rfl) (Nat.zero_le _) ⟨[], ?_, ?_, ?_, ?_⟩ ?_
  · simp only [go_sem, Int.cast_ofNat_Int]
  · simp only [go_sem]
  · simp only [go_sem]
  · simp [goodNames, asg]
  intro i hi
  simp only [go_sem, c15, c25, c26, hsI_eq, hsI_some, c27f, hbx, hnl, hlX, ↓forall_eq]
  refine ⟨fun hlt => ⟨by omega, hlt, fun _ => by omega, fun _ => trivial, fun h => ?_, fun _ => ⟨i + 1, by omega, by omega, [], by rw [wrap_in (by unfold inR; omega)]; omega, by simp [goodNames, asg]⟩⟩, fun hge => ?_⟩
  · exact h.2 ((hmem _).2 ⟨i, by omega, rfl, al_from v1 v2 (hok i) (by omega) (by omega)⟩)
  refine loopN_go (fun (j : Nat) => j ≤ al.length) (fun j => al.length - j) (fun j => [(18, i64 j)]) (fun j => []) [59, 36] [96, 97, 98, 99, 102, 103, 104, 105, 106, 107, 108, 109, 110, 111, 112, 113, 114, 115, 116, 117, 118, 119, 120, 121, 122, 123, 124, 125, 126, 127, 128, 129, 130, 131, 132, 133, 134, 135, 136, 137, 138, 139, 140, 141, 142, 143, 10, 100, 101, 18] 0 0 (by kernel_rfl) (Nat.zero_le _) ⟨[], ?_, ?_, ?_, ?_⟩ ?_
  · simp only [go_sem, Int.cast_ofNat_Int]
  · simp only [go_sem]
  · simp only [go_sem]
  · simp [goodNames, asg]
  intro j hj
  simp only [go_sem, c15, c25, c26, hsI_eq, hsI_some, c27f, hbx, hnl, hlX, ↓forall_eq]
  refine ⟨fun hlt => ?_, fun _ => trivial⟩
  have hq : j < al.length := by omega
  have gj : ∀ q, (h : q < al.length) → al.getD q 0 = al[q] := fun q h => by rw [List.getD_eq_getElem?_getD, List.getElem?_eq_getElem h]; rfl
  obtain ⟨jj, j1, j2, j3⟩ := (hmem (al.getD j 0)).1 (by rw [gj j hq]; exact List.getElem_mem hq)
  have hm := al_meets v1 v2 j3
  have hw : 0 < (j : Int) → IntKind.i64.wrap ((j : Int) - 1) = ((j - 1 : Nat) : Int) := fun h => by rw [wrap_in (by unfold inR; omega)]; omega
  have hlt2 : 0 < (j : Int) → ¬ al.getD j 0 ≤ al.getD (IntKind.i64.wrap ((j : Int) - 1)).toNat 0 := fun h => by
    rw [hw h, Int.toNat_natCast, gj j hq, gj (j - 1) (by omega)]
    have := List.pairwise_iff_getElem.1 hns (j - 1) j (by omega) (by omega) (by omega)
    omega
  refine ⟨by omega, hlt, by omega, fun _ => by omega, fun _ => hlt, fun _ => by omega, fun _ => trivial, fun _ => by omega, fun _ => hlt, fun _ => by omega, fun _ => trivial, fun h => by rw [hw h.2]; omega, fun h => by rw [hw h.2]; omega, fun h => by rw [hw h.2]; omega, fun _ => trivial, fun h1 h2 => ⟨h1, h2⟩, fun _ => by omega, fun _ => hlt, fun _ => by omega, fun _ => trivial, fun _ => by omega, fun _ => by omega, fun h => ?_, fun _ => ⟨j + 1, by omega, by omega, [], by rw [wrap_in (by unfold inR; omega)]; omega, by simp [goodNames, asg]⟩⟩
  rw [j2] at h hlt2
  rw [Int.toNat_natCast] at h
  rcases h with ((h | h) | h) | h
  · omega
  · omega
  · exact hlt2 h.1 h.2
  · exact h hm
end Go.Ax
end

section
/-
  What is proved: for every input bagatellelaw04.IndexAlong returns true, and the input reads ars it did. No further condition.
-/
namespace Go.Proofs.YtfpgjkeelegdpaaGreat.indexAlongDone
open Go.ChangeShapes Go.WideShapes Go.ChangeAt Go.RowKit Go.Ax
set_option linter.unusedVariables false

theorem own : ownKnob Tryz.prog.godebug = none := by kernel_rfl

theorem ctx : CtxOK Tryz.prog [(13, c13), (14, .wr mN14), (16, c16), (24, .wr mN24), (25, c25), (26, c26), (27, c27), (15, c15)] :=
  (.cons con13 (.mcons mon14 (.cons con16 (.mcons mon24 (.cons con25 (.cons con26 (.cons con27 (.cons con15 .nil))))))))

set_option maxRecDepth 100000 in
theorem walk {w : World} {avs : List AV} {vs : List Value} (h : fitVs [.slice 1 [.int .i64], .int .i64, .int .i64, .int .i64, .int .i64] avs) (hR : Rs w (.ext (All w)) avs vs) :
    Calls Tryz.prog 4 vs.toArray w fun e w' => e = .returned (.bool true) ∧ Below w.heap.size w w' := by
  obtain ⟨_, _, rfl, ⟨k, get, rfl, hnk, hget⟩, _, _, rfl, ⟨x, rfl, hx⟩, _, _, rfl, ⟨y, rfl, hy⟩, _, _, rfl, ⟨dx, rfl, hdx⟩, _, _, rfl, ⟨dy, rfl, hdy⟩, rfl⟩ := h
  rw [(rowsI hget).1] at hR
  have hk : k ≤ 9223372036854775807 := by unfold maxLen at hnk; omega
  obtain ⟨_, k2⟩ := fn_sound ctx Tryz.func4 (by kernel_rfl) (vc4 (k := k) hk (rowsI hget).2 (wf_i64 hx) (wf_i64 hy) (wf_i64 hdx) (wf_i64 hdy)) (All w) w vs (fun _ h => h) hR
  refine k2.mono fun e w' ⟨v, he, ⟨r, hr, hv⟩, hb⟩ => ?_
  subst hr
  cases hv
  exact ⟨he, hb⟩

set_option maxRecDepth 100000 in
theorem lifted (os : Os) (started : os.Started) (H : Type) (enc : TypeId × Value → H) :
    ReturnsInHanded {} Tryz.checked os 4 .any (Rows.indexAlongSpec.pre6 enc Tryz.prog Tryz.f4 Rows.indexAlongRow.domain false) (Rows.indexAlongSpec.post enc Tryz.prog Tryz.f4 false true false false) := by
  refine returnsInHanded_of_change (C := Tryz.checked) own started (by kernel_rfl) Tryz.func4
    (ChangeSpec.witness6 (enc := enc) (C := Tryz.checked) false ⟨#[], #[.slice none 0 0, .int .i64 0, .int .i64 0, .int .i64 0, .int .i64 0], []⟩ 8 (by kernel_rfl) (by kernel_rfl) (by kernel_rfl) (by kernel_rfl)) ?_
  intro W base args ds gs before hval hW hcnd _
  have hW' := hW
  obtain ⟨p, q, hA, hV, rfl, hfz, hnd⟩ := hW
  obtain ⟨rfl, rfl⟩ := trodVars_none hV
  have hA' := hA
  rw [Tryz.params4] at hA hval
  obtain ⟨avs, w1, w2⟩ := args_read (P := Tryz.prog) (ss := [.slice 1 [.int .i64], .int .i64, .int .i64, .int .i64, .int .i64]) (by kernel_rfl) (fun j t v hj hv => hval j t v (by simpa using hj) (by simpa using hv)) hA
  obtain ⟨v0, vs0, d0, ds0, p0, q0, hargs, rfl, rfl, h0, r0⟩ := trodAll_cons hA
  obtain ⟨v1, vs1, d1, ds1, p1, q1, rfl, rfl, rfl, h1, r1⟩ := trodAll_cons r0
  obtain ⟨v2, vs2, d2, ds2, p2, q2, rfl, rfl, rfl, h2, r2⟩ := trodAll_cons r1
  obtain ⟨v3, vs3, d3, ds3, p3, q3, rfl, rfl, rfl, h3, r3⟩ := trodAll_cons r2
  obtain ⟨v4, vs4, d4, ds4, p4, q4, rfl, rfl, rfl, h4, r4⟩ := trodAll_cons r3
  obtain ⟨rfl, rfl, rfl⟩ := trodAll_nil r4
  have hw := walk w1 w2
  rw [show args.toList.toArray = args by simp] at hw
  refine hw.mono fun e W' ⟨he, bel⟩ => ?_
  subst he
  obtain ⟨ps, hst⟩ := args_stay laidOut bel (by kernel_rfl) hA'
  exact ⟨_, rfl, _, _, _, [], _, [], hW', trodAll_mk1 (shut_bool Tryz.underlying4 _), hst, rfl, bel.frame _, fun h => by cases h⟩

theorem func : Tryz.pinned.checked.prog.funcNamed Rows.indexAlongRow.func = some 4 := by kernel_rfl
theorem four : ((Rows.indexAlongRow.inPlace == Tryz.prog.inPlace 4) = true) ∧ ((Rows.indexAlongRow.unfollowed == Tryz.prog.unfollowed 4) = true) ∧ ((Rows.indexAlongRow.recurses == Tryz.prog.recurses 4) = true) ∧ ((Rows.indexAlongRow.named == Tryz.prog.varsNamed 4) = true) := by
  have h : ((Rows.indexAlongRow.inPlace == Tryz.prog.inPlace 4) && ((Rows.indexAlongRow.unfollowed == Tryz.prog.unfollowed 4) && ((Rows.indexAlongRow.recurses == Tryz.prog.recurses 4) && (Rows.indexAlongRow.named == Tryz.prog.varsNamed 4)))) = true := by kernel_rfl
  simpa only [Bool.and_eq_true] using h
theorem facts : joinedFacts Tryz.prog 4 Tryz.f4 Rows.indexAlongSpec Rows.indexAlongRow = true :=
  andT (andT (andT (andT (andT (andT (andT (andT (andT (andT (andT (andT (andT (andT (andT (andT (andT (andT (andT (andT (andT (andT (andT (andT (andT (andT (andT (andT (andT (andT (andT (by kernel_rfl) laidOut) fRowed) (by kernel_rfl)) (by kernel_rfl)) (by kernel_rfl)) fStops) (by kernel_rfl)) fStopK) four.1) four.2.1) four.2.2.1) four.2.2.2) (by kernel_rfl)) (by kernel_rfl)) (by kernel_rfl)) (by kernel_rfl)) (by kernel_rfl)) (by kernel_rfl)) (by kernel_rfl)) (by kernel_rfl)) (by kernel_rfl)) fPlain) (by kernel_rfl)) fHeard) fMay) fLift) fMake) (by kernel_rfl)) (by kernel_rfl)) (by kernel_rfl)) (by kernel_rfl)
theorem over : Rows.indexAlongRow.holds Tryz.pinned (OpenSpec.ofChange Rows.indexAlongSpec) :=
  OpenClaim.holds_of_wide 4 Tryz.f4 rfl rfl rfl rfl rfl rfl rfl ⟨rfl, rfl, rfl, rfl, rfl⟩ rfl rfl rfl rfl rfl func Tryz.func4 facts
    (of_decide_eq_true (by kernel_rfl)) (by unfold Func.isWrapper; first | (rw [if_pos (by decide +kernel)]; kernel_rfl) | (rw [if_neg (by decide +kernel)]; exact ⟨rfl, rfl⟩))
    (fun os started H enc _ => lifted os started H enc)

theorem proved : Rows.IndexAlongSaid := over
#print axioms proved
end Go.Proofs.YtfpgjkeelegdpaaGreat.indexAlongDone
end
