/-
  The law of sweeps, act by act.
-/
import Derived.Test.YtfpgjkeelegdpaaGreatCM9
import Derived.Test.YtfpgjkeelegdpaaGreatRows
import Derived.WalkKit
import Derived.ProofKit
section
set_option linter.unusedVariables false
set_option linter.unusedSimpArgs false
set_option maxHeartbeats 4000000
set_option maxRecDepth 100000
namespace Go.Ax
open Go.Proofs
attribute [go_sem] mcW_eq mcWd_W mcWe_S mcWg_E mcWh_some
theorem purL_en {d : Nat} {m : Mem} {l : List En} {i : Nat} : purL (d + 1) m (enF l i) = enF l i := (rfl)
attribute [go_sem] purL_en famNK_qN c33_eq c33f_some
theorem qN_eq {K : Nat} {l : List En} : qN K l = famR [⟨1, 2, 121, fun _ => [bo true, .own K 1 l.length 5], none⟩, ⟨l.length, 5, 130, enF l, none⟩] noRows := (rfl)
theorem famNK_qN' {key : Nat} {l : List En} : famNK key (famR [⟨1, 2, 121, fun _ => [bo true, .own key 1 l.length 5], none⟩, ⟨l.length, 5, 130, enF l, none⟩] noRows) = True := famNK_qN
/-- What an act makes of the two. -/
theorem dn_cases {L : Ents} {l : List En} {m i a b c d : Int} (h : RelW L l) : (∃ L1 l1, RelW L1 l1 ∧ l1.length = l.length ∧ dnS ⟨L, noRows⟩ m i a b c d = ⟨L1, noRows⟩ ∧ (dnU L l m i a b c d = .set l1 ∨ (dnU L l m i a b c d = .keep ∧ l1 = l ∧ L1 = L))) ∨ ∃ L1 l1, RelW L1 l1 ∧ dnS ⟨L, noRows⟩ m i a b c d = ⟨L1, noRows⟩ ∧ dnU L l m i a b c d = .new l1 := by
  unfold dnS dnU putW movW drpW
  by_cases h0 : m = 0
  · rw [if_pos h0, if_pos h0]
    by_cases he : putE L i a b c d = 0
    · dsimp only; rw [if_pos he, if_pos he]; exact .inr ⟨_, _, h.put he, rfl, rfl⟩
    · dsimp only; rw [if_neg he, if_neg he]; exact .inl ⟨L, l, h, rfl, rfl, .inr ⟨rfl, rfl, rfl⟩⟩
  rw [if_neg h0, if_neg h0]
  by_cases h1 : m = 1
  · rw [if_pos h1, if_pos h1]
    by_cases he : movE L i a b c d = 0
    · dsimp only; rw [if_pos he, if_pos he]; exact .inl ⟨_, _, h.mov he, List.length_set, rfl, .inl rfl⟩
    · dsimp only; rw [if_neg he, if_neg he]; exact .inl ⟨L, l, h, rfl, rfl, .inr ⟨rfl, rfl, rfl⟩⟩
  rw [if_neg h1, if_neg h1]
  by_cases h2 : m = 2
  · rw [if_pos h2, if_pos h2]
    by_cases he : drpE L i = 0
    · dsimp only; rw [if_pos he, if_pos he]; exact .inr ⟨_, _, h.drp he, rfl, rfl⟩
    · dsimp only; rw [if_neg he, if_neg he]; exact .inl ⟨L, l, h, rfl, rfl, .inr ⟨rfl, rfl, rfl⟩⟩
  · rw [if_neg h2, if_neg h2]; exact .inl ⟨L, l, h, rfl, rfl, .inr ⟨rfl, rfl, rfl⟩⟩
theorem vc5 {k : Nat} {K I A B C D : Nat → Int} (hi : ∀ i, inR (K i) ∧ inR (I i) ∧ inR (A i) ∧ inR (B i) ∧ inR (C i) ∧ inR (D i)) : fnVC Tryz.prog [(28, .wr mN28), (29, .wr mN29), (15, c15), (30, .wr mN30), (31, .wr mN31), (32, .wr m32), (16, c16), (33, c33)] [] Tryz.f5 [.ro k 6 fun i => [i64 (K i), i64 (I i), i64 (A i), i64 (B i), i64 (C i), i64 (D i)]] (· = bo true) := by
  refine fnVC_go (rs := [.tmp 2]) rfl rfl ?_
  simp only [go_sem, swF_eq, famNK_W', ↓forall_eq, c15]
  refine ⟨fun _ => trivial, fun hk => ?_⟩
  refine loopA_go (PwI k) (fun p => k - p.i) (pwL 21) (pwR 21) [] [28, 29, 30, 31, 34, 35, 36, 37, 38, 39, 40, 41, 2, 42, 43, 44, 45, 46, 47, 48, 49, 50, 51, 52, 53, 54, 55, 56, 57, 2, 58, 59, 5, 6, 60, 61, 62, 63, 3, 4, 64, 65, 66, 67, 68, 69, 70, 2, 71, 72, 73, 74, 75, 76, 77, 78, 79, 2, 32, 33, 7] 6 ⟨0, [], [], [], []⟩ (by kernel_rfl) ⟨Nat.zero_le _, RelW.nil, RelW.nil⟩ (fit3 (pwFit (kw := 1) (kr := 2) (ea := none) (kv := 13) (kq := 15) (za := some (15, 1)) (by decide) rfl rfl rfl rfl rfl rfl ⟨rfl, _, rfl, rfl⟩ rfl ⟨⟨_, rfl, rfl⟩, _, rfl, rfl⟩ (by simp [plcsW]))) ?_
  rintro ⟨i, L, l, L', l'⟩ ⟨h1, hA, hB⟩
  dsimp only at h1 hA hB
  have i4 : inR 4 := by unfold inR; omega
  have t0 : tlOK noRows = True := tlOK_no
  have hq := hi i
  generalize hK : modS (K i) 4 = m
  by_cases h3 : m = 3
  · subst h3
    have d1 : dnS ⟨L, noRows⟩ 3 (I i) (A i) (B i) (C i) (D i) = ⟨L, noRows⟩ := rfl
    have d2 : dnU L l 3 (I i) (A i) (B i) (C i) (D i) = .keep := rfl
    have e33 : ((3 : Int) == 3) = true := by decide
    have hll := hA.llen
    have hl := hA.len
    have hl3 : l.length ≤ 1000 := by omega
    simp only [go_sem, swF_eq, qN_eq, famNK_W', famNK_qN', ↓forall_eq, c15, c16, m32, F32, hi, hK, hA, hB, hl3, d1, d2, e33, t0, i4]
    exact ⟨fun hlt => ⟨by omega, hlt, by decide, by omega, hlt, ⟨by omega, hlt, fun h => (by simp at h), by omega, hlt, ⟨i + 1, L, l, L, l⟩, ⟨by show i + 1 ≤ k; omega, hA, hA⟩, by show k - (i + 1) < k - i; omega, pwFit (kw := 60) (kr := 62) (ea := some (62, 1)) (kv := 21) (kq := 22) (za := some (23, 0)) (by decide) (by rw [wrap_in (by unfold inR; omega)]; rfl) rfl rfl rfl rfl rfl ⟨⟨_, rfl, rfl⟩, _, rfl, rfl⟩ rfl ⟨⟨_, rfl, rfl⟩, _, rfl, rfl⟩ (by simp [plcsW])⟩, fun h => (by cases h)⟩, fun _ => trivial⟩
  · have e33 : (m == 3) = false := beq_eq_false_iff_ne.2 h3
    have hll := hA.llen
    have hl := hA.len
    rcases dn_cases (m := m) (i := I i) (a := A i) (b := B i) (c := C i) (d := D i) hA with ⟨L1, l1, r1, r2, d1, d2 | ⟨d2, rfl, rfl⟩⟩ | ⟨L1, l1, r1, d1, d2⟩
    · have hE : enL l.length (enF l1) = l1 := by rw [← r2]; exact enL_F
      have r2' : (l1.length = l.length) = True := eq_true r2
      simp only [go_sem, swF_eq, qN_eq, famNK_W', famNK_qN', ↓forall_eq, c15, c16, m32, F32, hi, hK, hA, hB, r1, r2', hE, d1, d2, e33, t0, i4]
      exact ⟨fun hlt => ⟨by omega, hlt, by decide, by omega, hlt, by omega, hlt, ⟨i + 1, L1, l1, L', l'⟩, ⟨by show i + 1 ≤ k; omega, r1, hB⟩, by show k - (i + 1) < k - i; omega, pwFit (kw := 21) (kr := 22) (ea := some (23, 0)) (kv := 24) (kq := 25) (za := some (26, 0)) (by decide) (by rw [wrap_in (by unfold inR; omega)]; rfl) rfl rfl rfl rfl rfl ⟨⟨_, rfl, by rw [r2]; rfl⟩, _, rfl, by rw [r2]; rfl⟩ rfl ⟨⟨_, rfl, rfl⟩, _, rfl, rfl⟩ (by simp [plcsW])⟩, fun _ => trivial⟩
    · simp only [go_sem, swF_eq, qN_eq, famNK_W', famNK_qN', ↓forall_eq, c15, c16, m32, F32, hi, hK, hA, hB, d1, d2, e33, t0, i4]
      exact ⟨fun hlt => ⟨by omega, hlt, by decide, by omega, hlt, by omega, hlt, ⟨i + 1, _, _, L', l'⟩, ⟨by show i + 1 ≤ k; omega, hA, hB⟩, by show k - (i + 1) < k - i; omega, pwFit (kw := 21) (kr := 22) (ea := some (23, 0)) (kv := 24) (kq := 25) (za := some (26, 0)) (by decide) (by rw [wrap_in (by unfold inR; omega)]; rfl) rfl rfl rfl rfl rfl ⟨⟨_, rfl, rfl⟩, _, rfl, rfl⟩ rfl ⟨⟨_, rfl, rfl⟩, _, rfl, rfl⟩ (by simp [plcsW])⟩, fun _ => trivial⟩
    · simp only [go_sem, swF_eq, qN_eq, famNK_W', famNK_qN', ↓forall_eq, c15, c16, m32, F32, hi, hK, hA, hB, r1, d1, d2, e33, t0, i4]
      exact ⟨fun hlt => ⟨by omega, hlt, by decide, by omega, hlt, by omega, hlt, ⟨i + 1, L1, l1, L', l'⟩, ⟨by show i + 1 ≤ k; omega, r1, hB⟩, by show k - (i + 1) < k - i; omega, pwFit (kw := 21) (kr := 22) (ea := some (37, 0)) (kv := 24) (kq := 25) (za := some (26, 0)) (by decide) (by rw [wrap_in (by unfold inR; omega)]; rfl) rfl rfl rfl rfl rfl ⟨⟨_, rfl, rfl⟩, _, rfl, rfl⟩ rfl ⟨⟨_, rfl, rfl⟩, _, rfl, rfl⟩ (by simp [plcsW])⟩, fun _ => trivial⟩
end Go.Ax
end

section
/-
  What is proved: for every input bagatellelaw04.IndexSweeps returns true, and the input reads ars it did. No further condition.
-/
namespace Go.Proofs.YtfpgjkeelegdpaaGreat.indexSweepsDone
open Go.ChangeShapes Go.WideShapes Go.ChangeAt Go.RowKit Go.Ax
set_option linter.unusedVariables false

theorem own : ownKnob Tryz.prog.godebug = none := by kernel_rfl

theorem ctx : CtxOK Tryz.prog [(28, .wr mN28), (29, .wr mN29), (15, c15), (30, .wr mN30), (31, .wr mN31), (32, .wr m32), (16, c16), (33, c33)] :=
  (.mcons mon28 (.mcons mon29 (.cons con15 (.mcons mon30 (.mcons mon31 (.mcons mon32 (.cons con16 (.cons con33 .nil))))))))

set_option maxRecDepth 100000 in
theorem walk {w : World} {avs : List AV} {vs : List Value} (h : fitVs [.slice 6 [.int .i64, .int .i64, .int .i64, .int .i64, .int .i64, .int .i64]] avs) (hR : Rs w (.ext (All w)) avs vs) :
    Calls Tryz.prog 5 vs.toArray w fun e w' => e = .returned (.bool true) ∧ Below w.heap.size w w' := by
  obtain ⟨_, _, rfl, ⟨k, get, rfl, hnk, hget⟩, rfl⟩ := h
  rw [(rowsS hget).1] at hR
  obtain ⟨_, k2⟩ := fn_sound ctx Tryz.func5 (by kernel_rfl) (vc5 (k := k) (rowsS hget).2) (All w) w vs (fun _ h => h) hR
  refine k2.mono fun e w' ⟨v, he, ⟨r, hr, hv⟩, hb⟩ => ?_
  subst hr
  cases hv
  exact ⟨he, hb⟩

set_option maxRecDepth 100000 in
theorem lifted (os : Os) (started : os.Started) (H : Type) (enc : TypeId × Value → H) :
    ReturnsInHanded {} Tryz.checked os 5 .any (Rows.indexSweepsSpec.pre6 enc Tryz.prog Tryz.f5 Rows.indexSweepsRow.domain false) (Rows.indexSweepsSpec.post enc Tryz.prog Tryz.f5 false true false false) := by
  refine returnsInHanded_of_change (C := Tryz.checked) own started (by kernel_rfl) Tryz.func5
    (ChangeSpec.witness6 (enc := enc) (C := Tryz.checked) false ⟨#[], #[.slice none 0 0], []⟩ 8 (by kernel_rfl) (by kernel_rfl) (by kernel_rfl) (by kernel_rfl)) ?_
  intro W base args ds gs before hval hW hcnd _
  have hW' := hW
  obtain ⟨p, q, hA, hV, rfl, hfz, hnd⟩ := hW
  obtain ⟨rfl, rfl⟩ := trodVars_none hV
  have hA' := hA
  rw [Tryz.params5] at hA hval
  obtain ⟨avs, w1, w2⟩ := args_read (P := Tryz.prog) (ss := [.slice 6 [.int .i64, .int .i64, .int .i64, .int .i64, .int .i64, .int .i64]]) (by kernel_rfl) (fun j t v hj hv => hval j t v (by simpa using hj) (by simpa using hv)) hA
  obtain ⟨v0, vs0, d0, ds0, p0, q0, hargs, rfl, rfl, h0, r0⟩ := trodAll_cons hA
  obtain ⟨rfl, rfl, rfl⟩ := trodAll_nil r0
  have hw := walk w1 w2
  rw [show args.toList.toArray = args by simp] at hw
  refine hw.mono fun e W' ⟨he, bel⟩ => ?_
  subst he
  obtain ⟨ps, hst⟩ := args_stay laidOut bel (by kernel_rfl) hA'
  exact ⟨_, rfl, _, _, _, [], _, [], hW', trodAll_mk1 (shut_bool Tryz.underlying4 _), hst, rfl, bel.frame _, fun h => by cases h⟩

theorem func : Tryz.pinned.checked.prog.funcNamed Rows.indexSweepsRow.func = some 5 := by kernel_rfl
theorem four : ((Rows.indexSweepsRow.inPlace == Tryz.prog.inPlace 5) = true) ∧ ((Rows.indexSweepsRow.unfollowed == Tryz.prog.unfollowed 5) = true) ∧ ((Rows.indexSweepsRow.recurses == Tryz.prog.recurses 5) = true) ∧ ((Rows.indexSweepsRow.named == Tryz.prog.varsNamed 5) = true) := by
  have h : ((Rows.indexSweepsRow.inPlace == Tryz.prog.inPlace 5) && ((Rows.indexSweepsRow.unfollowed == Tryz.prog.unfollowed 5) && ((Rows.indexSweepsRow.recurses == Tryz.prog.recurses 5) && (Rows.indexSweepsRow.named == Tryz.prog.varsNamed 5)))) = true := by kernel_rfl
  simpa only [Bool.and_eq_true] using h
theorem facts : joinedFacts Tryz.prog 5 Tryz.f5 Rows.indexSweepsSpec Rows.indexSweepsRow = true :=
  andT (andT (andT (andT (andT (andT (andT (andT (andT (andT (andT (andT (andT (andT (andT (andT (andT (andT (andT (andT (andT (andT (andT (andT (andT (andT (andT (andT (andT (andT (andT (by kernel_rfl) laidOut) fRowed) (by kernel_rfl)) (by kernel_rfl)) (by kernel_rfl)) fStops) (by kernel_rfl)) fStopK) four.1) four.2.1) four.2.2.1) four.2.2.2) (by kernel_rfl)) (by kernel_rfl)) (by kernel_rfl)) (by kernel_rfl)) (by kernel_rfl)) (by kernel_rfl)) (by kernel_rfl)) (by kernel_rfl)) (by kernel_rfl)) fPlain) (by kernel_rfl)) fHeard) fMay) fLift) fMake) (by kernel_rfl)) (by kernel_rfl)) (by kernel_rfl)) (by kernel_rfl)
theorem over : Rows.indexSweepsRow.holds Tryz.pinned (OpenSpec.ofChange Rows.indexSweepsSpec) :=
  OpenClaim.holds_of_wide 5 Tryz.f5 rfl rfl rfl rfl rfl rfl rfl ⟨rfl, rfl, rfl, rfl, rfl⟩ rfl rfl rfl rfl rfl func Tryz.func5 facts
    (of_decide_eq_true (by kernel_rfl)) (by unfold Func.isWrapper; first | (rw [if_pos (by decide +kernel)]; kernel_rfl) | (rw [if_neg (by decide +kernel)]; exact ⟨rfl, rfl⟩))
    (fun os started H enc _ => lifted os started H enc)

theorem proved : Rows.IndexSweepsSaid := over
#print axioms proved
end Go.Proofs.YtfpgjkeelegdpaaGreat.indexSweepsDone
end
