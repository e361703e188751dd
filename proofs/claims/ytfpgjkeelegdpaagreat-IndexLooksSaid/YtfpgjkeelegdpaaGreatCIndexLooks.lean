/-
  The law of looks, act by act.
-/
import Derived.Test.YtfpgjkeelegdpaaGreatCM9
import Derived.Test.YtfpgjkeelegdpaaGreatRows
import Derived.WalkKit
import Derived.ProofKit
section
set_option linter.unusedVariables false
set_option linter.unusedSimpArgs false
set_option maxHeartbeats 4000000
set_option maxRecDepth 100000
namespace Go.Ax
open Go.Proofs
abbrev lkL (p : PwS) : Slots := [(11, i64 p.i)]
noncomputable abbrev lkR (p : PwS) : Mem := [(4, swF 4 ⟨p.L, noRows⟩), (5, qS 16 p.l.length), (16, qE p.l)]
def enLk (m : Mem) (l : List En) : Option Nat → Prop
  | some e => look m 5 = some (qS e l.length) ∧ look m e = some (qE l)
  | none => l = [] ∧ look m 5 = some (fam1 121 2 [bo true, .v (.slice none 0 0)] none)
def thLk (ea : Option Nat) : Alias := fun r f => if r < 16 then some (r, f) else if f ≠ 0 then none else if r = 16 then ea.map fun e => (e, 0) else none
theorem lkFit {ea : Option Nat} {W : List Nat} {t : Slots} {m : Mem} {p : PwS} (hW : 11 ∈ W) (t7 : slot t 11 = i64 p.i)
    (m0 : look m 4 = some (swF 4 ⟨p.L, noRows⟩)) (m1 : enLk m p.l ea) (hd : ∀ e, ea = some e → 5 < e) : ∃ θ, fitSlotsA 16 17 θ W t (lkL p) ∧ fitRowsA 16 17 θ m (lkR p) ∧ goodA 16 1 θ (lkR p) [0, 1, 2] := by
  have a1 : ∀ r f, r < 16 → thLk ea r f = some (r, f) := fun r f h => by simp [thLk, h]
  have a2 : ∀ f, thLk ea 16 (f + 1) = none := fun f => by simp [thLk]
  have a3 : thLk ea 16 0 = ea.map fun e => (e, 0) := by simp [thLk]
  refine ⟨thLk ea, ⟨hW, ⟨t7, trivial⟩, trivial⟩, ⟨fitA_sw (fun f => a1 _ _ (by decide)) (by decide) m0, fun f => ?_, fun f => ?_, trivial⟩, fun r f h => a1 r f h, fun e he => ?_, fun r f r' f' q g hr hr' e1 e2 => ?_⟩
  · rw [a1 _ _ (by decide)]
    match ea, m1, a3 with
    | some e, ⟨h1, h2⟩, a3 =>
      refine ⟨_, h1, ?_⟩
      match f with
      | 0 => exact ⟨rfl, rfl, rfl, rfl, rfl, fun j _ => ⟨⟨rfl, trivial⟩, ⟨by decide, by rw [a3]; rfl⟩, trivial⟩⟩
      | f + 1 => exact ⟨rfl, rfl, rfl, rfl, rfl, fun j hj => by have hj : j < 0 := hj; omega⟩
    | none, ⟨h5, h1⟩, a3 =>
      rw [h5]
      refine ⟨_, h1, ?_⟩
      match f with
      | 0 => exact ⟨rfl, rfl, rfl, rfl, rfl, fun j _ => ⟨⟨rfl, trivial⟩, ⟨by decide, by rw [a3]; exact ⟨rfl, rfl⟩⟩, trivial⟩⟩
      | f + 1 => exact ⟨rfl, rfl, rfl, rfl, rfl, fun j hj => by have hj : j < 0 := hj; omega⟩
  · match f with
    | f + 1 => rw [a2]; exact ⟨rfl, rfl⟩
    | 0 =>
      rw [a3]
      match ea, m1 with
      | some e, ⟨h1, h2⟩ => exact ⟨_, h2, rfl, rfl, rfl, rfl, rfl, fun j _ => ⟨⟨rfl, trivial⟩, ⟨rfl, trivial⟩, ⟨rfl, trivial⟩, ⟨rfl, trivial⟩, ⟨rfl, trivial⟩, trivial⟩⟩
      | none, ⟨h5, _⟩ => rw [h5]; exact ⟨rfl, rfl⟩
  · simp only [List.mem_cons, List.not_mem_nil, or_false] at he
    rcases he with rfl | rfl | rfl <;> dsimp only <;> omega
  · have c : ∀ r f, (r ∈ (lkR p).map (·.1) ∨ r ∈ [0, 1, 2]) → thLk ea r f = some (q, g) → (r ≤ 5 ∧ q = r ∧ g = f) ∨ (r = 16 ∧ f = 0 ∧ 5 < q) := fun r f hr he => by
      have hr : r = 4 ∨ r = 5 ∨ r = 16 ∨ r = 0 ∨ r = 1 ∨ r = 2 := by
        simp only [List.map_cons, List.map_nil, List.mem_cons, List.not_mem_nil, or_false] at hr
        omega
      by_cases h : r < 16
      · rw [a1 _ _ h] at he; cases he; exact .inl ⟨by omega, rfl, rfl⟩
      · obtain rfl : r = 16 := by omega
        match f with
        | f + 1 => rw [a2] at he; cases he
        | 0 =>
          rw [a3] at he
          rcases ea with _ | e'
          · cases he
          · cases he
            exact .inr ⟨rfl, rfl, hd _ rfl⟩
    have d1 := c r f hr e1
    have d2 := c r' f' hr' e2
    omega
theorem keyA_v {x : Value} : keyA (.v x) = none := (rfl)
theorem eqK_none {r : Nat} : eqK r none = false := (rfl)
attribute [go_sem] keyA_v eqK_none
theorem fit4 {A B C : Alias → Prop} {K : Prop} (hK : K) : (∃ θ, A θ ∧ B θ ∧ C θ) → ∃ θ, A θ ∧ B θ ∧ K ∧ C θ := fun ⟨θ, a, b, c⟩ => ⟨θ, a, b, hK, c⟩
theorem vc9 {k : Nat} {K I A B C D : Nat → Int} {b0 b1 b2 b3 f0 f1 t0 t1 : Int} (hi : ∀ i, inR (K i) ∧ inR (I i) ∧ inR (A i) ∧ inR (B i) ∧ inR (C i) ∧ inR (D i)) (hb : inR b0 ∧ inR b1 ∧ inR b2 ∧ inR b3) (hf : inR f0 ∧ inR f1 ∧ inR t0 ∧ inR t1) : fnVC Tryz.prog [(28, .wr mN28), (29, .wr mN29), (15, c15), (32, .wr m32), (50, .wr mN50), (51, .wr mN51), (49, c49), (24, .wr mN24), (52, .wr mN52), (33, c33)] [(9, ⟨[(5, .call), (11, .calls 99999), (15, .call)], [(13, [.slot 99999]), (14, [.slot 99999])]⟩)] Tryz.f9 [.ro k 6 fun i => [i64 (K i), i64 (I i), i64 (A i), i64 (B i), i64 (C i), i64 (D i)], .agg [i64 b0, i64 b1, i64 b2, i64 b3], .agg [i64 f0, i64 f1], .agg [i64 t0, i64 t1]] (· = bo true) := by
  refine fnVC_go (rs := [.tmp 8]) rfl rfl ?_
  simp only [go_sem, swF_eq, famNK_W', ↓forall_eq, c15]
  refine ⟨fun _ => trivial, fun hk => ?_⟩
  refine loopA_go (PwI k) (fun p => k - p.i) lkL lkR [0, 1, 2] [26, 27, 28, 29, 32, 33, 34, 35, 36, 37, 38, 39, 8, 30, 31, 11] 1 ⟨0, [], [], [], []⟩ (by kernel_rfl) ⟨Nat.zero_le _, RelW.nil, RelW.nil⟩ (fit4 (by simp [fitKeep]) (lkFit (ea := none) (by decide) rfl rfl ⟨rfl, rfl⟩ (fun e he => by cases he))) ?_
  rintro ⟨i, L, l, L', l'⟩ ⟨h1, hA, hB⟩
  dsimp only at h1 hA hB
  have i4 : inR 4 := by unfold inR; omega
  have t0' : tlOK noRows = True := tlOK_no
  have hll := hA.llen
  have hl := hA.len
  have hl3 : l.length ≤ 1000 := by omega
  have hl4 : L.length ≤ 1000 := by omega
  have hin := hA.enIn
  have hsel := hA.selIn
  have hs := fun p => hA.seen p
  have hle1 : (seeL (fun x y z t => meetsS x y z t b0 b1 b2 b3) l).length ≤ L.length := by rw [← hs]; exact seenL_le
  have hle2 : (seeL (fun x y z t => alS x y z t f0 f1 t0 t1) l).length ≤ L.length := by rw [← hs]; exact seenL_le
  generalize hK : modS (K i) 4 = m
  have lX_0 : ∀ f : Nat → Int, lX 0 f = [] := fun _ => rfl
  rcases dn_cases (m := m) (i := I i) (a := A i) (b := B i) (c := C i) (d := D i) hA with ⟨L1, l1, r1, r2, d1, d2 | ⟨d2, rfl, rfl⟩⟩ | ⟨L1, l1, r1, d1, d2⟩
  · have hE : enL l.length (enF l1) = l1 := by rw [← r2]; exact enL_F
    have r2' : (l1.length = l.length) = True := eq_true r2
    by_cases hz : checkBoxS b0 b1 b2 b3 = 0
    · simp only [go_sem, swF_eq, famNK_W', ↓forall_eq, c15, c16, m32, F32, F50, F24, hz, hi, hb, hf, hK, hA, r1, r2', hE, d1, d2, t0', i4, hl3, hl4, hin, hsel, hs, hle1, hle2]
      exact ⟨fun hlt => ⟨by omega, hlt, by decide, ⟨i + 1, L1, l1, L', l'⟩, ⟨by show i + 1 ≤ k; omega, r1, hB⟩, by show k - (i + 1) < k - i; omega, lkFit (ea := some 16) (by decide) (by rw [wrap_in (by unfold inR; omega)]; rfl) rfl ⟨by rw [r2]; rfl, by show _ = some (famN l1.length 5 130 (enF l1) none); rw [r2]; rfl⟩ (fun e he => by cases he; decide)⟩, fun _ => ⟨by omega, ⟨by omega, fun h => (by cases h)⟩, fun h => (by cases h)⟩⟩
    · have hsn : ∀ l : List En, seeL (fun x y z t => meetsS x y z t b0 b1 b2 b3) l = [] := fun l => see_no hz
      have e51 : ∀ (l : List En) (ob : List Prop), F51ng b0 b1 b2 b3 l (checkBoxS b0 b1 b2 b3) ob = some (ob, fun _ => .v (.slice none 0 0), fun _ => none) := fun l ob => F51ng_n hz
      simp only [go_sem, swF_eq, famNK_W', ↓forall_eq, c15, c16, m32, F32, F50, F24, e51, hsn, lX_0, List.length_nil, Nat.zero_le, hi, hb, hf, hK, hA, r1, r2', hE, d1, d2, t0', i4, hl3, hl4, hin, hsel, hs, hle1, hle2]
      exact ⟨fun hlt => ⟨by omega, hlt, by decide, ⟨i + 1, L1, l1, L', l'⟩, ⟨by show i + 1 ≤ k; omega, r1, hB⟩, by show k - (i + 1) < k - i; omega, lkFit (ea := some 16) (by decide) (by rw [wrap_in (by unfold inR; omega)]; rfl) rfl ⟨by rw [r2]; rfl, by show _ = some (famN l1.length 5 130 (enF l1) none); rw [r2]; rfl⟩ (fun e he => by cases he; decide)⟩, fun _ => ⟨⟨by omega, fun h => (by cases h)⟩, fun h => (by cases h)⟩⟩
  · by_cases hz : checkBoxS b0 b1 b2 b3 = 0
    · simp only [go_sem, swF_eq, famNK_W', ↓forall_eq, c15, c16, m32, F32, F50, F24, hz, hi, hb, hf, hK, hA, d1, d2, t0', i4, hl3, hl4, hin, hsel, hs, hle1, hle2]
      exact ⟨fun hlt => ⟨by omega, hlt, by decide, ⟨i + 1, _, _, L', l'⟩, ⟨by show i + 1 ≤ k; omega, hA, hB⟩, by show k - (i + 1) < k - i; omega, lkFit (ea := some 16) (by decide) (by rw [wrap_in (by unfold inR; omega)]; rfl) rfl ⟨rfl, rfl⟩ (fun e he => by cases he; decide)⟩, fun _ => ⟨by omega, ⟨by omega, fun h => (by cases h)⟩, fun h => (by cases h)⟩⟩
    · have hsn : ∀ l : List En, seeL (fun x y z t => meetsS x y z t b0 b1 b2 b3) l = [] := fun l => see_no hz
      have e51 : ∀ (l : List En) (ob : List Prop), F51ng b0 b1 b2 b3 l (checkBoxS b0 b1 b2 b3) ob = some (ob, fun _ => .v (.slice none 0 0), fun _ => none) := fun l ob => F51ng_n hz
      simp only [go_sem, swF_eq, famNK_W', ↓forall_eq, c15, c16, m32, F32, F50, F24, e51, hsn, lX_0, List.length_nil, Nat.zero_le, hi, hb, hf, hK, hA, d1, d2, t0', i4, hl3, hl4, hin, hsel, hs, hle1, hle2]
      exact ⟨fun hlt => ⟨by omega, hlt, by decide, ⟨i + 1, _, _, L', l'⟩, ⟨by show i + 1 ≤ k; omega, hA, hB⟩, by show k - (i + 1) < k - i; omega, lkFit (ea := some 16) (by decide) (by rw [wrap_in (by unfold inR; omega)]; rfl) rfl ⟨rfl, rfl⟩ (fun e he => by cases he; decide)⟩, fun _ => ⟨⟨by omega, fun h => (by cases h)⟩, fun h => (by cases h)⟩⟩
  · by_cases hz : checkBoxS b0 b1 b2 b3 = 0
    · simp only [go_sem, swF_eq, famNK_W', ↓forall_eq, c15, c16, m32, F32, F50, F24, hz, hi, hb, hf, hK, hA, r1, d1, d2, t0', i4, hl3, hl4, hin, hsel, hs, hle1, hle2]
      exact ⟨fun hlt => ⟨by omega, hlt, by decide, ⟨i + 1, L1, l1, L', l'⟩, ⟨by show i + 1 ≤ k; omega, r1, hB⟩, by show k - (i + 1) < k - i; omega, lkFit (ea := some 27) (by decide) (by rw [wrap_in (by unfold inR; omega)]; rfl) rfl ⟨rfl, rfl⟩ (fun e he => by cases he; decide)⟩, fun _ => ⟨by omega, ⟨by omega, fun h => (by cases h)⟩, fun h => (by cases h)⟩⟩
    · have hsn : ∀ l : List En, seeL (fun x y z t => meetsS x y z t b0 b1 b2 b3) l = [] := fun l => see_no hz
      have e51 : ∀ (l : List En) (ob : List Prop), F51ng b0 b1 b2 b3 l (checkBoxS b0 b1 b2 b3) ob = some (ob, fun _ => .v (.slice none 0 0), fun _ => none) := fun l ob => F51ng_n hz
      simp only [go_sem, swF_eq, famNK_W', ↓forall_eq, c15, c16, m32, F32, F50, F24, e51, hsn, lX_0, List.length_nil, Nat.zero_le, hi, hb, hf, hK, hA, r1, d1, d2, t0', i4, hl3, hl4, hin, hsel, hs, hle1, hle2]
      exact ⟨fun hlt => ⟨by omega, hlt, by decide, ⟨i + 1, L1, l1, L', l'⟩, ⟨by show i + 1 ≤ k; omega, r1, hB⟩, by show k - (i + 1) < k - i; omega, lkFit (ea := some 27) (by decide) (by rw [wrap_in (by unfold inR; omega)]; rfl) rfl ⟨rfl, rfl⟩ (fun e he => by cases he; decide)⟩, fun _ => ⟨⟨by omega, fun h => (by cases h)⟩, fun h => (by cases h)⟩⟩
end Go.Ax
end

section
/-
  What is proved: for every input bagatellelaw04.IndexLooks returns true, and the input reads ars it did. No further condition.
-/
namespace Go.Proofs.YtfpgjkeelegdpaaGreat.indexLooksDone
open Go.ChangeShapes Go.WideShapes Go.ChangeAt Go.RowKit Go.Ax
set_option linter.unusedVariables false

theorem own : ownKnob Tryz.prog.godebug = none := by kernel_rfl

theorem ctx : CtxOK Tryz.prog [(28, .wr mN28), (29, .wr mN29), (15, c15), (32, .wr m32), (50, .wr mN50), (51, .wr mN51), (49, c49), (24, .wr mN24), (52, .wr mN52), (33, c33)] :=
  (.mcons mon28 (.mcons mon29 (.cons con15 (.mcons mon32 (.mcons mon50 (.mcons mon51 (.cons con49 (.mcons mon24 (.mcons mon52 (.cons con33 .nil))))))))))

set_option maxRecDepth 100000 in
theorem walk {w : World} {avs : List AV} {vs : List Value} (h : fitVs [.slice 6 [.int .i64, .int .i64, .int .i64, .int .i64, .int .i64, .int .i64], .agg [.int .i64, .int .i64, .int .i64, .int .i64], .agg [.int .i64, .int .i64], .agg [.int .i64, .int .i64]] avs) (hR : Rs w (.ext (All w)) avs vs) :
    Calls Tryz.prog 9 vs.toArray w fun e w' => e = .returned (.bool true) ∧ Below w.heap.size w w' := by
  obtain ⟨_, _, rfl, ⟨k, get, rfl, hnk, hget⟩, _, _, rfl, ⟨_, rfl, ⟨_, _, rfl, ⟨b0, rfl, hb0⟩, _, _, rfl, ⟨b1, rfl, hb1⟩, _, _, rfl, ⟨b2, rfl, hb2⟩, _, _, rfl, ⟨b3, rfl, hb3⟩, rfl⟩⟩, _, _, rfl, ⟨_, rfl, ⟨_, _, rfl, ⟨f0, rfl, hf0⟩, _, _, rfl, ⟨f1, rfl, hf1⟩, rfl⟩⟩, _, _, rfl, ⟨_, rfl, ⟨_, _, rfl, ⟨t0, rfl, ht0⟩, _, _, rfl, ⟨t1, rfl, ht1⟩, rfl⟩⟩, rfl⟩ := h
  rw [(rowsS hget).1] at hR
  obtain ⟨_, k2⟩ := fn_sound ctx Tryz.func9 (by kernel_rfl) (vc9 (k := k) (rowsS hget).2 ⟨wf_i64 hb0, wf_i64 hb1, wf_i64 hb2, wf_i64 hb3⟩ ⟨wf_i64 hf0, wf_i64 hf1, wf_i64 ht0, wf_i64 ht1⟩) (All w) w vs (fun _ h => h) hR
  refine k2.mono fun e w' ⟨v, he, ⟨r, hr, hv⟩, hb⟩ => ?_
  subst hr
  cases hv
  exact ⟨he, hb⟩

set_option maxRecDepth 100000 in
theorem lifted (os : Os) (started : os.Started) (H : Type) (enc : TypeId × Value → H) :
    ReturnsInHanded {} Tryz.checked os 9 .any (Rows.indexLooksSpec.pre6 enc Tryz.prog Tryz.f9 Rows.indexLooksRow.domain false) (Rows.indexLooksSpec.post enc Tryz.prog Tryz.f9 false true false false) := by
  refine returnsInHanded_of_change (C := Tryz.checked) own started (by kernel_rfl) Tryz.func9
    (ChangeSpec.witness6 (enc := enc) (C := Tryz.checked) false ⟨#[], #[.slice none 0 0, .agg #[.int .i64 0, .int .i64 0, .int .i64 0, .int .i64 0], .agg #[.int .i64 0, .int .i64 0], .agg #[.int .i64 0, .int .i64 0]], []⟩ 8 (by kernel_rfl) (by kernel_rfl) (by kernel_rfl) (by kernel_rfl)) ?_
  intro W base args ds gs before hval hW hcnd _
  have hW' := hW
  obtain ⟨p, q, hA, hV, rfl, hfz, hnd⟩ := hW
  obtain ⟨rfl, rfl⟩ := trodVars_none hV
  have hA' := hA
  rw [Tryz.params9] at hA hval
  obtain ⟨avs, w1, w2⟩ := args_read (P := Tryz.prog) (ss := [.slice 6 [.int .i64, .int .i64, .int .i64, .int .i64, .int .i64, .int .i64], .agg [.int .i64, .int .i64, .int .i64, .int .i64], .agg [.int .i64, .int .i64], .agg [.int .i64, .int .i64]]) (by kernel_rfl) (fun j t v hj hv => hval j t v (by simpa using hj) (by simpa using hv)) hA
  obtain ⟨v0, vs0, d0, ds0, p0, q0, hargs, rfl, rfl, h0, r0⟩ := trodAll_cons hA
  obtain ⟨v1, vs1, d1, ds1, p1, q1, rfl, rfl, rfl, h1, r1⟩ := trodAll_cons r0
  obtain ⟨v2, vs2, d2, ds2, p2, q2, rfl, rfl, rfl, h2, r2⟩ := trodAll_cons r1
  obtain ⟨v3, vs3, d3, ds3, p3, q3, rfl, rfl, rfl, h3, r3⟩ := trodAll_cons r2
  obtain ⟨rfl, rfl, rfl⟩ := trodAll_nil r3
  have hw := walk w1 w2
  rw [show args.toList.toArray = args by simp] at hw
  refine hw.mono fun e W' ⟨he, bel⟩ => ?_
  subst he
  obtain ⟨ps, hst⟩ := args_stay laidOut bel (by kernel_rfl) hA'
  exact ⟨_, rfl, _, _, _, [], _, [], hW', trodAll_mk1 (shut_bool Tryz.underlying4 _), hst, rfl, bel.frame _, fun h => by cases h⟩

theorem func : Tryz.pinned.checked.prog.funcNamed Rows.indexLooksRow.func = some 9 := by kernel_rfl
theorem four : ((Rows.indexLooksRow.inPlace == Tryz.prog.inPlace 9) = true) ∧ ((Rows.indexLooksRow.unfollowed == Tryz.prog.unfollowed 9) = true) ∧ ((Rows.indexLooksRow.recurses == Tryz.prog.recurses 9) = true) ∧ ((Rows.indexLooksRow.named == Tryz.prog.varsNamed 9) = true) := by
  have h : ((Rows.indexLooksRow.inPlace == Tryz.prog.inPlace 9) && ((Rows.indexLooksRow.unfollowed == Tryz.prog.unfollowed 9) && ((Rows.indexLooksRow.recurses == Tryz.prog.recurses 9) && (Rows.indexLooksRow.named == Tryz.prog.varsNamed 9)))) = true := by kernel_rfl
  simpa only [Bool.and_eq_true] using h
theorem facts : joinedFacts Tryz.prog 9 Tryz.f9 Rows.indexLooksSpec Rows.indexLooksRow = true :=
  andT (andT (andT (andT (andT (andT (andT (andT (andT (andT (andT (andT (andT (andT (andT (andT (andT (andT (andT (andT (andT (andT (andT (andT (andT (andT (andT (andT (andT (andT (andT (by kernel_rfl) laidOut) fRowed) (by kernel_rfl)) (by kernel_rfl)) (by kernel_rfl)) fStops) (by kernel_rfl)) fStopK) four.1) four.2.1) four.2.2.1) four.2.2.2) (by kernel_rfl)) (by kernel_rfl)) (by kernel_rfl)) (by kernel_rfl)) (by kernel_rfl)) (by kernel_rfl)) (by kernel_rfl)) (by kernel_rfl)) (by kernel_rfl)) fPlain) (by kernel_rfl)) fHeard) fMay) fLift) fMake) (by kernel_rfl)) (by kernel_rfl)) (by kernel_rfl)) (by kernel_rfl)
theorem over : Rows.indexLooksRow.holds Tryz.pinned (OpenSpec.ofChange Rows.indexLooksSpec) :=
  OpenClaim.holds_of_wide 9 Tryz.f9 rfl rfl rfl rfl rfl rfl rfl ⟨rfl, rfl, rfl, rfl, rfl⟩ rfl rfl rfl rfl rfl func Tryz.func9 facts
    (of_decide_eq_true (by kernel_rfl)) (by unfold Func.isWrapper; first | (rw [if_pos (by decide +kernel)]; kernel_rfl) | (rw [if_neg (by decide +kernel)]; exact ⟨rfl, rfl⟩))
    (fun os started H enc _ => lifted os started H enc)

theorem proved : Rows.IndexLooksSaid := over
#print axioms proved
end Go.Proofs.YtfpgjkeelegdpaaGreat.indexLooksDone
end
