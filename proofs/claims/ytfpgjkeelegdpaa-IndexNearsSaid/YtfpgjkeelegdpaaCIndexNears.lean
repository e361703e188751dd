/-
  The law of what is near.
-/
import Derived.Test.YtfpgjkeelegdpaaCM10
import Derived.Test.YtfpgjkeelegdpaaRows
import Derived.WalkKit
import Derived.ProofKit
section
set_option linter.unusedVariables false
set_option linter.unusedSimpArgs false
set_option maxHeartbeats 4000000
set_option maxRecDepth 100000
namespace Go.Ax
open Go.Proofs
theorem bx_fine {x w : Int} : -50 ≤ bxX x 50 ∧ bxX x 50 ≤ bxF x w 50 30 ∧ bxX x 50 ≤ 50 ∧ bxF x w 50 30 ≤ 80 := by
  have a := modS_in (n := x) (m := 2 * 50 + 1) (by omega)
  have b := modS_in (n := w) (m := 30 + 1) (by omega)
  unfold bxF bxX
  omega
theorem bru_last {L : Ents} {z : Int} : ∀ {l : List Int}, z ∉ l → (bruP L (l ++ [z])).filter (fun p => p.2 == z) = (l.filter fun a => mtK L a z).map fun a => (a, z)
  | [], _ => by simp [bruP]
  | a :: t, h => by
    rw [List.mem_cons, not_or] at h
    have hm : ((t ++ [z]).filter fun b => mtK L a b).map (fun b => (a, b)) = ((t.filter fun b => mtK L a b).map fun b => (a, b)) ++ (if mtK L a z = true then [(a, z)] else []) := by
      rw [List.filter_append, List.map_append]
      congr 1
      by_cases h1 : mtK L a z = true
      · rw [if_pos h1]; simp [h1]
      · rw [if_neg h1]; simp [h1]
    have hno : ((t.filter fun b => mtK L a b).map fun b => (a, b)).filter (fun p => p.2 == z) = [] := by
      rw [List.filter_eq_nil_iff]
      intro p hp
      obtain ⟨b, hb, rfl⟩ := List.mem_map.1 hp
      have hb := (List.mem_filter.1 hb).1
      simp only [beq_iff_eq]
      intro e
      exact h.2 (e ▸ hb)
    rw [List.cons_append, bruP, hm, List.filter_append, List.filter_append, hno, bru_last h.2, List.nil_append, List.filter_cons]
    by_cases h1 : mtK L a z = true
    · rw [if_pos h1, if_pos h1]; simp
    · rw [if_neg h1, if_neg h1]; simp
theorem rngI_succ {n : Nat} : rngI (n + 1) = rngI n ++ [(n : Int)] := by unfold rngI; rw [List.range_succ, List.map_append]; rfl
def hsIf (z : Int) : Option (List Prop × Nat × (Nat → Int)) → Option (List Prop × AV)
  | some (ob, n, X) => some (c18f n X z ob)
  | none => none
theorem hsI_eq {a : AV} {z : Int} : c18 [a, i64 z] = hsIf z (roI a) := by
  unfold c18 hsIf
  dsimp only
  cases roI a <;> rfl
theorem hsI_some {z : Int} {ob : List Prop} {n : Nat} {X : Nat → Int} : hsIf z (some (ob, n, X)) = some (c18f n X z ob) := (rfl)
theorem lX_getD {l : List Int} : lX l.length (fun i => l.getD i 0) = l := by
  unfold lX
  refine List.ext_getElem (by simp) fun i h1 h2 => ?_
  rw [List.getElem_map, List.getElem_range, List.getD_eq_getElem?_getD, List.getElem?_eq_getElem h2]; rfl
theorem vc4 {k : Nat} {X : Nat → Int} {x y w h gr : Int} (hk : k ≤ 9223372036854775807) (hX : ∀ i, inR (X i)) (hx : inR x) (hy : inR y) (hw : inR w) (hh : inR h) (hg : inR gr) : fnVC Try.prog [(8, c8), (14, c14), (9, .wr mN9), (15, .wr mN15), (16, c16), (17, .wr m17), (12, .wr mN12), (18, c18), (13, c13)] [] Try.f4 [.ro k 1 fun i => [i64 (X i)], i64 x, i64 y, i64 w, i64 h, i64 gr] (· = bo true) := by
  refine fnVC_go (rs := [.tmp 12]) rfl rfl ?_
  simp only [go_sem, hk, swF_eq, famNK_W', c14, c16, m17, F17, hx, hy, hw, hh, hg]
  have hn20 : bxN k 20 ≤ 20 := by unfold bxN; omega
  have hsp := bxS_in (k := k) (X := X)
  have hok := fun j => bxG_ok (X := X) hsp.1 hsp.2.1 hsp.2.2 j
  have hI : SwI (bxN k 20) (ptL (bxN k 20) false (bxI (bxG (bxS k X).1 (bxS k X).2 X)) (bxN k 20)) := ptL_I fun j _ => ⟨_, _, _, _, rfl, hok j⟩
  generalize ptL (bxN k 20) false (bxI (bxG (bxS k X).1 (bxS k X).2 X)) (bxN k 20) = L at hI ⊢
  generalize bxN k 20 = n at hn20 hI ⊢
  clear hok hsp
  have q1 := bx_fine (x := x) (w := w)
  have q2 := bx_fine (x := y) (w := h)
  have hlen := hI.len
  refine ⟨hX, fun a0 h0 a1 h1 a2 h2 a3 h3 => ?_⟩
  rw [← h0, ← h2] at q1
  rw [← h1, ← h3] at q2
  clear h0 h1 h2 h3
  refine ⟨by omega, hI.selIn, by omega, by unfold inR; omega, by unfold inR; omega, by unfold inR; omega, by unfold inR; omega, fun g hg2 => ⟨by unfold inR; omega, ?_⟩⟩
  have hgb := modS_in (n := gr) (m := 40) (by omega)
  rw [← hg2] at hgb
  clear hg2
  have hcb : checkBoxS a0 a1 a2 a3 = 0 := checkBoxS_iff.2 (by omega)
  have hno : memSel L (n : Int) = none := selNone fun hm => by have := (hI.key _).1 hm; omega
  have e1 : putE L (n : Int) a0 a1 a2 a3 = 0 := by unfold putE; rw [if_neg (by omega), if_neg (by rw [hcb]; decide), hno, if_neg (by decide), if_neg (by omega)]
  have e2 : putW ⟨L, noRows⟩ (n : Int) a0 a1 a2 a3 = ⟨memPut L n [a0, a1, a2, a3], noRows⟩ := by unfold putW; dsimp only; rw [e1]; rfl
  have hsel : ∀ q, memSel (memPut L n [a0, a1, a2, a3]) q = if (n : Int) = q then some [a0, a1, a2, a3] else memSel L q := fun q => sel_put
  have hI2 : SwI (n + 1) (memPut L n [a0, a1, a2, a3]) := by
    have hm : (n : Int) ∉ L.map (·.1) := fun hm => by have := (hI.key _).1 hm; omega
    have hks : (memPut L n [a0, a1, a2, a3]).map (·.1) = L.map (·.1) ++ [(n : Int)] := by rw [keys_put, if_neg hm]
    refine ⟨?_, fun q => ?_, fun q v hv => ?_⟩
    · unfold keysN
      rw [hks, List.nodup_append]
      exact ⟨hI.nod, by simp, fun a ha b hb => by simp only [List.mem_cons, List.not_mem_nil, or_false] at hb; rw [hb]; exact fun e => hm (e ▸ ha)⟩
    · rw [hks, List.mem_append, hI.key]
      simp only [List.mem_cons, List.not_mem_nil, or_false]
      omega
    · rw [hsel] at hv
      by_cases e : (n : Int) = q
      · rw [if_pos e] at hv; cases hv; exact ⟨_, _, _, _, rfl, hcb⟩
      · rw [if_neg e] at hv; exact hI.box q v hv
  have b0 : ((0 : Int) != 0) = false := by decide
  have t0 : tlOK noRows = True := tlOK_no
  rw [e1, e2]
  have hlen2 := hI2.len
  have hmt : ∀ a, a ≠ (n : Int) → mtK (memPut L n [a0, a1, a2, a3]) a n = meetsS (selAt (memSel L a) 0) (selAt (memSel L a) 1) (selAt (memSel L a) 2) (selAt (memSel L a) 3) a0 a1 a2 a3 := fun a ha => by
    unfold mtK
    rw [hsel a, if_neg (fun e => ha e.symm), hsel n, if_pos rfl]; rfl
  have hpr : pairsL (memPut L n [a0, a1, a2, a3]) = bruP (memPut L n [a0, a1, a2, a3]) (rngI n ++ [(n : Int)]) := by rw [pairs_eq hI2.nod, hI2.srt, rngI_succ]
  have hnr : (n : Int) ∉ rngI n := fun hm => by have := rngI_mem.1 hm; omega
  have hflt : (pairsL (memPut L n [a0, a1, a2, a3])).filter (fun p => p.2 == (n : Int)) = (seenL L fun x y z t => meetsS x y z t a0 a1 a2 a3).map fun a => (a, (n : Int)) := by
    rw [hpr, bru_last hnr]
    unfold seenL
    rw [hI.srt]
    congr 1
    refine List.filter_congr fun a ha => hmt a fun e => hnr (e ▸ ha)
  have hpl := pairs_len (L := memPut L n [a0, a1, a2, a3])
  rw [hlen2] at hpl
  have hnn : (n + 1) * (n + 1) ≤ 21 * 21 := Nat.mul_le_mul (by omega) (by omega)
  have hnl := seenL_le (L := L) (p := fun x y z t => meetsS x y z t a0 a1 a2 a3)
  have hns : (seenL L fun x y z t => meetsS x y z t a0 a1 a2 a3).Pairwise fun a b => a < b := by
    unfold seenL; rw [hI.srt]; exact rngI_lt.filter _
  intro c0 k0 c1 k1 c2 k2 c3 k3
  have k0 : c0 = a0 - g := by rw [k0, wrap_in (by unfold inR; omega)]
  have k1 : c1 = a1 - g := by rw [k1, wrap_in (by unfold inR; omega)]
  have k2 : c2 = a2 + g := by rw [k2, wrap_in (by unfold inR; omega)]
  have k3 : c3 = a3 + g := by rw [k3, wrap_in (by unfold inR; omega)]
  have hsub : ∀ a ∈ seenL L (fun x y z t => meetsS x y z t a0 a1 a2 a3), a ∈ seenL L fun x y z t => meetsS x y z t c0 c1 c2 c3 := fun a ha => by
    unfold seenL at ha ⊢
    obtain ⟨h1, h2⟩ := List.mem_filter.1 ha
    refine List.mem_filter.2 ⟨h1, ?_⟩
    unfold meetsS at h2 ⊢
    have h2 := of_decide_eq_true h2
    exact decide_eq_true ⟨h2.1, checkBoxS_iff.2 (by omega), by omega, by omega, by omega, by omega⟩
  have hml := seenL_le (L := L) (p := fun x y z t => meetsS x y z t c0 c1 c2 c3)
  simp only [b0, t0, hI2.selIn]
  generalize (seenL L fun x y z t => meetsS x y z t c0 c1 c2 c3) = more at hsub hml ⊢
  generalize (seenL L fun x y z t => meetsS x y z t a0 a1 a2 a3) = near at hsub hflt hnl hns ⊢
  generalize pairsL (memPut L n [a0, a1, a2, a3]) = prs at hflt hpl ⊢
  refine ⟨hI.selIn, by omega, by unfold inR; omega, by unfold inR; omega, by unfold inR; omega, by unfold inR; omega, fun e he => ⟨trivial, by unfold inR; omega, by unfold inR; omega, by unfold inR; omega, by unfold inR; omega, fun hc => (by rw [he] at hc; cases hc), fun _ => ⟨trivial, by omega, ?_⟩⟩⟩
  have hls : ∀ i, lsF prs i = [i64 (prs.getD i (0, 0)).1, i64 (prs.getD i (0, 0)).2] := fun _ => rfl
  refine loopN_go (fun (i : Nat) => i ≤ prs.length) (fun i => prs.length - i) (fun i => [(21, i64 i), (20, i64 (((prs.take i).filter fun p => p.2 == (n : Int)).length : Nat))]) (fun i => []) [50, 41, 18, 12, 9] [66, 67, 68, 69, 72, 73, 74, 75, 76, 77, 78, 79, 80, 81, 20, 82, 83, 84, 85, 86, 87, 88, 89, 12, 70, 71, 21] 0 0 (by kernel_rfl) (Nat.zero_le _) ⟨[], ?_, ?_, ?_, ?_⟩ ?_
  · simp only [go_sem, List.take_zero, List.filter_nil, List.length_nil, Int.cast_ofNat_Int]
  · simp only [go_sem]
  · simp only [go_sem]
  · simp [goodNames, asg]
  intro i hi
  simp only [go_sem, hsI_eq, hsI_some, c18f, hls, hnl, hml]
  have hlX : ∀ l : List Int, lX l.length (fun i => l.getD i 0) = l := fun l => lX_getD
  rw [hlX]
  have hcnt : ∀ j, ((prs.take j).filter fun p => p.2 == (n : Int)).length ≤ j := fun j => Nat.le_trans (List.length_filter_le _ _) (by rw [List.length_take]; omega)
  have hcj := hcnt i
  have hstep : i < prs.length → ((prs.take (i + 1)).filter fun p => p.2 == (n : Int)).length = ((prs.take i).filter fun p => p.2 == (n : Int)).length + (if ((prs.getD i (0, 0)).2 == (n : Int)) = true then 1 else 0) := fun hlt => by
    have eg : prs.getD i (0, 0) = prs[i] := by rw [List.getD_eq_getElem?_getD, List.getElem?_eq_getElem hlt]; rfl
    rw [List.take_add_one, List.getElem?_eq_getElem hlt, List.filter_append, List.length_append, eg]
    congr 1
    show (List.filter _ [prs[i]]).length = _
    rw [List.filter_cons]
    split <;> rfl
  refine ⟨fun hlt => ⟨by omega, hlt, by omega, fun hb z hz => ⟨by omega, hlt, by omega, fun z1 hz1 => ⟨by omega, fun hf => ?_, fun _ z2 hz2 => ⟨i + 1, by omega, by omega, [], ⟨by rw [hz2, wrap_in (by unfold inR; omega)]; omega, ?_⟩, by simp [goodNames, asg]⟩⟩⟩, fun hb z hz => ⟨i + 1, by omega, by omega, [], ⟨by rw [hz, wrap_in (by unfold inR; omega)]; omega, ?_⟩, by simp [goodNames, asg]⟩⟩, fun hge => ?_⟩
  · rw [hz1] at hf
    have hf := of_decide_eq_false hf
    have hm : prs.getD i (0, 0) ∈ prs.filter fun p => p.2 == (n : Int) := List.mem_filter.2 ⟨by rw [List.getD_eq_getElem?_getD, List.getElem?_eq_getElem (by omega)]; exact List.getElem_mem _, hb⟩
    rw [hflt] at hm
    obtain ⟨a, ha, hea⟩ := List.mem_map.1 hm
    rw [← hea] at hf
    exact hf ha
  · rw [hz, wrap_in (by unfold inR; omega), hstep (by omega), if_pos hb]; omega
  · rw [hstep (by omega), if_neg (by rw [hb]; decide)]; omega
  have ei : prs.length = i := by omega
  have hall : ((prs.take i).filter fun p => p.2 == (n : Int)).length = near.length := by
    rw [← ei, List.take_length, hflt, List.length_map]
  rw [hall]
  refine loopN_go (fun (j : Nat) => j ≤ near.length) (fun j => near.length - j) (fun j => [(22, i64 j)]) (fun j => []) [41, 18] [90, 91, 92, 93, 96, 97, 98, 99, 100, 101, 102, 103, 104, 105, 106, 107, 108, 109, 110, 111, 112, 113, 114, 115, 116, 117, 118, 12, 94, 95, 22] 0 0 (by kernel_rfl) (Nat.zero_le _) ⟨[], ?_, ?_, ?_, ?_⟩ ?_
  · simp only [go_sem, Int.cast_ofNat_Int]
  · simp only [go_sem]
  · simp only [go_sem]
  · simp [goodNames, asg]
  intro j hj
  simp only [go_sem, hsI_eq, hsI_some, c18f, hls, hnl, hml]
  rw [hlX]
  refine ⟨fun hlt => ⟨by omega, hlt, by omega, fun z hz => ?_⟩, fun _ z hz => by rw [hz]; simp⟩
  have gj : ∀ q, q < near.length → near.getD q 0 ∈ near ∧ ∀ h : q < near.length, near.getD q 0 = near[q] := fun q hq => by
    have e : near.getD q 0 = near[q] := by rw [List.getD_eq_getElem?_getD, List.getElem?_eq_getElem hq]; rfl
    exact ⟨by rw [e]; exact List.getElem_mem _, fun _ => e⟩
  have hz : z = true := by rw [hz]; exact decide_eq_true (hsub _ (gj j (by omega)).1)
  subst hz
  refine ⟨by omega, fun _ => by omega, fun _ => hlt, fun _ => by omega, fun _ => trivial, fun z1 hz1 => ?_⟩
  have hz1 : 0 < (j : Int) → z1 = ((j - 1 : Nat) : Int) := fun h => by rw [hz1, wrap_in (by unfold inR; omega)]; omega
  refine ⟨fun h => by have := hz1 h.2; omega, fun h => by have := hz1 h.2; omega, fun h => by have := hz1 h.2; omega, fun _ => trivial, fun _ h => ⟨rfl, h⟩, fun hc => ?_, fun _ z2 hz2 => ⟨j + 1, by omega, by omega, [], by rw [hz2, wrap_in (by unfold inR; omega)]; omega, by simp [goodNames, asg]⟩⟩
  rcases hc with hc | ⟨h1, h2⟩
  · cases hc
  · rw [hz1 h1, Int.toNat_natCast, (gj j (by omega)).2 (by omega), (gj (j - 1) (by omega)).2 (by omega)] at h2
    have := List.pairwise_iff_getElem.1 hns (j - 1) j (by omega) (by omega) (by omega)
    omega
end Go.Ax
end

section
/-
  What is proved: for every input bagatellelaw04.IndexNears returns true, and the input reads ars it did. No further condition.
-/
namespace Go.Proofs.Ytfpgjkeelegdpaa.indexNearsDone
open Go.ChangeShapes Go.WideShapes Go.ChangeAt Go.RowKit Go.Ax
set_option linter.unusedVariables false

theorem own : ownKnob Try.prog.godebug = none := by kernel_rfl

theorem ctx : CtxOK Try.prog [(8, c8), (14, c14), (9, .wr mN9), (15, .wr mN15), (16, c16), (17, .wr m17), (12, .wr mN12), (18, c18), (13, c13)] :=
  (.cons con8 (.cons con14 (.mcons mon9 (.mcons mon15 (.cons con16 (.mcons mon17 (.mcons mon12 (.cons con18 (.cons con13 .nil)))))))))

set_option maxRecDepth 100000 in
theorem walk {w : World} {avs : List AV} {vs : List Value} (h : fitVs [.slice 1 [.int .i64], .int .i64, .int .i64, .int .i64, .int .i64, .int .i64] avs) (hR : Rs w (.ext (All w)) avs vs) :
    Calls Try.prog 4 vs.toArray w fun e w' => e = .returned (.bool true) ∧ Below w.heap.size w w' := by
  obtain ⟨_, _, rfl, ⟨k, get, rfl, hnk, hget⟩, _, _, rfl, ⟨px, rfl, hpx⟩, _, _, rfl, ⟨py, rfl, hpy⟩, _, _, rfl, ⟨pw, rfl, hpw⟩, _, _, rfl, ⟨ph, rfl, hph⟩, _, _, rfl, ⟨pg, rfl, hpg⟩, rfl⟩ := h
  rw [(rowsI hget).1] at hR
  have hk : k ≤ 9223372036854775807 := by unfold maxLen at hnk; omega
  obtain ⟨_, k2⟩ := fn_sound ctx Try.func4 (by kernel_rfl) (vc4 (k := k) hk (rowsI hget).2 (wf_i64 hpx) (wf_i64 hpy) (wf_i64 hpw) (wf_i64 hph) (wf_i64 hpg)) (All w) w vs (fun _ h => h) hR
  refine k2.mono fun e w' ⟨v, he, ⟨r, hr, hv⟩, hb⟩ => ?_
  subst hr
  cases hv
  exact ⟨he, hb⟩

set_option maxRecDepth 100000 in
theorem lifted (os : Os) (started : os.Started) (H : Type) (enc : TypeId × Value → H) :
    ReturnsInHanded {} Try.checked os 4 .any (Rows.indexNearsSpec.pre6 enc Try.prog Try.f4 Rows.indexNearsRow.domain false) (Rows.indexNearsSpec.post enc Try.prog Try.f4 false true false false) := by
  refine returnsInHanded_of_change (C := Try.checked) own started (by kernel_rfl) Try.func4
    (ChangeSpec.witness6 (enc := enc) (C := Try.checked) false ⟨#[], #[.slice none 0 0, .int .i64 0, .int .i64 0, .int .i64 0, .int .i64 0, .int .i64 0], []⟩ 8 (by kernel_rfl) (by kernel_rfl) (by kernel_rfl) (by kernel_rfl)) ?_
  intro W base args ds gs before hval hW hcnd _
  have hW' := hW
  obtain ⟨p, q, hA, hV, rfl, hfz, hnd⟩ := hW
  obtain ⟨rfl, rfl⟩ := trodVars_none hV
  have hA' := hA
  rw [Try.params4] at hA hval
  obtain ⟨avs, w1, w2⟩ := args_read (P := Try.prog) (ss := [.slice 1 [.int .i64], .int .i64, .int .i64, .int .i64, .int .i64, .int .i64]) (by kernel_rfl) (fun j t v hj hv => hval j t v (by simpa using hj) (by simpa using hv)) hA
  obtain ⟨v0, vs0, d0, ds0, p0, q0, hargs, rfl, rfl, h0, r0⟩ := trodAll_cons hA
  obtain ⟨v1, vs1, d1, ds1, p1, q1, rfl, rfl, rfl, h1, r1⟩ := trodAll_cons r0
  obtain ⟨v2, vs2, d2, ds2, p2, q2, rfl, rfl, rfl, h2, r2⟩ := trodAll_cons r1
  obtain ⟨v3, vs3, d3, ds3, p3, q3, rfl, rfl, rfl, h3, r3⟩ := trodAll_cons r2
  obtain ⟨v4, vs4, d4, ds4, p4, q4, rfl, rfl, rfl, h4, r4⟩ := trodAll_cons r3
  obtain ⟨v5, vs5, d5, ds5, p5, q5, rfl, rfl, rfl, h5, r5⟩ := trodAll_cons r4
  obtain ⟨rfl, rfl, rfl⟩ := trodAll_nil r5
  have hw := walk w1 w2
  rw [show args.toList.toArray = args by simp] at hw
  refine hw.mono fun e W' ⟨he, bel⟩ => ?_
  subst he
  obtain ⟨ps, hst⟩ := args_stay laidOut bel (by kernel_rfl) hA'
  exact ⟨_, rfl, _, _, _, [], _, [], hW', trodAll_mk1 (shut_bool Try.underlying4 _), hst, rfl, bel.frame _, fun h => by cases h⟩

theorem func : Try.pinned.checked.prog.funcNamed Rows.indexNearsRow.func = some 4 := by kernel_rfl
theorem four : ((Rows.indexNearsRow.inPlace == Try.prog.inPlace 4) = true) ∧ ((Rows.indexNearsRow.unfollowed == Try.prog.unfollowed 4) = true) ∧ ((Rows.indexNearsRow.recurses == Try.prog.recurses 4) = true) ∧ ((Rows.indexNearsRow.named == Try.prog.varsNamed 4) = true) := by
  have h : ((Rows.indexNearsRow.inPlace == Try.prog.inPlace 4) && ((Rows.indexNearsRow.unfollowed == Try.prog.unfollowed 4) && ((Rows.indexNearsRow.recurses == Try.prog.recurses 4) && (Rows.indexNearsRow.named == Try.prog.varsNamed 4)))) = true := by kernel_rfl
  simpa only [Bool.and_eq_true] using h
theorem facts : joinedFacts Try.prog 4 Try.f4 Rows.indexNearsSpec Rows.indexNearsRow = true :=
  andT (andT (andT (andT (andT (andT (andT (andT (andT (andT (andT (andT (andT (andT (andT (andT (andT (andT (andT (andT (andT (andT (andT (andT (andT (andT (andT (andT (andT (andT (andT (by kernel_rfl) laidOut) fRowed) (by kernel_rfl)) (by kernel_rfl)) (by kernel_rfl)) fStops) (by kernel_rfl)) fStopK) four.1) four.2.1) four.2.2.1) four.2.2.2) (by kernel_rfl)) (by kernel_rfl)) (by kernel_rfl)) (by kernel_rfl)) (by kernel_rfl)) (by kernel_rfl)) (by kernel_rfl)) (by kernel_rfl)) (by kernel_rfl)) fPlain) (by kernel_rfl)) fHeard) fMay) fLift) fMake) (by kernel_rfl)) (by kernel_rfl)) (by kernel_rfl)) (by kernel_rfl)
theorem over : Rows.indexNearsRow.holds Try.pinned (OpenSpec.ofChange Rows.indexNearsSpec) :=
  OpenClaim.holds_of_wide 4 Try.f4 rfl rfl rfl rfl rfl rfl rfl ⟨rfl, rfl, rfl, rfl, rfl⟩ rfl rfl rfl rfl rfl func Try.func4 facts
    (of_decide_eq_true (by kernel_rfl)) (by unfold Func.isWrapper; first | (rw [if_pos (by decide +kernel)]; kernel_rfl) | (rw [if_neg (by decide +kernel)]; exact ⟨rfl, rfl⟩))
    (fun os started H enc _ => lifted os started H enc)

theorem proved : Rows.IndexNearsSaid := over
#print axioms proved
end Go.Proofs.Ytfpgjkeelegdpaa.indexNearsDone
end
