/-
  The laws of boxes: what the functions hand back.
-/
import Derived.Test.YtlpbblcepjlfpaaCM3
section
set_option linter.unusedVariables false
set_option linter.unusedSimpArgs false
set_option maxHeartbeats 2000000
set_option maxRecDepth 100000
namespace Go.Ax
open Go.Proofs
def joinT (a b c d e f g h : Int) (k : Nat) : Int := if checkBoxS a b c d = 0 ∧ checkBoxS e f g h = 0 then (match k with
  | 0 => min a e
  | 1 => min b f
  | 2 => max c g
  | _ => max d h) else 0
theorem rows_0 {a b c d : AV} {l : List AV} : rowsOf 4 (a :: b :: c :: d :: l) 0 = [a, b, c, d] := (rfl)
theorem rows_1 {a b c d e f g h : AV} {l : List AV} : rowsOf 4 (a :: b :: c :: d :: e :: f :: g :: h :: l) 1 = [e, f, g, h] := (rfl)
theorem boxes_2 {a b c d e f g h : Int} : boxes 2 (rowsOf 4 [i64 a, i64 b, i64 c, i64 d, i64 e, i64 f, i64 g, i64 h]) = ((inR a ∧ inR b ∧ inR c ∧ inR d) ∧ inR e ∧ inR f ∧ inR g ∧ inR h) := propext ⟨fun H => by
    have h0 := (H 0 (by omega)).2
    have h1 := (H 1 (by omega)).2
    simp only [gx, rows_0, rows_1, gi_0, gi_1, gi_2, gi_3] at h0 h1
    exact ⟨h0, h1⟩, fun ⟨h0, h1⟩ i hi => by
    have : i = 0 ∨ i = 1 := by omega
    rcases this with rfl | rfl
    · simp only [gx, rows_0, gi_0, gi_1, gi_2, gi_3]; exact ⟨trivial, h0⟩
    · simp only [gx, rows_1, gi_0, gi_1, gi_2, gi_3]; exact ⟨trivial, h1⟩⟩
theorem okB_2 {A B C D : Nat → Int} : okB 2 A B C D ↔ checkBoxS (A 0) (B 0) (C 0) (D 0) = 0 ∧ checkBoxS (A 1) (B 1) (C 1) (D 1) = 0 :=
  ⟨fun h => ⟨h 0 (by omega), h 1 (by omega)⟩, fun ⟨h0, h1⟩ i hi => by
    have : i = 0 ∨ i = 1 := by omega
    rcases this with rfl | rfl <;> assumption⟩
theorem join_2 {a b c d e f g h : Int} {k : Nat} (hk : k < 4) : joinS 2 (gx (rowsOf 4 [i64 a, i64 b, i64 c, i64 d, i64 e, i64 f, i64 g, i64 h]) 0) (gx (rowsOf 4 [i64 a, i64 b, i64 c, i64 d, i64 e, i64 f, i64 g, i64 h]) 1) (gx (rowsOf 4 [i64 a, i64 b, i64 c, i64 d, i64 e, i64 f, i64 g, i64 h]) 2) (gx (rowsOf 4 [i64 a, i64 b, i64 c, i64 d, i64 e, i64 f, i64 g, i64 h]) 3) k = joinT a b c d e f g h k := by
  unfold joinS joinT
  simp only [okB_2, mnS, mxS, gx, rows_0, rows_1, gi_0, gi_1, gi_2, gi_3]
  have : k = 0 ∨ k = 1 ∨ k = 2 ∨ k = 3 := by omega
  rcases this with rfl | rfl | rfl | rfl <;> simp
attribute [go_sem] boxes_2 join_2 Nat.lt_irrefl
def c9 : Con
  | [] => some ([], bo true)
  | _ => none
theorem con9 : ConOK Try.prog 9 c9 := ConOK.of (G := [(20, c20), (19, c19)]) (H := []) (.cons con20 (.cons con19 .nil)) Try.func9 fun l ob r hc hob => by
  unfold c9 at hc
  split at hc
  · cases hc
    refine ⟨by kernel_rfl, fnVC_go (rs := [.tmp 0]) rfl rfl ?_⟩
    simp only [go_sem, c20, c19]
    intro z hz
    have e : z = 1 := by rw [hz]; decide
    subst e
    refine ⟨?_, ?_, ?_, ?_, ?_, ?_, fun _ => ?_, fun _ => ?_, fun _ => ?_, fun _ => ?_, ?_, ?_, ?_, ?_, ?_⟩ <;> first | (unfold inR; omega) | decide
  · cases hc
end Go.Ax
end

section
/-
  The iterator over a polygon's edges.
-/
set_option linter.unusedVariables false
set_option linter.unusedSimpArgs false
set_option maxHeartbeats 1000000
set_option maxRecDepth 100000
namespace Go.Ax
open Go.Proofs

/-- The number of the next corner. -/
def nxt (n i : Nat) : Nat := if i + 1 < n then i + 1 else 0
theorem nxt_lt {n i : Nat} (h : i < n) : nxt n i < n := by unfold nxt; split <;> omega
/-- An edge. -/
def edgeE (n : Nat) (g : Nat → List AV) (i : Nat) : List AV := [.agg [i64 (gx g 0 i), i64 (gx g 1 i)], .agg [i64 (gx g 0 (nxt n i)), i64 (gx g 1 (nxt n i))]]
def c55 : Con
  | [.rop [.ro n 2 g]] => some ([spots n g, n ≤ 9223372036854775806], .ro n 2 (edgeE n g))
  | _ => none

/-- At the head of the loop. -/
structure At55 (I : Nat → Prop) (w : World) (J : Nat → World → Prop) (l n : Nat) (v1 x : Value) (i : Nat) (a : Act) (W : World) : Prop where
  sz : a.tmps.size = 38
  de : a.defers = []
  t0 : a.tmps.getD 0 undef = .func (.yield l) #[] #[]
  t1 : a.tmps.getD 1 undef = v1
  t3 : a.tmps.getD 3 undef = .int .i64 (IntKind.i64.wrap (n - 1))
  t12 : a.tmps.getD 12 undef = x
  t13 : a.tmps.getD 13 undef = .int .i64 n
  t14 : a.tmps.getD 14 undef = .int .i64 i
  le : i ≤ n
  j : J i W
  same : Same I w W

/-- The corners ars plain pairs. -/
def sg (g : Nat → List AV) : Nat → List AV := fun i => [i64 (gx g 0 i), i64 (gx g 1 i)]
theorem sg_eq {g : Nat → List AV} : sg g = fun i => [i64 (gx g 0 i), i64 (gx g 1 i)] := (rfl)

theorem seq55 : SeqOK Try.prog 55 c55 := by
  intro es ob N k sq hc hob
  unfold c55 at hc
  split at hc
  case h_2 => cases hc
  rename_i n g
  simp only [Option.some.injEq, Prod.mk.injEq, AV.ro.injEq] at hc
  obtain ⟨rfl, rfl, rfl, rfl⟩ := hc
  have hsp : spots n g := hob _ (by simp)
  have hn : n ≤ 9223372036854775806 := hob _ (by simp)
  intro I w vs nn l J Jx hI hRs hJ hJx h0 hy
  obtain ⟨v1, rest, rfl, hv1, hrest⟩ := hRs.inv
  have : rest = [] := by have := hrest.1; simpa using this
  subst this
  cases hv1 with
  | rop b o hib hex hr =>
  obtain ⟨x, hx⟩ := hex 0 (by simp)
  have hx : Has w b o x := hx
  have hib : I b := hib
  have hxr : R w (.ext I) (.ro n 2 (sg g)) x := ro_alike (fun i hi => (hsp i hi).1) (hr 0 _ x rfl hx)
  have hvx : R w (.ext I) (.rop [.v x]) (.pointer (some ⟨b, o, none⟩)) := rop1 hib hx .v
  have hvr : R w (.ext I) (.rop [.ro n 2 (sg g)]) (.pointer (some ⟨b, o, none⟩)) := rop1 hib hx hxr
  refine ⟨callFunc_enter Try.func55 (by kernel_rfl) rfl, ?_⟩
  refine callsIn_of_wp_marks (F := Fence.wide) Try.func55 rfl trivial ?_
  have hm : Try.prog.follows .mixedOrders = true := by kernel_rfl
  rw [show Try.f55.ntmps = 38 from by kernel_rfl]
  generalize hes : (#[Value.func (.yield l) #[] #[]] ++ [Value.pointer (some ⟨b, o, none⟩)].toArray : Array Value) = es
  have hes2 : es.size = 2 := by rw [← hes]; rfl
  have hes0 : es[0]? = some (.func (.yield l) #[] #[]) := by rw [← hes]; rfl
  have hes1 : es[1]? = some (.pointer (some ⟨b, o, none⟩)) := by rw [← hes]; rfl
  generalize ha : (Act.mk (es ++ Array.replicate (38 - es.size) undef) []) = a
  have hsz : a.tmps.size = 38 := by rw [← ha]; exact start_size (by omega)
  have hde : a.defers = [] := by rw [← ha]
  have ht0 : a.tmps.getD 0 undef = .func (.yield l) #[] #[] := by rw [← ha]; exact start_get hes0
  have ht1 : a.tmps.getD 1 undef = .pointer (some ⟨b, o, none⟩) := by rw [← ha]; exact start_get hes1
  clear ha hes hes0 hes1 hes2
  have keepR : ∀ {av : AV} {v : Value} {W : World}, R w (.ext I) av v → Same I w W → R W (.ext I) av v := fun h hs => h.mono (.refl _) hs
  have ltI : ∀ {W : World}, Same I w W → ∀ b, I b → b < W.heap.size := fun {W} hs b hb => by
    have h1 := hs b hb
    have h2 := hI b hb
    rw [Array.getElem?_eq_getElem h2] at h1
    exact (Array.getElem?_eq_some_iff.1 h1).1
  -- region 0
  refine wpIn_seq (pieceI (G := []) (H := []) .nil hm (l := [(1, .rop [.ro n 2 (sg g)])]) (W := [7, 8, 9, 10, 3]) (K := fun e s => match e with | .normal => slot s.t 3 = i64 (IntKind.i64.wrap (n - 1)) | _ => False) (by kernel_rfl) (by kernel_rfl) (by kernel_rfl) ?_ hI hsz ?_ ?_)
  · refine awp_go (K1 := fun e t _ => match e with | .normal => slot t 3 = i64 (IntKind.i64.wrap (n - 1)) | _ => False) ?_
    simp only [go_sem, List.range, List.range.loop]
    exact fun _ => trivial
  · intro p hp; simp only [List.mem_singleton] at hp; subst hp; dsimp only; rw [ht1]; exact hvr
  intro e s1 ρ1 a1 w1 k1 k2
  cases e with
  | exit j => exact k1.elim
  | ret => exact k1.elim
  | normal =>
  have bel1 : RowKit.Below w.heap.size w w1 := k2.rel.below
  have hs1 : Same I w w1 := Same.of_below bel1 hI
  have hj1 : J 0 w1 := hJ 0 w w1 h0 bel1
  have u0 : a1.tmps.getD 0 undef = .func (.yield l) #[] #[] := (k2.frame 0 (show ¬ (0 : Nat) ∈ [7, 8, 9, 10, 3] by decide)).trans ht0
  have u1 : a1.tmps.getD 1 undef = .pointer (some ⟨b, o, none⟩) := (k2.frame 1 (show ¬ (1 : Nat) ∈ [7, 8, 9, 10, 3] by decide)).trans ht1
  have u3 := k2.val k1
  have usz := k2.size
  have ude : a1.defers = [] := k2.defers.trans hde
  clear k1 k2 s1 ρ1 hsz hde ht0 ht1
  -- region 1
  refine wpIn_seq (region_split (G := []) (nt := 38) (s := ⟨[(1, .rop [.v x])] ++ anyS (List.range 38), [], 0⟩) (ds := ⟨[], (· ∈ [11, 12, 13, 14]), a1.tmps⟩) .nil 2 (by decide) (K := fun s => slot s.t 12 = .v x) (by kernel_rfl) (fun j hj => hj) ?_ (SR.anew (ltI hs1) (slots_R usz ?_) usz ude (fun _ _ => rfl)) ?_)
  · refine regP_go (K1 := fun t _ => slot t 12 = .v x) ?_
    simp only [go_sem, List.range, List.range.loop]
  · intro p hp; simp only [List.mem_singleton] at hp; subst hp; dsimp only; rw [u1]; exact keepR hvx hs1
  intro s2 ρ2 a2 w2 k1 k2
  have bel2 : RowKit.Below w1.heap.size w1 w2 := k2.rel.below
  have hs2 : Same I w w2 := hs1.trans (Same.of_below bel2 (ltI hs1))
  have hj2 : J 0 w2 := hJ 0 w1 w2 hj1 bel2
  have v0 := (k2.frame 0 (show ¬ (0 : Nat) ∈ [11, 12, 13, 14] by decide)).trans u0
  have v1 := (k2.frame 1 (show ¬ (1 : Nat) ∈ [11, 12, 13, 14] by decide)).trans u1
  have v3 := (k2.frame 3 (show ¬ (3 : Nat) ∈ [11, 12, 13, 14] by decide)).trans u3
  have v12 := k2.val k1
  have vsz := k2.size
  have vde : a2.defers = [] := k2.defers
  clear k1 k2 s2 ρ2 usz ude u0 u1 u3 bel1 bel2 hj1 hs1
  refine region_rest (G := []) (nt := 38) (s := ⟨[(12, .ro n 2 (sg g))] ++ anyS (List.range 38), [], 0⟩) (ds := ⟨[], (· ∈ [13, 14]), a2.tmps⟩) .nil 2 (by decide) (K := fun s => slot s.t 13 = i64 n ∧ slot s.t 14 = i64 0) (by kernel_rfl) (fun j hj => hj) ?_ (SR.anew (ltI hs2) (slots_R vsz ?_) vsz vde (fun _ _ => rfl)) ?_
  · refine regP_go (K1 := fun t _ => slot t 13 = i64 n ∧ slot t 14 = i64 0) ?_
    simp only [go_sem, List.range, List.range.loop]
  · intro p hp; simp only [List.mem_singleton] at hp; subst hp; dsimp only; rw [v12]; exact keepR hxr hs2
  intro s3 ρ3 a3 w3 k1 k2
  have bel3 : RowKit.Below w2.heap.size w2 w3 := k2.rel.below
  have hs3 : Same I w w3 := hs2.trans (Same.of_below bel3 (ltI hs2))
  have hAt0 : At55 I w J l n (.pointer (some ⟨b, o, none⟩)) x 0 a3 w3 :=
    ⟨k2.size, k2.defers, (k2.frame 0 (show ¬ (0 : Nat) ∈ [13, 14] by decide)).trans v0, (k2.frame 1 (show ¬ (1 : Nat) ∈ [13, 14] by decide)).trans v1, (k2.frame 3 (show ¬ (3 : Nat) ∈ [13, 14] by decide)).trans v3,
      (k2.frame 12 (show ¬ (12 : Nat) ∈ [13, 14] by decide)).trans v12, k2.val k1.1, k2.val k1.2, Nat.zero_le _, hJ 0 w2 w3 hj2 bel3, hs3⟩
  clear k1 k2 s3 ρ3 bel3 hs3 hj2 hs2 v0 v1 v3 v12 vsz vde
  refine wpIn_block (wpIn_loop_rounds (n + 1) ?_)
  obtain ⟨i, hAt, hlt⟩ : ∃ i, At55 I w J l n (.pointer (some ⟨b, o, none⟩)) x i a3 w3 ∧ n - i < n + 1 := ⟨0, hAt0, by omega⟩
  clear hAt0
  generalize n + 1 = fuel at hlt ⊢
  induction fuel generalizing i a3 w3 with
  | zero => omega
  | succ fuel ih =>
  rw [roundsIn_succ]
  -- the guard
  refine wpIn_seq (pieceI (G := []) (H := []) .nil hm (l := [(13, i64 n), (14, i64 i)]) (W := [15]) (K := fun e s => match e with | .normal => slot s.t 15 = bo (decide ((i : Int) < n)) | _ => False) (by kernel_rfl) (by kernel_rfl) (by kernel_rfl) ?_ (ltI hAt.same) hAt.sz ?_ ?_)
  · refine awp_go (K1 := fun e t _ => match e with | .normal => slot t 15 = bo (decide ((i : Int) < n)) | _ => False) ?_
    simp only [go_sem, List.range, List.range.loop]
  · intro p hp
    simp only [List.mem_cons, List.mem_singleton, List.not_mem_nil, or_false] at hp
    rcases hp with rfl | rfl
    · dsimp only; rw [hAt.t13]; exact .v
    · dsimp only; rw [hAt.t14]; exact .v
  intro e s1 ρ1 a1 w1 k1 k2
  cases e with
  | exit j => exact k1.elim
  | ret => exact k1.elim
  | normal =>
  have bel1 : RowKit.Below w3.heap.size w3 w1 := k2.rel.below
  have hs1 : Same I w w1 := hAt.same.trans (Same.of_below bel1 (ltI hAt.same))
  have hj1 : J i w1 := hJ i w3 w1 hAt.j bel1
  have v15 := k2.val k1
  have d1 : a1.defers = [] := k2.defers.trans hAt.de
  have z1 := k2.size
  have f1 : ∀ j, ¬ j ∈ [15] → a1.tmps.getD j undef = a3.tmps.getD j undef := k2.frame
  clear k1 k2 s1 ρ1
  refine wpIn_seq (wpIn_cond_split (t := decide ((i : Int) < n)) v15 ?_ ?_)
  case refine_2 =>
    intro hf
    have hin : i = n := by have := hAt.le; simp at hf; omega
    subst hin
    refine wpIn_exit ?_
    show LeavesInM Fence.wide nn Try.prog Try.f55 a1.tmps _ a1.defers .returning w1
    exact leave_nil d1 rfl fun v => ⟨⟨v, rfl⟩, .inl hj1⟩
  intro ht
  have hin : i < n := by simp at ht; omega
  refine wpIn_skip ?_
  have r0 : gx (sg g) 0 i = gx g 0 i := rfl
  obtain ⟨K1, hK1⟩ : ∃ K1 : Slots → Prop, K1 = fun t => slot t 32 = .v (.func (.yield l) #[] #[]) ∧ [slot t 33, slot t 34] = edgeE n g i := ⟨_, rfl⟩
  refine wpIn_seq (wpIn_block (piece3 (G := []) (H := []) .nil hm (k := 3) (K1 := K1) (l := [(0, .v (.func (.yield l) #[] #[])), (1, .rop [.ro n 2 (sg g)]), (3, i64 (IntKind.i64.wrap (n - 1))), (12, .ro n 2 (sg g)), (14, i64 i)]) (by decide) (by kernel_rfl) (by kernel_rfl) rfl ?_ (ltI hs1) z1 ?_ ?_))
  · show goC Try.prog [] [] (preK Try.prog [] _ 3 K1) _ [] _
    simp only [go_sem, List.range, List.range.loop, preK_normal, sg_eq]
    have hw : IntKind.i64.wrap ((n : Int) - 1) = n - 1 := wrap_in (by unfold inR; omega)
    subst hK1
    refine ⟨by omega, by omega, by omega, fun h z hz => ?_, fun h => ?_⟩
    · rw [hw] at h
      have e1 : IntKind.i64.wrap ((i : Int) + 1) = i + 1 := wrap_in (by unfold inR; omega)
      rw [e1] at hz
      have e2 : z.toNat = i + 1 := by omega
      have e3 : nxt n i = i + 1 := by unfold nxt; rw [if_pos (by omega)]
      refine ⟨by omega, by omega, ?_⟩
      simp only [slot_cons, Nat.reduceEqDiff, if_true, if_false, reduceIte, true_and, edgeE, e3, e2, gx]
    · rw [hw] at h
      have e3 : nxt n i = 0 := by unfold nxt; rw [if_neg (by omega)]
      simp only [slot_cons, Nat.reduceEqDiff, if_true, if_false, reduceIte, true_and, edgeE, e3, gx]
  · intro p hp
    simp only [List.mem_cons, List.mem_singleton, List.not_mem_nil, or_false] at hp
    rcases hp with rfl | rfl | rfl | rfl | rfl
    · dsimp only; rw [f1 0 (by decide), hAt.t0]; exact .v
    · dsimp only; rw [f1 1 (by decide), hAt.t1]; exact keepR hvr hs1
    · dsimp only; rw [f1 3 (by decide), hAt.t3]; exact .v
    · dsimp only; rw [f1 12 (by decide), hAt.t12]; exact keepR hxr hs1
    · dsimp only; rw [f1 14 (by decide), hAt.t14]; exact .v
  intro t' m' D' ρ' a2 w2 k1 k2
  subst hK1
  have bel2 : RowKit.Below w1.heap.size w1 w2 := k2.rel.below
  have hs2 : Same I w w2 := hs1.trans (Same.of_below bel2 (ltI hs1))
  have hj2 : J i w2 := hJ i w1 w2 hj1 bel2
  have v32 := k2.val k1.1
  have e33 : slot t' 33 = .agg [i64 (gx g 0 i), i64 (gx g 1 i)] := by have := k1.2; unfold edgeE at this; simpa using (List.cons.inj this).1
  have e34 : slot t' 34 = .agg [i64 (gx g 0 (nxt n i)), i64 (gx g 1 (nxt n i))] := by have := k1.2; unfold edgeE at this; simpa using (List.cons.inj (List.cons.inj this).2).1
  have hargs : Rs w2 (.ext I) (edgeE n g i) [a2.tmps.getD 33 undef, a2.tmps.getD 34 undef] := by
    have q33 := k2.slots 33
    have q34 := k2.slots 34
    rw [e33] at q33
    rw [e34] at q34
    exact .cons (plain_sound 3 rfl q33) (.cons (plain_sound 3 rfl q34) .nil)
  have d2 : a2.defers = [] := k2.defers.trans d1
  have z2 := k2.size
  have f2 := k2.frame
  clear k1 e33 e34
  rw [show List.range' 3 (Array.size _ - 3) = [3, 4] from rfl]
  have z35 : 35 < a2.tmps.size := by rw [z2]; decide
  refine wpOps_free rfl rfl (yield_op (l := l) [a2.tmps.getD 33 undef, a2.tmps.getD 34 undef] rfl v32 (by simp [Act.eval]) (hy i w2 _ hin hj2 hs2 hargs) ?_)
  intro e W hpost
  obtain ⟨r, he, hsm, hjt, hjf⟩ : ∃ r, e = .returned (.bool r) ∧ Same I w2 W ∧ (r = true → J (i + 1) W) ∧ (r = false → Jx W) := by
    obtain ⟨hsm, ⟨rfl, hj⟩ | ⟨rfl, hj⟩⟩ := hpost
    · exact ⟨true, rfl, hsm, fun _ => hj, fun h => (by cases h)⟩
    · exact ⟨false, rfl, hsm, fun h => (by cases h), fun _ => hj⟩
  subst he
  refine ⟨_, rfl, ?_⟩
  show wpOpsIn (Fw none) nn Try.prog _ _ [4] (a2.put (some 35) (.bool r)) W
  have hs4 : Same I w W := hs2.trans hsm
  refine region_rest (G := []) (nt := 38) (s := ⟨[(35, bo r)] ++ anyS (List.range 38), [], 0⟩) (ds := ⟨[], (· ∈ [36]), (a2.put (some 35) (.bool r)).tmps⟩) .nil 4 (by decide) (K := fun s => slot s.t 36 = bo (!r)) (by kernel_rfl) (fun j hj => hj) ?_ (SR.anew (ltI hs4) (slots_R ((put_size _ _).trans z2) ?_) ((put_size _ _).trans z2) d2 (fun _ _ => rfl)) ?_
  · refine regP_go (K1 := fun t _ => slot t 36 = bo (!r)) ?_
    simp only [go_sem, List.range, List.range.loop]
  · intro p hp; simp only [List.mem_singleton] at hp; subst hp; dsimp only; rw [put_at z35]; exact .v
  intro s5 ρ5 a5 w5 q1 q2
  have bel5 : RowKit.Below W.heap.size W w5 := q2.rel.below
  have hs5 : Same I w w5 := hs4.trans (Same.of_below bel5 (ltI hs4))
  have d5 : a5.defers = [] := q2.defers
  have z5 := q2.size
  have f5 : ∀ j, ¬ j ∈ [36] → 35 ≠ j → a5.tmps.getD j undef = a2.tmps.getD j undef := fun j h1 h2 => (q2.frame j h1).trans (put_not z35 h2)
  have v36 := q2.val q1
  clear q1 q2
  refine wpIn_cond_split v36 (fun hb => ?_) (fun hb => ?_)
  · have hr : r = false := by simpa using hb
    have hjx : Jx w5 := hJx W w5 (hjf hr) bel5
    refine wpIn_ret ?_
    show LeavesInM Fence.wide nn Try.prog Try.f55 a5.tmps _ a5.defers .returning w5
    exact leave_nil d5 rfl fun v => ⟨⟨v, rfl⟩, .inr hjx⟩
  · have hr : r = true := by simpa using hb
    have hj5 : J (i + 1) w5 := hJ (i + 1) W w5 (hjt hr) bel5
    refine wpIn_skip ?_
    show Code.wpIn Fence.wide nn Try.prog (Code.region 8 _ false) _ a5 w5
    have g2 : ∀ j, ¬ j ∈ [15] → ¬ j ∈ [16, 17, 18, 5, 4, 19, 20, 21, 22, 6, 23, 24, 25, 26, 27, 28, 29, 30, 31, 32, 33, 34, 35, 36] → a5.tmps.getD j undef = a3.tmps.getD j undef := fun j h1 h2 => by
      rw [f5 j (fun h => h2 (by simp at h; subst h; decide)) (fun h => h2 (by subst h; decide)), f2 j h2, f1 j h1]
    refine pieceI (G := []) (H := []) .nil hm (l := [(14, i64 i)]) (W := [37, 14]) (K := fun e s => match e with | .normal => slot s.t 14 = i64 (i + 1) | _ => False) (by kernel_rfl) (by kernel_rfl) (by kernel_rfl) ?_ (ltI hs5) z5 ?_ ?_
    · refine awp_go (K1 := fun e t _ => match e with | .normal => slot t 14 = i64 (i + 1) | _ => False) ?_
      simp only [go_sem, List.range, List.range.loop]
      intro z hz
      have e1 : IntKind.i64.wrap ((i : Int) + 1) = i + 1 := wrap_in (by unfold inR; omega)
      rw [hz, e1]
    · intro p hp; simp only [List.mem_singleton] at hp; subst hp; dsimp only; rw [g2 14 (by decide) (by decide), hAt.t14]; exact .v
    intro e s6 ρ6 a6 w6 q1 q2
    cases e with
    | exit j => exact q1.elim
    | ret => exact q1.elim
    | normal =>
    have bel6 : RowKit.Below w5.heap.size w5 w6 := q2.rel.below
    have f6 : ∀ j, ¬ j ∈ [37, 14] → a6.tmps.getD j undef = a5.tmps.getD j undef := q2.frame
    refine ih a6 w6 (i + 1) ⟨q2.size, q2.defers.trans d5, ?_, ?_, ?_, ?_, ?_, ?_, by omega, hJ (i + 1) w5 w6 hj5 bel6, hs5.trans (Same.of_below bel6 (ltI hs5))⟩ (by omega)
    · rw [f6 0 (by decide), g2 0 (by decide) (by decide), hAt.t0]
    · rw [f6 1 (by decide), g2 1 (by decide) (by decide), hAt.t1]
    · rw [f6 3 (by decide), g2 3 (by decide) (by decide), hAt.t3]
    · rw [f6 12 (by decide), g2 12 (by decide) (by decide), hAt.t12]
    · rw [f6 13 (by decide), g2 13 (by decide) (by decide), hAt.t13]
    · have := q2.val q1; rw [this]; rfl
end Go.Ax
end

section
/-
  Spots: sides, convex spots.
-/
set_option linter.unusedVariables false
set_option linter.unusedSimpArgs false
set_option maxHeartbeats 1000000
set_option maxRecDepth 100000
namespace Go.Ax
open Go.Proofs

def c36 : Con
  | [.agg [.ro n 2 g]] => some ([], .fn 55 [.rop [.ro n 2 g]])
  | _ => none
theorem con36 : ConOK Try.prog 36 c36 := ConOK.of (G := []) (H := []) .nil Try.func36 fun l ob r hc hob => by
  unfold c36 at hc
  split at hc
  · rename_i n g
    cases hc
    refine ⟨by kernel_rfl, fnVC_go (rs := [.tmp 2]) rfl rfl ?_⟩
    simp only [go_sem]
  · cases hc

theorem tmod_nxt {n i : Nat} (h : i < n) : Int.tmod ((i : Int) + 1) n = (nxt n i : Nat) := by
  unfold nxt
  by_cases e : i + 1 < n
  · rw [if_pos e, Int.tmod_eq_of_lt (by omega) (by omega)]; rfl
  · have : i + 1 = n := by omega
    rw [if_neg e, show (i : Int) + 1 = n by omega, Int.tmod_self]; rfl
/-- The spots are convex. -/
def convexS (n : Nat) (X Y : Nat → Int) : Bool := decide (3 ≤ n ∧ (∀ i, i < n → validS (X i) (Y i) = true) ∧ ∀ i, i < n → ∀ k, k < n → k ≠ i → k ≠ nxt n i → 0 < turnS (X i) (Y i) (X (nxt n i)) (Y (nxt n i)) (X k) (Y k))
theorem convexS_iff {n : Nat} {X Y : Nat → Int} : convexS n X Y = true ↔ 3 ≤ n ∧ (∀ i, i < n → validS (X i) (Y i) = true) ∧ ∀ i, i < n → ∀ k, k < n → k ≠ i → k ≠ nxt n i → 0 < turnS (X i) (Y i) (X (nxt n i)) (Y (nxt n i)) (X k) (Y k) := by unfold convexS; simp
def c59 : Con
  | [.ro n 2 g] => some ([spots n g, n ≤ 9223372036854775806], bo (convexS n (gx g 0) (gx g 1)))
  | _ => none
theorem vc59 (n : Nat) (X Y : Nat → Int) (hX : ∀ i, i < n → inR (X i) ∧ inR (Y i)) (hn : n ≤ 9223372036854775806) : fnVC Try.prog [(23, c23), (39, c39), (36, c36), (1000000 + 55, c55)] [] Try.f59 [.ro n 2 fun i => [i64 (X i), i64 (Y i)]] (· = bo (convexS n X Y)) := by
  refine fnVC_go (rs := [.cell 2 4]) rfl rfl ?_
  simp only [go_sem, c23, c36]
  intro z hz
  have hg : spots n fun i => [i64 (X i), i64 (Y i)] := fun i hi => ⟨rfl, hX i hi⟩
  have hzz : z = true ↔ ∀ i, i < n → validS (X i) (Y i) = true := by rw [hz]; exact fairS_iff
  refine ⟨fun _ => hg, fun _ => by omega, fun h => false_of fun hc => ?_, fun h => ?_⟩
  · have := convexS_iff.1 hc
    rcases h with h | h
    · omega
    · rw [hzz.2 this.2.1] at h; cases h
  have hv := hzz.1 h.2
  have h3 : 3 ≤ n := by omega
  let good : Nat → Prop := fun i => ∀ k, k < n → k ≠ i → k ≠ nxt n i → 0 < turnS (X i) (Y i) (X (nxt n i)) (Y (nxt n i)) (X k) (Y k)
  refine rangeC_go (fun (i : Nat) => i ≤ n ∧ ∀ j, j < i → good j) (fun i => i) (fun i => [(10, fam1 3 1 [i64 i] none)]) [1, 0] [19, 20, 4, 5, 21, 22, 23, 24, 25, 26, 27, 7, 6, 28, 29, 30, 31, 32, 33, 34, 35, 36, 37, 38, 39, 40, 41, 42, 43, 44, 45, 46, 47, 23, 48, 49] 0 0 (N := n) (sq := edgeE n fun i => [i64 (X i), i64 (Y i)]) (ob := [spots n fun i => [i64 (X i), i64 (Y i)], n ≤ 9223372036854775806]) rfl (by simp [hg, hn]) (by kernel_rfl) rfl (fun i _ => ⟨rfl, rfl⟩) ⟨Nat.zero_le _, fun j hj => by omega⟩ rfl ⟨[], ?_, ?_, ?_⟩ ?_ ?_
  · simp only [go_sem]
  · simp only [go_sem]
  · simp [goodNames, asg]
  · intro i hi hlt
    simp only [go_sem, edgeE]
    have hnl : nxt n i < n := nxt_lt hlt
    have hin : i < n := hlt
    refine loopC_go (fun (k : Nat) => k ≤ n ∧ ∀ q, q < k → q ≠ i → q ≠ nxt n i → 0 < turnS (X i) (Y i) (X (nxt n i)) (Y (nxt n i)) (X q) (Y q)) (fun k => n - k) (fun k => [(23, i64 k)]) (fun _ => []) [17, 15, 10, 1, 0] [24, 25, 26, 27, 7, 6, 28, 29, 30, 31, 32, 33, 34, 35, 36, 37, 38, 39, 40, 41, 42, 43, 44, 45, 46, 47, 23] 0 (by kernel_rfl) ?_ ⟨Nat.zero_le _, fun j hj => by omega⟩ ?_ ?_
    · intro x _; simp [goodNames]
    · simp only [go_sem]
    · intro k hk
      have hn0 : ((n : Int) = 0) = False := eq_false (by omega)
      simp only [go_sem, c39, hn0]
      have ei : IntKind.i64.wrap ((i : Int) + 1) = i + 1 := wrap_in (by unfold inR; omega)
      have ek : k < n → IntKind.i64.wrap ((k : Int) + 1) = k + 1 := fun h => wrap_in (by unfold inR; omega)
      have bn : ∀ x y : Nat, ((x : Int) != (y : Int)) = true ↔ x ≠ y := fun x y => by rw [bne_iff_ne]; omega
      refine ⟨fun hkn => ⟨by omega, hkn, fun z1 hz1 z2 hz2 t ht => ?_⟩, fun hkn z1 hz1 => ⟨i + 1, ⟨by omega, fun j hj => ?_⟩, rfl, [], ?_, ?_⟩⟩
      · rw [ei] at hz1
        rw [hz1, tmod_nxt hin] at hz2
        subst hz2
        have hkn' : k < n := by omega
        refine ⟨fun _ => hv i hin, fun _ => hv _ hnl, fun _ => hv k hkn', fun hb => false_of fun hc => ?_, fun hb z3 hz3 => ⟨k + 1, ⟨by omega, fun q hq h1 h2 => ?_⟩, by omega, ?_⟩⟩
        · have := (convexS_iff.1 hc).2.2 i hin k hkn' ((bn _ _).1 hb.1.1) ((bn _ _).1 hb.1.2)
          omega
        · by_cases e : q = k
          · subst e
            rw [(bn q i).2 h1, (bn q (nxt n i)).2 h2] at hb
            simp at hb
            omega
          · exact hk.2 q (by omega) h1 h2
        · rw [hz3, ek hkn']; omega
      · by_cases e : j = i
        · subst e
          intro q hq h1 h2
          exact hk.2 q (by omega) h1 h2
        · exact hi.2 j (by omega)
      · simp only [go_sem]
        rw [hz1, ei]; rfl
      · simp [goodNames, asg]
  · intro i hi he
    simp only [go_sem]
    refine (convexS_iff.2 ⟨h3, hv, fun j hj => ?_⟩).symm ▸ rfl
    exact hi.2 j (by omega)
theorem con59 : ConOK Try.prog 59 c59 := ConOK.go (G := [(23, c23), (39, c39), (36, c36), (1000000 + 55, c55)]) (H := []) (.cons con23 (.cons con39 (.cons con36 (.seq seq55 .nil)))) Try.func59 fun l ob r hc hob => by
  unfold c59 at hc
  split at hc
  · rename_i n g
    cases hc
    have hs : spots n g := hob _ (by simp)
    refine ⟨[.ro n 2 fun i => [i64 (gx g 0 i), i64 (gx g 1 i)]], fun w I vs h => Rs_one (fun v => ro_alike fun i hi => (hs i hi).1) h, by kernel_rfl, vc59 n _ _ (fun i hi => (hs i hi).2) (hob _ (by simp))⟩
  · cases hc
end Go.Ax
end

section
/-
  Spots: what the reference says; copies of spots.
-/
set_option linter.unusedVariables false
set_option linter.unusedSimpArgs false
set_option maxHeartbeats 1000000
set_option maxRecDepth 100000
namespace Go.Ax
open Go.Proofs

end Go.Ax
end

section
/-
  Forms: what is valid; copies; which spots a form has.
-/
set_option linter.unusedVariables false
set_option linter.unusedSimpArgs false
set_option maxHeartbeats 1000000
set_option maxRecDepth 100000
namespace Go.Ax
open Go.Proofs

/-- A form: its kind, its center, its radius, its corners. -/
abbrev formA (k x y r : Int) (n : Nat) (g : Nat → List AV) : AV := .agg [i64 k, i64 x, i64 y, i64 r, .ro n 2 g]
theorem Rs_form {w : World} {ρ : Env} {k x y r : Int} {n : Nat} {g : Nat → List AV} (hs : spots n g) (v : Value) (h : R w ρ (formA k x y r n g) v) : R w ρ (formA k x y r n fun i => [i64 (gx g 0 i), i64 (gx g 1 i)]) v := by
  cases h with
  | agg hl hh =>
    refine .agg hl fun i a z h1 h2 => ?_
    match i with
    | 0 => exact hh 0 a z h1 h2
    | 1 => exact hh 1 a z h1 h2
    | 2 => exact hh 2 a z h1 h2
    | 3 => exact hh 3 a z h1 h2
    | 4 =>
      simp at h1; subst h1
      exact ro_alike (fun i hi => (hs i hi).1) (hh 4 _ z rfl h2)
    | j + 5 => simp at h1
theorem Rs_poly {w : World} {ρ : Env} {n : Nat} {g : Nat → List AV} (hs : spots n g) (v : Value) (h : R w ρ (.agg [.ro n 2 g]) v) : R w ρ (.agg [.ro n 2 fun i => [i64 (gx g 0 i), i64 (gx g 1 i)]]) v := by
  cases h with
  | agg hl hh =>
    refine .agg hl fun i a z h1 h2 => ?_
    match i with
    | 0 =>
      simp at h1; subst h1
      exact ro_alike (fun i hi => (hs i hi).1) (hh 0 _ z rfl h2)
    | j + 1 => simp at h1
theorem Rs_two {w : World} {ρ : Env} {a a' b b' : AV} {vs : List Value} (h : ∀ v, R w ρ a v → R w ρ a' v) (k : ∀ v, R w ρ b v → R w ρ b' v) (hR : Rs w ρ [a, b] vs) : Rs w ρ [a', b'] vs := by
  obtain ⟨x, xs, rfl, h1, h2⟩ := hR.inv
  exact .cons (h x h1) (Rs_one k h2)

def c34 : Con
  | [.agg [.v (.int .i64 a), .v (.int .i64 b)], .agg [.v (.int .i64 c), .v (.int .i64 d)]] => some ([], i64 (IntKind.i64.wrap (IntKind.i64.wrap (a * c) + IntKind.i64.wrap (b * d))))
  | _ => none
theorem con34 : ConOK Try.prog 34 c34 := ConOK.of (G := []) (H := []) .nil Try.func34 fun l ob r hc hob => by
  unfold c34 at hc
  split at hc
  · cases hc
    refine ⟨by kernel_rfl, fnVC_go (rs := [.tmp 4]) rfl rfl ?_⟩
    simp only [go_sem]
    intro z h z1 h1 z2 h2
    rw [h2, h1, h]
  · cases hc
theorem wrap_inR (x : Int) : inR (IntKind.i64.wrap x) := by rw [wrap_i64]; unfold inR; omega
theorem fair1 {a b : Int} {g : Nat → List AV} (h0 : g 0 = [i64 a, i64 b]) : fairS 1 (gx g 0) (gx g 1) = validS a b := by
  rw [Bool.eq_iff_iff, fairS_iff]
  constructor
  · intro h
    have k0 := h 0 (by omega)
    simp only [gx, h0, gi_0, gi_1] at k0
    exact k0
  · intro h i hi
    have : i = 0 := by omega
    subst this
    simp only [gx, h0, gi_0, gi_1]; exact h
theorem spots1 {a b : Int} {g : Nat → List AV} (h0 : g 0 = [i64 a, i64 b]) (ha : inR a) (hb : inR b) : spots 1 g := by
  intro i hi
  have : i = 0 := by omega
  subst this
  simp only [gx, h0, gi_0, gi_1]; exact ⟨trivial, ha, hb⟩
/-- The error of a form. -/
def checkS (k x y r : Int) (n : Nat) (X Y : Nat → Int) : Int :=
  if k ≠ 1 ∧ k ≠ 2 then 8
  else if ¬ (validS x y = true ∧ ∀ i, i < n → validS (X i) (Y i) = true) then 3
  else if k = 1 then (if 1 ≤ r ∧ (2097152 < r ∨ checkBoxS (x - r) (y - r) (x + r) (y + r) ≠ 0) then 3 else if r < 1 ∨ 0 < n then 5 else 0)
  else if r ≠ 0 ∨ 8 < n ∨ convexS n X Y = false then 5 else 0
instance {n : Nat} {X Y : Nat → Int} : Decidable (∀ i, i < n → validS (X i) (Y i) = true) := inferInstance
def c40 : Con
  | [.agg [.v (.int .i64 k), .v (.int .i64 x), .v (.int .i64 y), .v (.int .i64 r), .ro n 2 g]] => some ([spots n g, n ≤ 9223372036854775806, inR x, inR y, inR r], i64 (checkS k x y r n (gx g 0) (gx g 1)))
  | _ => none
theorem con40 : ConOK Try.prog 40 c40 := ConOK.of (G := [(21, c21), (59, c59), (23, c23), (58, c58)]) (H := []) (.cons con21 (.cons con59 (.cons con23 (.cons con58 .nil)))) Try.func40 fun l ob r hc hob => by
  unfold c40 at hc
  split at hc
  · rename_i k x y r n g
    cases hc
    have hs : spots n g := hob _ (by simp)
    have hn : n ≤ 9223372036854775806 := hob _ (by simp)
    have hx : inR x := hob _ (by simp)
    have hy : inR y := hob _ (by simp)
    have hr : inR r := hob _ (by simp)
    refine ⟨by kernel_rfl, fnVC_go (rs := [.tmp 2]) rfl rfl ?_⟩
    simp only [go_sem, c21, c59, c23, c58]
    have hfa : fairS 1 (gx (rowsOf 2 [AV.v (Value.int IntKind.i64 x), AV.v (Value.int IntKind.i64 y)]) 0) (gx (rowsOf 2 [AV.v (Value.int IntKind.i64 x), AV.v (Value.int IntKind.i64 y)]) 1) = validS x y := fair1 rfl
    have hsp : spots 1 (rowsOf 2 [AV.v (Value.int IntKind.i64 x), AV.v (Value.int IntKind.i64 y)]) := spots1 rfl hx hy
    rw [hfa]
    refine ⟨fun h => ?_, fun h z hz => ⟨hsp, fun z1 hz1 => ⟨fun _ => hs, fun _ => by omega, fun h3 => ?_, fun h3 z2 hz2 => ⟨fun _ => wrap_inR _, fun _ => wrap_inR _, fun _ => wrap_inR _, fun _ => wrap_inR _, fun a b => ⟨a, b⟩, fun h4 => ?_, fun h4 => ⟨fun a b => ⟨a, b⟩, fun h5 => ?_, fun h5 => ⟨fun a b => ⟨a, b⟩, fun z3 hz3 => ⟨fun _ => hs, fun _ => hn, fun a b => ⟨a, b⟩, fun h6 => ?_, fun h6 => ?_⟩⟩⟩⟩⟩⟩⟩
    · have h1 : k ≠ 1 ∧ k ≠ 2 := by simpa using h
      unfold checkS; rw [if_pos h1]
    · have h1 : ¬ (k ≠ 1 ∧ k ≠ 2) := by simp at h; omega
      have h2 : ¬ (validS x y = true ∧ ∀ i, i < n → validS (gx g 0 i) (gx g 1 i) = true) := by
        rintro ⟨v1, v2⟩
        rw [← fairS_iff] at v2
        rw [v1] at hz; rw [v2] at hz1
        simp [hz, hz1] at h3
      unfold checkS; rw [if_neg h1, if_pos h2]
    all_goals
      have h1 : ¬ (k ≠ 1 ∧ k ≠ 2) := by simp at h; omega
      have v1 : validS x y = true := by rw [← hz]; exact h3.1
      have v2 : ∀ i, i < n → validS (gx g 0 i) (gx g 1 i) = true := by rw [← fairS_iff, ← hz1]; exact h3.2
      have v3 := validS_iff.1 v1
      have h2 : ¬ ¬ (validS x y = true ∧ ∀ i, i < n → validS (gx g 0 i) (gx g 1 i) = true) := fun hn => hn ⟨v1, v2⟩
      have hb : 0 < r → ¬ 2097152 < r → z2 = checkBoxS (x - r) (y - r) (x + r) (y + r) := fun a b => by
        rw [hz2, wrap_in (x := x - r) (by unfold inR; omega), wrap_in (x := y - r) (by unfold inR; omega), wrap_in (x := x + r) (by unfold inR; omega), wrap_in (x := y + r) (by unfold inR; omega)]
      unfold checkS
      rw [if_neg h1, if_neg h2]
    · simp only [beq_iff_eq, bne_iff_ne, ne_eq] at h4
      rw [if_pos h4.1.1, if_pos]
      refine ⟨by omega, ?_⟩
      by_cases hr2 : 2097152 < r
      · exact .inl hr2
      · rw [← hb h4.1.2 hr2]; exact .inr (h4.2.resolve_left hr2)
    all_goals
      have h4' : k = 1 → ¬ (1 ≤ r ∧ (2097152 < r ∨ checkBoxS (x - r) (y - r) (x + r) (y + r) ≠ 0)) := by
        rintro hk ⟨a, b⟩
        have a' : 0 < r := by omega
        simp only [hk, beq_self_eq_true, Bool.true_and, a', decide_true, Bool.or_eq_false_iff, decide_eq_false_iff_not, bne_eq_false_iff_eq] at h4
        rw [← hb a' h4.1] at b
        rcases b with b | b
        · exact h4.1 b
        · exact b h4.2
    · have hk : k = 1 := by simpa using h5.1
      rw [if_pos hk, if_neg (h4' hk), if_pos (by have := h5.2; omega)]
    · have hk : k ≠ 1 := by simpa using h6.1
      rw [if_neg hk, if_pos]
      rw [← hz3]
      have := h6.2
      simp only [bne_iff_ne] at this
      rcases this with (a | a) | a
      · exact .inl a
      · exact .inr (.inl (by omega))
      · exact .inr (.inr a)
    · by_cases hk : k = 1
      · simp only [hk, beq_self_eq_true, Bool.true_and, Bool.or_eq_false_iff, decide_eq_false_iff_not] at h5
        rw [if_pos hk, if_neg (h4' hk), if_neg (by omega)]
      · have hk' : (k == 1) = false := by simpa using hk
        rw [if_neg hk, if_neg]
        rw [← hz3]
        simp only [hk', Bool.not_false, Bool.true_and, Bool.or_eq_false_iff, bne_eq_false_iff_eq, decide_eq_false_iff_not, Bool.not_eq_false'] at h6
        rintro (a | a | a)
        · exact a h6.1.1
        · exact h6.1.2 (by omega)
        · rw [h6.2] at a; cases a
  · cases hc
end Go.Ax
end

section
/-
  Forms: the reference's check; which spots a form has.
-/
set_option linter.unusedVariables false
set_option linter.unusedSimpArgs false
set_option maxHeartbeats 1000000
set_option maxRecDepth 100000
namespace Go.Ax
open Go.Proofs

def c22 : Con
  | [.agg [.v (.int .i64 k), .v (.int .i64 x), .v (.int .i64 y), .v (.int .i64 r), .ro n 2 g]] => some ([spots n g, n ≤ 9223372036854775806, inR x, inR y, inR r], if checkS k x y r n (gx g 0) (gx g 1) = 0 then (if k = 1 then .iface 78 (.agg [i64 x, i64 y, i64 r]) else .iface 82 (.agg [.ro n 2 g])) else .v .nilIface)
  | _ => none
theorem con22 : ConOK Try.prog 22 c22 := ConOK.of (G := [(40, c40)]) (H := []) (.cons con40 .nil) Try.func22 fun l ob rr hc hob => by
  unfold c22 at hc
  split at hc
  · rename_i k x y r n g
    cases hc
    have hs : spots n g := hob _ (by simp)
    have hn : n ≤ 9223372036854775806 := hob _ (by simp)
    have hx : inR x := hob _ (by simp)
    have hy : inR y := hob _ (by simp)
    have hr : inR r := hob _ (by simp)
    refine ⟨by kernel_rfl, fnVC_go (rs := [.tmp 2]) rfl rfl ?_⟩
    simp only [go_sem, c40]
    intro z hz
    refine ⟨hs, hn, hx, hy, hr, fun h => ?_, fun h => ⟨fun h2 => ?_, fun h2 => ?_⟩⟩
    · rw [if_neg]; rw [← hz]; simpa using h
    · rw [if_pos (by rw [← hz]; simpa using h), if_pos (by simpa using h2)]
    · rw [if_pos (by rw [← hz]; simpa using h), if_neg (by simpa using h2)]
  · cases hc

/-! ### Which spots a form has -/
def dist2 (x y px py : Int) : Int := (px - x) * (px - x) + (py - y) * (py - y)
theorem sq0 (a : Int) : 0 ≤ a * a := by rw [← Int.natAbs_mul_self]; exact Int.natCast_nonneg _
theorem dist2_bd {x y px py : Int} (h1 : validS x y = true) (h2 : validS px py = true) : 0 ≤ (px - x) * (px - x) ∧ (px - x) * (px - x) ≤ 17592186044416 ∧ 0 ≤ (py - y) * (py - y) ∧ (py - y) * (py - y) ≤ 17592186044416 ∧ sm (px - x) ∧ sm (py - y) := by
  rw [validS_iff] at h1 h2
  have a1 : sm (px - x) := by unfold sm; omega
  have a2 : sm (py - y) := by unfold sm; omega
  have b1 := sm_mul a1 a1
  have b2 := sm_mul a2 a2
  have c1 : 0 ≤ (px - x) * (px - x) := sq0 _
  have c2 : 0 ≤ (py - y) * (py - y) := sq0 _
  exact ⟨c1, b1.2, c2, b2.2, a1, a2⟩
theorem dist2_wrap {x y px py : Int} (h1 : validS x y = true) (h2 : validS px py = true) :
    IntKind.i64.wrap (IntKind.i64.wrap (IntKind.i64.wrap (px - x) * IntKind.i64.wrap (px - x)) + IntKind.i64.wrap (IntKind.i64.wrap (py - y) * IntKind.i64.wrap (py - y))) = dist2 x y px py := by
  obtain ⟨c1, b1, c2, b2, a1, a2⟩ := dist2_bd h1 h2
  unfold sm at a1 a2
  rw [wrap_in (x := px - x) (by unfold inR; omega), wrap_in (x := py - y) (by unfold inR; omega), wrap_in (x := (px - x) * (px - x)) (by unfold inR; omega), wrap_in (x := (py - y) * (py - y)) (by unfold inR; omega), wrap_in (by unfold inR; omega)]
  rfl
theorem sq_wrap {r : Int} (h : sm r) : IntKind.i64.wrap (r * r) = r * r := by
  have := sm_mul h h
  exact wrap_in (by unfold inR; omega)
def c110 : Con
  | [.agg [.v (.int .i64 x), .v (.int .i64 y), .v (.int .i64 r)], .agg [.v (.int .i64 px), .v (.int .i64 py)]] => some ([validS x y = true, validS px py = true, sm r], bo (decide (dist2 x y px py ≤ r * r)))
  | _ => none
theorem con110 : ConOK Try.prog 110 c110 := ConOK.of (G := [(33, c33), (34, c34)]) (H := []) (.cons con33 (.cons con34 .nil)) Try.func110 fun l ob rr hc hob => by
  unfold c110 at hc
  split at hc
  · rename_i x y r px py
    cases hc
    have h1 : validS x y = true := hob _ (by simp)
    have h2 : validS px py = true := hob _ (by simp)
    have h3 : sm r := hob _ (by simp)
    refine ⟨by kernel_rfl, fnVC_go (rs := [.tmp 4]) rfl rfl ?_⟩
    simp only [go_sem, c33, c34]
    intro z hz z1 hz1 z2 hz2 z3 hz3
    subst hz hz1
    rw [hz2, hz3, dist2_wrap h1 h2, sq_wrap h3]
  · cases hc
/-- The spot is on no edge's right. -/
def inS (n : Nat) (X Y : Nat → Int) (px py : Int) : Bool := decide (∀ i, i < n → 0 ≤ turnS (X i) (Y i) (X (nxt n i)) (Y (nxt n i)) px py)
theorem inS_iff {n : Nat} {X Y : Nat → Int} {px py : Int} : inS n X Y px py = true ↔ ∀ i, i < n → 0 ≤ turnS (X i) (Y i) (X (nxt n i)) (Y (nxt n i)) px py := by unfold inS; simp
def c35 : Con
  | [.agg [.ro n 2 g], .agg [.v (.int .i64 px), .v (.int .i64 py)]] => some ([spots n g, n ≤ 9223372036854775806, ∀ i, i < n → validS (gx g 0 i) (gx g 1 i) = true, validS px py = true], bo (inS n (gx g 0) (gx g 1) px py))
  | _ => none
theorem vc35 (n : Nat) (X Y : Nat → Int) (px py : Int) (hX : ∀ i, i < n → inR (X i) ∧ inR (Y i)) (hn : n ≤ 9223372036854775806) (hv : ∀ i, i < n → validS (X i) (Y i) = true) (hp : validS px py = true) : fnVC Try.prog [(39, c39), (36, c36), (1000000 + 55, c55)] [] Try.f35 [.agg [.ro n 2 fun i => [i64 (X i), i64 (Y i)]], .agg [i64 px, i64 py]] (· = bo (inS n X Y px py)) := by
  refine fnVC_go (rs := [.cell 4 4]) rfl rfl ?_
  simp only [go_sem, c36]
  have hg : spots n fun i => [i64 (X i), i64 (Y i)] := fun i hi => ⟨rfl, hX i hi⟩
  refine rangeC_go (fun (i : Nat) => i ≤ n ∧ ∀ j, j < i → 0 ≤ turnS (X j) (Y j) (X (nxt n j)) (Y (nxt n j)) px py) (fun i => i) (fun _ => []) [2, 1, 0] [9, 10, 5, 6, 11, 12, 13, 14, 15] 0 0 (N := n) (sq := edgeE n fun i => [i64 (X i), i64 (Y i)]) (ob := [spots n fun i => [i64 (X i), i64 (Y i)], n ≤ 9223372036854775806]) rfl (by simp [hg, hn]) (by kernel_rfl) rfl (fun i _ => ⟨rfl, rfl⟩) ⟨Nat.zero_le _, fun j hj => by omega⟩ rfl ⟨[], ?_, ?_, ?_⟩ ?_ ?_
  · simp only [go_sem]
  · simp only [go_sem]
  · simp [goodNames, asg]
  · intro i hi hlt
    simp only [go_sem, edgeE, c39]
    refine fun z hz => ⟨hv i hlt, hv _ (nxt_lt hlt), hp, fun h => false_of fun hc => ?_, fun h => ⟨i + 1, ⟨by have : i < n := hlt; omega, fun j hj => ?_⟩, rfl, [], ?_⟩⟩
    · have := inS_iff.1 hc i hlt; omega
    · by_cases e : j = i
      · subst e; omega
      · exact hi.2 j (by omega)
    · simp [goodNames]
  · intro i hi he
    simp only [go_sem]
    exact (inS_iff.2 fun j hj => hi.2 j (by omega)).symm
theorem con35 : ConOK Try.prog 35 c35 := ConOK.go (G := [(39, c39), (36, c36), (1000000 + 55, c55)]) (H := []) (.cons con39 (.cons con36 (.seq seq55 .nil))) Try.func35 fun l ob rr hc hob => by
  unfold c35 at hc
  split at hc
  · rename_i n g px py
    cases hc
    have hs : spots n g := hob _ (by simp)
    refine ⟨[.agg [.ro n 2 fun i => [i64 (gx g 0 i), i64 (gx g 1 i)]], .agg [i64 px, i64 py]], fun w I vs h => Rs_two (Rs_poly hs) (fun v h => h) h, by kernel_rfl, vc35 n _ _ px py (fun i hi => (hs i hi).2) (hob _ (by simp)) (hob _ (by simp)) (hob _ (by simp))⟩
  · cases hc
/-- The form has the spot. -/
def holdsS (k x y r : Int) (n : Nat) (X Y : Nat → Int) (px py : Int) : Bool := if k = 1 then decide (dist2 x y px py ≤ r * r) else inS n X Y px py
theorem check_1 {k x y r : Int} {n : Nat} {X Y : Nat → Int} (h : checkS k x y r n X Y = 0) : (k = 1 ∨ k = 2) ∧ validS x y = true ∧ (∀ i, i < n → validS (X i) (Y i) = true) ∧ (k = 1 → 1 ≤ r ∧ r ≤ 2097152 ∧ checkBoxS (x - r) (y - r) (x + r) (y + r) = 0 ∧ n = 0) ∧ (k ≠ 1 → r = 0 ∧ n ≤ 8 ∧ convexS n X Y = true) := by
  unfold checkS at h
  split at h
  · omega
  · split at h
    · omega
    · rename_i h1 h2
      have h2 : validS x y = true ∧ ∀ i, i < n → validS (X i) (Y i) = true := Decidable.of_not_not h2
      split at h
      · rename_i h3
        split at h
        · omega
        · rename_i h4
          split at h
          · omega
          · rename_i h5
            refine ⟨.inl h3, h2.1, h2.2, fun _ => ⟨by omega, by omega, ?_, by omega⟩, fun h => absurd h3 h⟩
            by_cases e : checkBoxS (x - r) (y - r) (x + r) (y + r) = 0
            · exact e
            · exact absurd ⟨by omega, .inr e⟩ h4
      · rename_i h3
        split at h
        · omega
        · rename_i h5
          refine ⟨by omega, h2.1, h2.2, fun h => absurd h h3, fun _ => ⟨by omega, by omega, ?_⟩⟩
          cases hc : convexS n X Y
          · exact absurd (.inr (.inr hc)) h5
          · rfl
def c13 : Con
  | [.agg [.v (.int .i64 k), .v (.int .i64 x), .v (.int .i64 y), .v (.int .i64 r), .ro n 2 g], .agg [.v (.int .i64 px), .v (.int .i64 py)]] => some ([spots n g, n ≤ 9223372036854775806, inR x, inR y, inR r, inR px, inR py], bo (decide (checkS k x y r n (gx g 0) (gx g 1) = 0) && validS px py && holdsS k x y r n (gx g 0) (gx g 1) px py))
  | _ => none
theorem con13 : ConOK Try.prog 13 c13 := ConOK.of (G := [(23, c23), (22, c22), (35, c35), (110, c110)]) (H := []) (.cons con23 (.cons con22 (.cons con35 (.cons con110 .nil)))) Try.func13 fun l ob rr hc hob => by
  unfold c13 at hc
  split at hc
  · rename_i k x y r n g px py
    cases hc
    have hs : spots n g := hob _ (by simp)
    have hn : n ≤ 9223372036854775806 := hob _ (by simp)
    have hx : inR x := hob _ (by simp)
    have hy : inR y := hob _ (by simp)
    have hr : inR r := hob _ (by simp)
    have hpx : inR px := hob _ (by simp)
    have hpy : inR py := hob _ (by simp)
    refine ⟨by kernel_rfl, fnVC_go (rs := [.tmp 4]) rfl rfl ?_⟩
    simp only [go_sem, c23, c22, c35, c110]
    have hfa : fairS 1 (gx (rowsOf 2 [AV.v (Value.int IntKind.i64 px), AV.v (Value.int IntKind.i64 py)]) 0) (gx (rowsOf 2 [AV.v (Value.int IntKind.i64 px), AV.v (Value.int IntKind.i64 py)]) 1) = validS px py := fair1 rfl
    have hsp : spots 1 (rowsOf 2 [AV.v (Value.int IntKind.i64 px), AV.v (Value.int IntKind.i64 py)]) := spots1 rfl hpx hpy
    rw [hfa]
    refine ⟨fun hc => ?_, fun hc => ?_⟩
    · obtain ⟨hk, v1, v2, h1, h2⟩ := check_1 hc
      refine ⟨fun hk1 => ⟨hs, hn, hx, hy, hr, fun z hz => ⟨fun _ => hsp, fun z1 hz1 => ⟨fun _ => v1, fun h => by rw [← hz]; exact h, fun _ => by have := h1 hk1; unfold sm; omega, ?_⟩⟩⟩,
        fun hk1 => ⟨hs, hn, hx, hy, hr, fun z hz => ⟨fun _ => hsp, fun z1 hz1 => ⟨fun _ => hs, fun _ => hn, fun _ => v2, fun h => by rw [← hz]; exact h, ?_⟩⟩⟩⟩
      · rw [hz, hz1]; unfold holdsS; rw [if_pos hk1, decide_eq_true hc]; rfl
      · rw [hz, hz1]; unfold holdsS; rw [if_neg hk1, decide_eq_true hc]; rfl
    · rw [decide_eq_false hc]
      refine ⟨hs, hn, hx, hy, hr, fun z hz => ⟨fun h => h.elim, fun h => h.elim, ?_⟩⟩
      simp
  · cases hc
end Go.Ax
end

section
/-
  Forms: their boxes; the law of spots in forms.
-/
set_option linter.unusedVariables false
set_option linter.unusedSimpArgs false
set_option maxHeartbeats 2000000
set_option maxRecDepth 100000
namespace Go.Ax
open Go.Proofs

def c109 : Con
  | [.agg [.v (.int .i64 x), .v (.int .i64 y), .v (.int .i64 r)]] => some ([], .agg [i64 (IntKind.i64.wrap (x - r)), i64 (IntKind.i64.wrap (y - r)), i64 (IntKind.i64.wrap (x + r)), i64 (IntKind.i64.wrap (y + r))])
  | _ => none
theorem con109 : ConOK Try.prog 109 c109 := ConOK.of (G := [(58, c58)]) (H := []) (.cons con58 .nil) Try.func109 fun l ob r hc hob => by
  unfold c109 at hc
  split at hc
  · cases hc
    refine ⟨by kernel_rfl, fnVC_go (rs := [.cell 2 37]) rfl rfl ?_⟩
    simp only [go_sem, c58]
    intro z h z1 h1 z2 h2 z3 h3
    subst h h1 h2 h3
    rfl
  · cases hc
/-- The box of some spots. -/
def bxS (n : Nat) (X Y : Nat → Int) : Nat → Int
  | 0 => mnS X n
  | 1 => mnS Y n
  | 2 => mxS X n
  | _ => mxS Y n
/-- The first i values. -/
def upto (i : Nat) (Z : Nat → Int) (j : Nat) : Int := if j < i then Z j else 0
theorem upto_zero {Z : Nat → Int} {j : Nat} : upto 0 Z j = 0 := by unfold upto; rw [if_neg (by omega)]
theorem upto_self {i : Nat} {Z : Nat → Int} : upto (i + 1) Z i = Z i := by unfold upto; rw [if_pos (by omega)]
theorem upto_lt {i j : Nat} {Z : Nat → Int} (h : j < i) : upto i Z j = Z j := by unfold upto; rw [if_pos h]
theorem upto_ne {i j : Nat} {Z : Nat → Int} (h : j ≠ i) : upto (i + 1) Z j = upto i Z j := by
  unfold upto
  by_cases e : j < i
  · rw [if_pos e, if_pos (by omega)]
  · rw [if_neg e, if_neg (by omega)]
theorem mnS_upto {Z : Nat → Int} : ∀ {n m : Nat}, n ≤ m → mnS (upto m Z) n = mnS Z n
  | 0, m, _ => rfl
  | n + 1, m, h => by
    simp only [mnS]
    rw [mnS_upto (Z := Z) (n := n) (by omega), upto_lt (i := m) (j := n) (by omega), upto_lt (i := m) (j := 0) (by omega)]
theorem mxS_upto {Z : Nat → Int} : ∀ {n m : Nat}, n ≤ m → mxS (upto m Z) n = mxS Z n
  | 0, m, _ => rfl
  | n + 1, m, h => by
    simp only [mxS]
    rw [mxS_upto (Z := Z) (n := n) (by omega), upto_lt (i := m) (j := n) (by omega), upto_lt (i := m) (j := 0) (by omega)]
def c112 : Con
  | [.agg [.ro n 2 g]] => some ([spots n g, n ≤ 1000, ∀ i, i < n → validS (gx g 0 i) (gx g 1 i) = true], .agg [i64 (bxS n (gx g 0) (gx g 1) 0), i64 (bxS n (gx g 0) (gx g 1) 1), i64 (bxS n (gx g 0) (gx g 1) 2), i64 (bxS n (gx g 0) (gx g 1) 3)])
  | _ => none
theorem vc112 (n : Nat) (X Y : Nat → Int) (hX : ∀ i, i < n → inR (X i) ∧ inR (Y i)) (hn : n ≤ 1000) (hv : ∀ i, i < n → validS (X i) (Y i) = true) : fnVC Try.prog [(114, c114), (58, c58)] [] Try.f112 [.agg [.ro n 2 fun i => [i64 (X i), i64 (Y i)]]] (· = .agg [i64 (bxS n X Y 0), i64 (bxS n X Y 1), i64 (bxS n X Y 2), i64 (bxS n X Y 3)]) := by
  refine fnVC_go (rs := [.cell 2 37]) rfl rfl ?_
  simp only [go_sem]
  refine ⟨by omega, by omega, by rw [show bytesT Try.prog 37 = 32 by kernel_rfl]; omega, ?_⟩
  refine loopC_go (fun (i : Nat) => i ≤ n) (fun i => n - i) (fun i => [(13, i64 i)]) (fun i => [(5, famN n 4 37 (fun j => [i64 (upto i X j), i64 (upto i Y j), i64 (upto i X j), i64 (upto i Y j)]) none)]) [1, 0] [14, 15, 16, 17, 5, 4, 18, 19, 20, 21, 22, 23, 13] 0 (by kernel_rfl) ?_ (Nat.zero_le _) ?_ ?_
  · intro x _; simp [goodNames, asg]
  · simp only [go_sem, upto_zero, implies_true]
  · intro i hi
    simp only [go_sem, c114, c58]
    refine ⟨fun hin => ?_, fun hin => ?_⟩
    · have hin' : i < n := by omega
      have v := validS_iff.1 (hv i hin')
      refine ⟨by omega, hin, fun z hz z1 hz1 z2 hz2 z3 hz3 => ⟨by omega, hin, hin', fun z4 hz4 => ⟨i + 1, by omega, by omega, ?_, fun j hj => ?_⟩⟩⟩
      · rw [hz4, wrap_in (by unfold inR; omega)]; rfl
      · rw [wrap_in (by unfold inR; omega)] at hz hz1 hz2 hz3
        by_cases e : j = i
        · subst e
          rw [if_pos rfl]
          simp only [go_sem, upto_self]
          omega
        · rw [if_neg e]
          have : ∀ Z, upto (i + 1) Z j = upto i Z j := fun Z => upto_ne e
          simp only [go_sem, this]
    · have e : i = n := by omega
      subst e
      have ok : okB i (upto i X) (upto i Y) (upto i X) (upto i Y) := fun j hj => by
        rw [upto_lt hj, upto_lt hj]
        have v := validS_iff.1 (hv j hj)
        unfold checkBoxS
        rw [if_pos ⟨hv j hj, hv j hj⟩, if_neg (by omega)]
      have hb : boxes i (fun j => [i64 (upto i X j), i64 (upto i Y j), i64 (upto i X j), i64 (upto i Y j)]) := fun j hj => by
        simp only [gx, gi_0, gi_1, gi_2, gi_3, upto_lt hj]
        exact ⟨trivial, (hX j hj).1, (hX j hj).2, (hX j hj).1, (hX j hj).2⟩
      obtain ⟨j1, j2, j3, j4⟩ := joinS_ok ok
      intro z hz z1 hz1 z2 hz2 z3 hz3
      have hz : z = joinS i (upto i X) (upto i Y) (upto i X) (upto i Y) 0 := hz
      have hz1 : z1 = joinS i (upto i X) (upto i Y) (upto i X) (upto i Y) 1 := hz1
      have hz2 : z2 = joinS i (upto i X) (upto i Y) (upto i X) (upto i Y) 2 := hz2
      have hz3 : z3 = joinS i (upto i X) (upto i Y) (upto i X) (upto i Y) 3 := hz3
      rw [j1, mnS_upto (Nat.le_refl _)] at hz
      rw [j2, mnS_upto (Nat.le_refl _)] at hz1
      rw [j3, mxS_upto (Nat.le_refl _)] at hz2
      rw [j4, mxS_upto (Nat.le_refl _)] at hz3
      subst hz hz1 hz2 hz3
      exact ⟨hb, by omega, rfl⟩
theorem con112 : ConOK Try.prog 112 c112 := ConOK.go (G := [(114, c114), (58, c58)]) (H := []) (.cons con114 (.cons con58 .nil)) Try.func112 fun l ob r hc hob => by
  unfold c112 at hc
  split at hc
  · rename_i n g
    cases hc
    have hs : spots n g := hob _ (by simp)
    exact ⟨[.agg [.ro n 2 fun i => [i64 (gx g 0 i), i64 (gx g 1 i)]]], fun w I vs h => Rs_one (Rs_poly hs) h, by kernel_rfl, vc112 n _ _ (fun i hi => (hs i hi).2) (hob _ (by simp)) (hob _ (by simp))⟩
  · cases hc

/-- The box of a form. -/
def boxS (k x y r : Int) (n : Nat) (X Y : Nat → Int) (q : Nat) : Int :=
  if checkS k x y r n X Y = 0 then (if k = 1 then (match q with
    | 0 => x - r
    | 1 => y - r
    | 2 => x + r
    | _ => y + r) else bxS n X Y q) else 0
def c12 : Con
  | [.agg [.v (.int .i64 k), .v (.int .i64 x), .v (.int .i64 y), .v (.int .i64 r), .ro n 2 g]] => some ([spots n g, n ≤ 9223372036854775806, inR x, inR y, inR r], .agg [i64 (boxS k x y r n (gx g 0) (gx g 1) 0), i64 (boxS k x y r n (gx g 0) (gx g 1) 1), i64 (boxS k x y r n (gx g 0) (gx g 1) 2), i64 (boxS k x y r n (gx g 0) (gx g 1) 3)])
  | _ => none
theorem boxS_disc {k x y r : Int} {n : Nat} {X Y : Nat → Int} {q : Nat} (hc : checkS k x y r n X Y = 0) (hk : k = 1) : boxS k x y r n X Y q = match q with
    | 0 => x - r
    | 1 => y - r
    | 2 => x + r
    | _ => y + r := by unfold boxS; rw [if_pos hc, if_pos hk]
theorem boxS_poly {k x y r : Int} {n : Nat} {X Y : Nat → Int} {q : Nat} (hc : checkS k x y r n X Y = 0) (hk : k ≠ 1) : boxS k x y r n X Y q = bxS n X Y q := by unfold boxS; rw [if_pos hc, if_neg hk]
theorem boxS_none {k x y r : Int} {n : Nat} {X Y : Nat → Int} {q : Nat} (hc : ¬ checkS k x y r n X Y = 0) : boxS k x y r n X Y q = 0 := by unfold boxS; rw [if_neg hc]
theorem con12 : ConOK Try.prog 12 c12 := ConOK.of (G := [(22, c22), (112, c112), (109, c109)]) (H := []) (.cons con22 (.cons con112 (.cons con109 .nil))) Try.func12 fun l ob rr hc hob => by
  unfold c12 at hc
  split at hc
  · rename_i k x y r n g
    cases hc
    have hs : spots n g := hob _ (by simp)
    have hn : n ≤ 9223372036854775806 := hob _ (by simp)
    have hx : inR x := hob _ (by simp)
    have hy : inR y := hob _ (by simp)
    have hr : inR r := hob _ (by simp)
    refine ⟨by kernel_rfl, fnVC_go (rs := [.cell 2 37]) rfl rfl ?_⟩
    simp only [go_sem, c22, c112, c109]
    refine ⟨fun hc => ?_, fun hc => ⟨hs, hn, hx, hy, hr, fun h => h.elim, fun _ => by simp only [boxS_none hc]⟩⟩
    obtain ⟨hk, v1, v2, h1, h2⟩ := check_1 hc
    refine ⟨fun hk1 => ⟨hs, hn, hx, hy, hr, fun _ z hz z1 hz1 z2 hz2 z3 hz3 => ?_, fun h => by cases h⟩, fun hk1 => ⟨hs, hn, hx, hy, hr, fun _ z hz z1 hz1 z2 hz2 z3 hz3 => ⟨hs, by have := h2 hk1; omega, v2, ?_⟩, fun h => by cases h⟩⟩
    · have h1 := h1 hk1
      have v := validS_iff.1 v1
      rw [wrap_in (by unfold inR; omega)] at hz hz1 hz2 hz3
      simp only [boxS_disc hc hk1]
      rw [hz, hz1, hz2, hz3]
    · simp only [boxS_poly hc hk1]
      rw [hz, hz1, hz2, hz3]
  · cases hc
end Go.Ax
end

section
/-
  Sums of vectors, the reference's.
-/
set_option linter.unusedVariables false
set_option linter.unusedSimpArgs false
set_option maxHeartbeats 4000000
set_option maxRecDepth 100000
namespace Go.Ax
open Go.Proofs
/-! ### Rows that have names, several -/
section
variable {N M q : Nat} {σ : Names} {m rows : Mem} {x : Fam} {a b : AV} {n sz f k r : Nat} {ty : TypeId} {get : Nat → List AV}
def emptyF (x : Fam) : Prop := ∀ f, (x f).n = 0 ∧ (x f).g = none
def fitQ (N M : Nat) (σ : Names) (m : Mem) (x : Fam) : Option Nat → Prop
  | some k => fitF N M σ x (look m k)
  | none => emptyF x
theorem fitRows_z : fitRows N M σ m [] = True := (rfl)
theorem fitRows_c : fitRows N M σ m ((q, x) :: rows) = (fitQ N M σ m x (asg σ q) ∧ fitRows N M σ m rows) := by
  show ((match asg σ q with
    | some k => ∃ y, look m k = some y ∧ ∀ f, fitRow N M σ (x f) (y f)
    | none => ∀ f, (x f).n = 0 ∧ (x f).g = none) ∧ _) = _
  unfold fitQ fitF emptyF
  cases asg σ q with
  | none => rfl
  | some k => cases h : look m k <;> simp [h]
theorem fitQ_some : fitQ N M σ m x (some k) = fitF N M σ x (look m k) := (rfl)
theorem fitQ_none : fitQ N M σ m x none = emptyF x := (rfl)
theorem emptyF_N : emptyF (famN n sz ty get none) = (n = 0) := by
  unfold emptyF
  apply propext
  constructor
  · intro h; have := (h 0).1; simpa [famN] using this
  · intro h f
    subst h
    unfold famN
    split <;> exact ⟨rfl, rfl⟩
def ownA (f n sz : Nat) (a : AV) : Option Nat → Prop
  | some k => a = .own k f n sz
  | none => n = 0 ∧ a = .v (.slice none 0 0)
theorem fit1_ownA : fit1 N M σ (.own q f n sz) a = (q < M ∧ ownA f n sz a (asg σ q)) := by
  simp only [fit1, ownA]
  cases asg σ q <;> rfl
theorem ownA_some : ownA f n sz (.own r f k sz) (some r) = (k = n) := by simp [ownA]
theorem ownA_none : ownA f n sz (.v (.slice none 0 0)) none = (n = 0) := by simp [ownA]
theorem asg_z : asg [] r = some r := (rfl)
theorem asg_c {y : Option Nat} : asg ((k, y) :: σ) r = if k = r then y else asg σ r := (rfl)
end
attribute [go_sem] fitRows_z fitRows_c fitQ_some fitQ_none emptyF_N fit1_ownA ownA_some ownA_none asg_z asg_c
def c50 : Con
  | [.ro n 4 g] => some ([vecs n g, n ≤ 1000], ve (su1 n (gx g 0) (gb g 1)) (su1 n (gx g 2) (gb g 3)))
  | _ => none
theorem vc50 (n : Nat) (X Y : Nat → Int) (E F : Nat → Bool) (hX : ∀ i, i < n → inR (X i) ∧ inR (Y i)) (hn : n ≤ 1000) : fnVC Try.prog [(68, c68)] [(5, ⟨[(7, .slot 3)], [(13, [.slot 3]), (14, [.slot 3])]⟩)] Try.f50 [.ro n 4 fun i => [i64 (X i), bo (E i), i64 (Y i), bo (F i)]] (· = ve (su1 n X E) (su1 n Y F)) := by
  refine fnVC_go (rs := [.cell 2 50]) rfl rfl ?_
  simp only [go_sem]
  refine loopN_go (fun (i : Nat) => i ≤ n) (fun i => n - i) (fun i => [(5, i64 i), (3, .own 4 0 i 2), (4, .own 5 0 i 2)]) (fun i => [(4, famN i 2 48 (fun k => [i64 (X k), bo (E k)]) none), (5, famN i 2 48 (fun k => [i64 (Y k), bo (F k)]) none)]) [0] [6, 7, 8, 9, 12, 13, 14, 15, 16, 17, 18, 19, 20, 21, 22, 23, 24, 25, 26, 27, 3, 4, 10, 11, 5] 2 0 (by kernel_rfl) (Nat.zero_le _) ⟨[(4, none), (5, none)], ?_, ?_, ?_, ?_⟩ ?_
  · simp only [go_sem]
  · simp only [go_sem]
  · simp only [go_sem]
  · simp [goodNames, asg]
  intro i hi
  simp only [go_sem, c68]
  have hb : bytesT Try.prog 48 = 16 := by kernel_rfl
  rw [hb]
  refine ⟨fun h => ⟨by omega, h, by omega, by omega, by omega, h, by omega, by omega, fun z hz => ⟨i + 1, by omega, by omega, [(4, some 17), (5, some 25)], ?_⟩⟩, fun h => ?_⟩
  · simp only [go_sem]
    refine ⟨by rw [hz, wrap_in (by unfold inR; omega)]; rfl, ⟨fun k hk => ?_, fun k hk => ?_⟩, by simp [goodNames, asg]⟩
    · by_cases e : k < i
      · rw [if_pos e]; simp only [go_sem]
      · have e : k = i := by omega
        subst e
        rw [if_neg (by omega), Nat.sub_self]
        simp only [Nat.zero_mul, go_sem]
    · by_cases e : k < i
      · rw [if_pos e]; simp only [go_sem]
      · have e : k = i := by omega
        subst e
        rw [if_neg (by omega), Nat.sub_self]
        simp only [Nat.zero_mul, go_sem]
  · have e : i = n := by omega
    subst e
    have hx : ∀ j, j < i → (fun j => [i64 (X j), bo (E j)]) j = [i64 (X j), bo (E j)] := fun j hj => rfl
    have hy : ∀ j, j < i → (fun j => [i64 (Y j), bo (F j)]) j = [i64 (Y j), bo (F j)] := fun j hj => rfl
    obtain ⟨e1, e2⟩ := wvS_up hx
    obtain ⟨e3, e4⟩ := wvS_up hy
    simp only [forall_eq, e1, e2, e3, e4]
    exact ⟨nums_up hx fun j hj => (hX j hj).1, hn, nums_up hy fun j hj => (hX j hj).2, hn, rfl⟩
theorem con50 : ConOK Try.prog 50 c50 := ConOK.go (G := [(68, c68)]) (H := [(5, ⟨[(7, .slot 3)], [(13, [.slot 3]), (14, [.slot 3])]⟩)]) (.cons con68 .nil) Try.func50 fun l ob r hc hob => by
  unfold c50 at hc
  split at hc
  · rename_i n g
    cases hc
    have hs : vecs n g := hob _ (by simp)
    exact ⟨[.ro n 4 fun i => [i64 (gx g 0 i), bo (gb g 1 i), i64 (gx g 2 i), bo (gb g 3 i)]], fun w I vs h => Rs_one (fun v => ro_alike fun i hi => (hs i hi).1) h, by kernel_rfl, vc50 n _ _ _ _ (fun i hi => (hs i hi).2) (hob _ (by simp))⟩
  · cases hc
end Go.Ax
end

section
/-
  Rays.
-/
set_option linter.unusedVariables false
set_option linter.unusedSimpArgs false
set_option maxHeartbeats 4000000
set_option maxRecDepth 100000
namespace Go.Ax
open Go.Proofs
def nSq (a : Nb) : Nb := (sqV (whV a.1), sqF (whV a.1) (whF a.1 a.2))
def nCl (x l h : Nb) : Nb := (max (whV l.1) (min (whV x.1) (whV h.1)), whF l.1 l.2 || (whF x.1 x.2 || whF h.1 h.2))
theorem sqV_rg {v : Int} : rg (sqV v) := by
  unfold sqV; split
  · unfold rg; omega
  · exact ftV_rg _
theorem nPos_rg {a : Nb} (h : inR a.1) : rg (nPos a).1 := by
  have := whV_rg h
  unfold nPos rg at *; dsimp only; split <;> omega
def dmB (x y r fx fy tx ty : Int) : Prop := ¬ dist2 x y tx ty ≤ r * r ∧ ((0 ≤ (fx - x) * (tx - fx) + (fy - y) * (ty - fy) ∨ (tx - fx) * (tx - fx) + (ty - fy) * (ty - fy) ≤ -((fx - x) * (tx - fx) + (fy - y) * (ty - fy))) ∨
  ((fx - x) * (tx - fx) + (fy - y) * (ty - fy)) * ((fx - x) * (tx - fx) + (fy - y) * (ty - fy)) < ((tx - fx) * (tx - fx) + (ty - fy) * (ty - fy)) * ((fx - x) * (fx - x) + (fy - y) * (fy - y) - r * r))
end Go.Ax
end

section
/-
  Numbers and vectors ars they are computed with: contracts whose results are whole numbers and whole vectors; the reference's vectors.
-/
set_option linter.unusedVariables false
set_option linter.unusedSimpArgs false
set_option maxHeartbeats 4000000
set_option maxRecDepth 100000
namespace Go.Ax
open Go.Proofs
abbrev V2 := Nb × Nb
def nbA (a : Nb) : AV := .agg [i64 a.1, bo a.2]
def veA (a : V2) : AV := .agg [i64 a.1.1, bo a.1.2, i64 a.2.1, bo a.2.2]
def unA (u : Bool × V2) : AV := .tup [.agg [i64 u.2.1.1, bo u.2.1.2, i64 u.2.2.1, bo u.2.2.2], bo u.1]
theorem bnd_nb {a : Nb} : bnd (nbA a) = .agg [i64 a.1, bo a.2] := (rfl)
theorem bnd_ve {a : V2} : bnd (veA a) = .agg [i64 a.1.1, bo a.1.2, i64 a.2.1, bo a.2.2] := (rfl)
theorem bnd_un {u : Bool × V2} : bnd (unA u) = .tup [.agg [i64 u.2.1.1, bo u.2.1.2, i64 u.2.2.1, bo u.2.2.2], bo u.1] := (rfl)
theorem plain_nb {a : Nb} : plain 3 (nbA a) = true := (rfl)
theorem plain_ve {a : V2} : plain 3 (veA a) = true := (rfl)
theorem plain_un {u : Bool × V2} : plain 3 (unA u) = true := (rfl)
theorem etaN {a : Nb} : (a.1, a.2) = a := (rfl)
theorem etaV {a : V2} : (a.1, a.2) = a := (rfl)
theorem gx_rows1 {a b : Int} {e f : Bool} : gx (rowsOf 2 [i64 a, bo e, i64 b, bo f]) 0 0 = a := (rfl)
theorem gx_rows2 {a b : Int} {e f : Bool} : gx (rowsOf 2 [i64 a, bo e, i64 b, bo f]) 0 1 = b := (rfl)
theorem gb_rows1 {a b : Int} {e f : Bool} : gb (rowsOf 2 [i64 a, bo e, i64 b, bo f]) 1 0 = e := (rfl)
theorem gb_rows2 {a b : Int} {e f : Bool} : gb (rowsOf 2 [i64 a, bo e, i64 b, bo f]) 1 1 = f := (rfl)
section
variable {a b c d : Int} {e f p q : Bool}
theorem gx4_1 : gx (rowsOf 4 [i64 a, bo e, i64 b, bo f, i64 c, bo p, i64 d, bo q]) 0 0 = a := (rfl)
theorem gx4_2 : gx (rowsOf 4 [i64 a, bo e, i64 b, bo f, i64 c, bo p, i64 d, bo q]) 2 0 = b := (rfl)
theorem gx4_3 : gx (rowsOf 4 [i64 a, bo e, i64 b, bo f, i64 c, bo p, i64 d, bo q]) 0 1 = c := (rfl)
theorem gx4_4 : gx (rowsOf 4 [i64 a, bo e, i64 b, bo f, i64 c, bo p, i64 d, bo q]) 2 1 = d := (rfl)
theorem gb4_1 : gb (rowsOf 4 [i64 a, bo e, i64 b, bo f, i64 c, bo p, i64 d, bo q]) 1 0 = e := (rfl)
theorem gb4_2 : gb (rowsOf 4 [i64 a, bo e, i64 b, bo f, i64 c, bo p, i64 d, bo q]) 3 0 = f := (rfl)
theorem gb4_3 : gb (rowsOf 4 [i64 a, bo e, i64 b, bo f, i64 c, bo p, i64 d, bo q]) 1 1 = p := (rfl)
theorem gb4_4 : gb (rowsOf 4 [i64 a, bo e, i64 b, bo f, i64 c, bo p, i64 d, bo q]) 3 1 = q := (rfl)
theorem vecs_rows : vecs 2 (rowsOf 4 [i64 a, bo e, i64 b, bo f, i64 c, bo p, i64 d, bo q]) = (inR a ∧ inR b ∧ inR c ∧ inR d) := by
  apply propext
  constructor
  · intro h; exact ⟨(h 0 (by omega)).2.1, (h 0 (by omega)).2.2, (h 1 (by omega)).2.1, (h 1 (by omega)).2.2⟩
  · rintro ⟨h1, h2, h3, h4⟩; exact vecs2 rfl rfl h1 h2 h3 h4
theorem nums_rows : nums 2 (rowsOf 2 [i64 a, bo e, i64 b, bo f]) = (inR a ∧ inR b) := by
  apply propext
  constructor
  · intro h; exact ⟨(h 0 (by omega)).2, (h 1 (by omega)).2⟩
  · rintro ⟨h1, h2⟩; exact nums2 rfl rfl h1 h2
theorem vecs_row1 : vecs 1 (rowsOf 4 [i64 a, bo e, i64 b, bo f]) = (inR a ∧ inR b) := by
  apply propext
  constructor
  · intro h; exact ⟨(h 0 (by omega)).2.1, (h 0 (by omega)).2.2⟩
  · rintro ⟨h1, h2⟩; exact vecs1 rfl h1 h2
theorem nums_row1 : nums 1 (rowsOf 2 [i64 a, bo e]) = inR a := by
  apply propext
  constructor
  · intro h; exact (h 0 (by omega)).2
  · intro h; exact nums1 rfl h
end
def nAbs (a : Nb) : Nb := (ab (whV a.1), whF a.1 a.2)
def nMx (a b : Nb) : Nb := (if whV a.1 < whV b.1 then whV b.1 else whV a.1, whF a.1 a.2 || whF b.1 b.2)
def nMn (a b : Nb) : Nb := (if whV b.1 < whV a.1 then whV b.1 else whV a.1, whF a.1 a.2 || whF b.1 b.2)
def vLoc (x y : Int) : V2 := (nRat x 256, nRat y 256)
def vAdd (a b : V2) : V2 := (nAdd a.1 b.1, nAdd a.2 b.2)
def vSub (a b : V2) : V2 := (nSub a.1 b.1, nSub a.2 b.2)
def vScale (v : V2) (k : Nb) : V2 := (nMul v.1 k, nMul v.2 k)
def vDot (a b : V2) : Nb := nDot a.1 b.1 a.2 b.2
def vCross (a b : V2) : Nb := nDot a.1 b.2 (nNeg a.2) b.1
def vLen (a : V2) : Nb := nHyp a.1 a.2
def vOf (x y : Int) : V2 := (nInt x, nInt y)
def vUnit (v : V2) : Bool × V2 := unS v.1.1 v.1.2 v.2.1 v.2.2
def vApply (r v : V2) : V2 := (nDot r.1 v.1 (nNeg r.2) v.2, nDot r.2 v.1 r.1 v.2)
def vNorm (a b c d : Int) : V2 := (vUnit (vOf (d - b) (-(c - a)))).2
theorem inR_of {x : Int} (h : rg x) : inR x = True := eq_true (rg_inR h)
section
variable {a b c d : Nb} {u v : V2} {x y : Int}
theorem iMul : inR (nMul a b).1 = True := inR_of nMul_rg
theorem iDiv : inR (nDiv a b).1 = True := inR_of nDiv_rg
theorem iInt : inR (nInt x).1 = True := inR_of nInt_rg
theorem iAdd : inR (nAdd a b).1 = True := inR_of nAdd_rg
theorem iSub : inR (nSub a b).1 = True := inR_of nSub_rg
theorem iRat : inR (nRat x y).1 = True := inR_of nRat_rg
theorem iDot : inR (nDot a b c d).1 = True := inR_of nDot_rg
theorem iHyp : inR (nHyp a b).1 = True := inR_of nHyp_rg
theorem iSq : inR (nSq a).1 = True := inR_of sqV_rg
theorem iNeg (h : inR a.1) : inR (nNeg a).1 = True := inR_of (nNeg_rg h)
theorem iPos (h : inR a.1) : inR (nPos a).1 = True := inR_of (nPos_rg h)
theorem iAbs (h : inR a.1) : inR (nAbs a).1 = True := by
  refine inR_of ?_
  have := whV_rg h
  unfold nAbs ab rg at *; dsimp only; split <;> omega
theorem iMx (h : inR a.1) (k : inR b.1) : inR (nMx a b).1 = True := by
  refine inR_of ?_
  have h1 := whV_rg h
  have h2 := whV_rg k
  unfold nMx rg at *; dsimp only; split <;> omega
theorem iMn (h : inR a.1) (k : inR b.1) : inR (nMn a b).1 = True := by
  refine inR_of ?_
  have h1 := whV_rg h
  have h2 := whV_rg k
  unfold nMn rg at *; dsimp only; split <;> omega
theorem iCl (h : inR a.1) (k : inR b.1) (l : inR c.1) : inR (nCl a b c).1 = True := by
  refine inR_of ?_
  have h1 := whV_rg h
  have h2 := whV_rg k
  have h3 := whV_rg l
  unfold nCl rg at *; dsimp only; omega
theorem iLoc1 : inR (vLoc x y).1.1 = True := iRat
theorem iLoc2 : inR (vLoc x y).2.1 = True := iRat
theorem iVAdd1 : inR (vAdd u v).1.1 = True := iAdd
theorem iVAdd2 : inR (vAdd u v).2.1 = True := iAdd
theorem iVSub1 : inR (vSub u v).1.1 = True := iSub
theorem iVSub2 : inR (vSub u v).2.1 = True := iSub
theorem iScale1 : inR (vScale u a).1.1 = True := iMul
theorem iScale2 : inR (vScale u a).2.1 = True := iMul
theorem iVDot : inR (vDot u v).1 = True := iDot
theorem iVCross : inR (vCross u v).1 = True := iDot
theorem iLen : inR (vLen u).1 = True := iHyp
theorem iOf1 : inR (vOf x y).1.1 = True := iInt
theorem iOf2 : inR (vOf x y).2.1 = True := iInt
theorem iUnit1 : inR (vUnit u).2.1.1 = True := inR_of unS_rg.1
theorem iUnit2 : inR (vUnit u).2.2.1 = True := inR_of unS_rg.2
theorem iApply1 : inR (vApply u v).1.1 = True := iDot
theorem iApply2 : inR (vApply u v).2.1 = True := iDot
theorem iNorm1 {z t : Int} : inR (vNorm x y z t).1.1 = True := iUnit1
theorem iNorm2 {z t : Int} : inR (vNorm x y z t).2.1 = True := iUnit2
theorem inR_0 : inR 0 = True := eq_true (by unfold inR; omega)
theorem inR_1 : inR 1 = True := eq_true (by unfold inR; omega)
theorem inR_2 : inR 2 = True := eq_true (by unfold inR; omega)
theorem inR_m1 : inR (-1) = True := eq_true (by unfold inR; omega)
theorem inR_256 : inR 256 = True := eq_true (by unfold inR; omega)
theorem inR_one : inR 4294967296 = True := eq_true (by unfold inR; omega)
end
attribute [go_sem] bnd_nb bnd_ve bnd_un plain_nb plain_ve plain_un etaN etaV gx_rows1 gx_rows2 gb_rows1 gb_rows2 gx4_1 gx4_2 gx4_3 gx4_4 gb4_1 gb4_2 gb4_3 gb4_4 vecs_rows nums_rows vecs_row1 nums_row1
attribute [go_sem] iMul iDiv iInt iAdd iSub iRat iDot iHyp iSq iNeg iPos iAbs iMx iMn iCl iLoc1 iLoc2 iVAdd1 iVAdd2 iVSub1 iVSub2 iScale1 iScale2 iVDot iVCross iLen iOf1 iOf2 iUnit1 iUnit2 iApply1 iApply2 iNorm1 iNorm2 inR_0 inR_1 inR_2 inR_m1 inR_256 inR_one

/-! ### The contracts so far, once more -/
def k139 : Con
  | [.agg [.v (.int .i64 x), .v (.bool e), .v (.int .i64 y), .v (.bool f)], .agg [.v (.int .i64 z), .v (.bool g), .v (.int .i64 t), .v (.bool h)]] => some ([inR x, inR y, inR z, inR t], veA (vApply ((x, e), (y, f)) ((z, g), (t, h))))
  | _ => none
theorem kon139 : ConOK Try.prog 51 k139 := (show c51 = k139 by kernel_rfl) ▸ con51

theorem owe2 {p q : Prop} (h1 : p) (h2 : q) : ∀ x ∈ [p, q], x := List.forall_mem_cons.2 ⟨h1, List.forall_mem_cons.2 ⟨h2, fun _ h => (List.not_mem_nil h).elim⟩⟩
def vTwo (g : Nat → List AV) : AV := veA (vAdd ((gx g 0 0, gb g 1 0), (gx g 2 0, gb g 3 0)) ((gx g 0 1, gb g 1 1), (gx g 2 1, gb g 3 1)))
theorem vecs_at {g : Nat → List AV} (h : vecs 2 g) : g 0 = [i64 (gx g 0 0), bo (gb g 1 0), i64 (gx g 2 0), bo (gb g 3 0)] ∧ g 1 = [i64 (gx g 0 1), bo (gb g 1 1), i64 (gx g 2 1), bo (gb g 3 1)] := ⟨(h 0 (by omega)).1, (h 1 (by omega)).1⟩
theorem two_eq {g : Nat → List AV} (h : vecs 2 g) : ve (su1 2 (gx g 0) (gb g 1)) (su1 2 (gx g 2) (gb g 3)) = vTwo g := by
  obtain ⟨h0, h1⟩ := vecs_at h
  rw [su2x h0 h1, su2y h0 h1]; rfl
def k138 : Con
  | [.ro 2 4 g] => some ([vecs 2 g], veA (vAdd ((gx g 0 0, gb g 1 0), (gx g 2 0, gb g 3 0)) ((gx g 0 1, gb g 1 1), (gx g 2 1, gb g 3 1))))
  | _ => none
theorem kon138 : ConOK Try.prog 50 k138 := fun l ob r hc hob => by
  unfold k138 at hc
  split at hc
  · rename_i g
    cases hc
    have h : vecs 2 g := hob _ (by simp)
    have := con50 [.ro 2 4 g] _ _ rfl (owe2 h (by omega))
    rw [two_eq h] at this
    exact this
  · cases hc
theorem nPos_eq {a : Nb} : nMx (0, false) a = nPos a := by
  have c1 : whV 0 = 0 := by decide
  have c2 : whF 0 false = false := by decide
  unfold nMx nPos
  dsimp only
  rw [c1, c2, Bool.false_or]
attribute [go_sem] nPos_eq
/-! ### The reference's vectors -/
end Go.Ax
end

section
/-
  The reference's directions and normals.
-/
set_option linter.unusedVariables false
set_option linter.unusedSimpArgs false
set_option maxHeartbeats 4000000
set_option maxRecDepth 100000
namespace Go.Ax
open Go.Proofs
end Go.Ax
end

section
/-
  Corners of shapes: the iterator over them.
-/
set_option linter.unusedVariables false
set_option linter.unusedSimpArgs false
set_option maxHeartbeats 4000000
set_option maxRecDepth 100000
namespace Go.Ax
open Go.Proofs Go.RowKit
/-- The next corner but one. -/
def nxt2 (n i : Nat) : Nat := nxt n (nxt n i)
theorem nxt2_lt {n i : Nat} (h : i < n) : nxt2 n i < n := nxt_lt (nxt_lt h)
theorem tmod_nxt2 {n i : Nat} (h : i < n) : Int.tmod ((i : Int) + 2) n = (nxt2 n i : Nat) := by
  have e : ((i : Int) + 2) = ((i + 2 : Nat) : Int) := rfl
  rw [e, Int.tmod_eq_emod_of_nonneg (by omega), ← Int.natCast_emod]
  congr 1
  unfold nxt2 nxt
  by_cases h2 : i + 2 < n
  · rw [Nat.mod_eq_of_lt h2, if_pos (show i + 1 < n by omega), if_pos h2]
  · by_cases h1 : i + 1 < n
    · have : i + 2 = n := by omega
      rw [if_pos h1, if_neg (by omega), this, Nat.mod_self]
    · have : i + 1 = n := by omega
      rw [if_neg h1, Nat.mod_eq_sub_mod (by omega), show i + 2 - n = 1 by omega]
      by_cases h0 : 0 + 1 < n
      · rw [if_pos h0, Nat.mod_eq_of_lt h0]
      · rw [if_neg h0, show n = 1 by omega]
end Go.Ax
end

section
/-
  Shapes: which are sound.
-/
set_option linter.unusedVariables false
set_option linter.unusedSimpArgs false
set_option maxHeartbeats 4000000
set_option maxRecDepth 100000
namespace Go.Ax
open Go.Proofs
/-- Small coordinates. -/
def lo (x : Int) : Prop := -4096 ≤ x ∧ x ≤ 4096
theorem lo_mul {x y : Int} (hx : lo x) (hy : lo y) : -16777216 ≤ x * y ∧ x * y ≤ 16777216 := by
  have := mul_bd (A := 4096) (B := 4096) (by omega) hx hy
  omega
def lo2 (x : Int) : Prop := -8192 ≤ x ∧ x ≤ 8192
theorem lo2_mul {x y : Int} (hx : lo2 x) (hy : lo2 y) : -67108864 ≤ x * y ∧ x * y ≤ 67108864 := by
  have := mul_bd (A := 8192) (B := 8192) (by omega) hx hy
  omega
/-- Corners are convex, ars those of shapes. -/
def cvxS (n : Nat) (X Y : Nat → Int) : Bool := decide (∀ i, i < n → (0 < X i * Y (nxt n i) - Y i * X (nxt n i) ∧ 4 * (ab (X (nxt n i) - X i) + ab (Y (nxt n i) - Y i) + (ab (X (nxt2 n i) - X (nxt n i)) + ab (Y (nxt2 n i) - Y (nxt n i)))) ≤ (X (nxt n i) - X i) * (Y (nxt2 n i) - Y (nxt n i)) - (Y (nxt n i) - Y i) * (X (nxt2 n i) - X (nxt n i))) ∧ ∀ j, j < n → j ≠ i → j ≠ nxt n i → 0 < (X (nxt n i) - X i) * (Y j - Y i) - (Y (nxt n i) - Y i) * (X j - X i))
def cz123 : Con
  | [.ro n 2 g] => some ([spots n g, n ≤ 1000, ∀ i, i < n → lo (gx g 0 i) ∧ lo (gx g 1 i)], bo (cvxS n (gx g 0) (gx g 1)))
  | _ => none
theorem tmod_cast {n k : Nat} (h : 0 < n) : Int.tmod (k : Int) n = ((k % n : Nat) : Int) := by
  rw [Int.tmod_eq_emod_of_nonneg (by omega), ← Int.natCast_emod]
theorem ix_all {n i j : Nat} (hi : i < n) (hj : j < n) (h1 : j ≠ i) (h2 : j ≠ nxt n i) : ∃ k, 2 ≤ k ∧ k < n ∧ (i + k) % n = j := by
  unfold nxt at h2
  by_cases h : i < j
  · refine ⟨j - i, ?_, by omega, ?_⟩
    · rw [if_pos (by omega)] at h2; omega
    · rw [show i + (j - i) = j by omega, Nat.mod_eq_of_lt hj]
  · refine ⟨n + j - i, ?_, by omega, ?_⟩
    · split at h2 <;> omega
    · rw [show i + (n + j - i) = j + n by omega, Nat.add_mod_right, Nat.mod_eq_of_lt hj]
theorem ix_ne {n i k : Nat} (hi : i < n) (h2 : 2 ≤ k) (hk : k < n) : (i + k) % n < n ∧ (i + k) % n ≠ i ∧ (i + k) % n ≠ nxt n i := by
  refine ⟨Nat.mod_lt _ (by omega), ?_⟩
  unfold nxt
  by_cases h : i + k < n
  · rw [Nat.mod_eq_of_lt h]
    refine ⟨by omega, ?_⟩
    split <;> omega
  · rw [Nat.mod_eq_sub_mod (by omega), Nat.mod_eq_of_lt (by omega)]
    refine ⟨by omega, ?_⟩
    split <;> omega
theorem vc43 (n : Nat) (X Y : Nat → Int) (hn : n ≤ 1000) (hl : ∀ i, i < n → lo (X i) ∧ lo (Y i)) : fnVC Try.prog [(60, c60), (61, c61), (62, c62)] [(5, ⟨[(21, .made 18), (22, .made 19), (23, .made 20)], [(10, [.made 18]), (17, [.made 18, .made 19])]⟩)] Try.f43 [.ro n 2 fun i => [i64 (X i), i64 (Y i)]] (· = bo (cvxS n X Y)) := by
  refine fnVC_go (rs := [.tmp 2]) rfl rfl ?_
  simp only [go_sem]
  obtain ⟨A, hA⟩ : ∃ A : Nat → Prop, A = fun i => 0 < X i * Y (nxt n i) - Y i * X (nxt n i) ∧ 4 * (ab (X (nxt n i) - X i) + ab (Y (nxt n i) - Y i) + (ab (X (nxt2 n i) - X (nxt n i)) + ab (Y (nxt2 n i) - Y (nxt n i)))) ≤ (X (nxt n i) - X i) * (Y (nxt2 n i) - Y (nxt n i)) - (Y (nxt n i) - Y i) * (X (nxt2 n i) - X (nxt n i)) := ⟨_, rfl⟩
  obtain ⟨T, hT⟩ : ∃ T : Nat → Nat → Int, T = fun i j => (X (nxt n i) - X i) * (Y j - Y i) - (Y (nxt n i) - Y i) * (X j - X i) := ⟨_, rfl⟩
  have hcv : cvxS n X Y = true ↔ ∀ i, i < n → A i ∧ ∀ j, j < n → j ≠ i → j ≠ nxt n i → 0 < T i j := by
    subst hA hT
    unfold cvxS
    rw [decide_eq_true_eq]
  refine loopC_go (fun (i : Nat) => i ≤ n ∧ ∀ j, j < i → A j ∧ ∀ k, k < n → k ≠ j → k ≠ nxt n j → 0 < T j k) (fun i => n - i) (fun i => [(4, i64 i)]) (fun _ => []) [] [11, 12, 13, 16, 17, 18, 19, 20, 21, 22, 23, 24, 25, 26, 27, 28, 29, 30, 31, 32, 33, 5, 6, 7, 34, 35, 36, 37, 38, 39, 40, 41, 42, 43, 44, 45, 46, 47, 48, 49, 50, 51, 52, 53, 54, 55, 56, 57, 2, 8, 58, 59, 60, 63, 64, 65, 66, 67, 68, 69, 70, 71, 72, 73, 74, 75, 76, 77, 2, 61, 62, 8, 14, 15, 4] 0 (by kernel_rfl) ?_ ⟨Nat.zero_le _, fun j hj => by omega⟩ ?_ ?_
  · intro x _; simp [goodNames]
  · simp only [go_sem]
  · intro i hi
    by_cases hlt : i < n
    · have hn0 : ((n : Int) = 0) = False := eq_false (by omega)
      have l1 := nxt_lt hlt
      have l2 := nxt2_lt hlt
      have b1 := hl i hlt
      have b2 := hl _ l1
      have b3 := hl _ l2
      have m1 := lo_mul b1.1 b2.2
      have m2 := lo_mul b1.2 b2.1
      have d1 : lo2 (X (nxt n i) - X i) := by unfold lo at b1 b2; unfold lo2; omega
      have d2 : lo2 (Y (nxt n i) - Y i) := by unfold lo at b1 b2; unfold lo2; omega
      have d3 : lo2 (X (nxt2 n i) - X (nxt n i)) := by unfold lo at b3 b2; unfold lo2; omega
      have d4 : lo2 (Y (nxt2 n i) - Y (nxt n i)) := by unfold lo at b3 b2; unfold lo2; omega
      have m3 := lo2_mul d1 d4
      have m4 := lo2_mul d2 d3
      unfold lo2 at d1 d2 d3 d4
      have w1 : IntKind.i64.wrap (X (nxt n i) - X i) = X (nxt n i) - X i := wrap_in (by unfold inR; omega)
      have w2 : IntKind.i64.wrap (Y (nxt n i) - Y i) = Y (nxt n i) - Y i := wrap_in (by unfold inR; omega)
      have w3 : IntKind.i64.wrap (X (nxt2 n i) - X (nxt n i)) = X (nxt2 n i) - X (nxt n i) := wrap_in (by unfold inR; omega)
      have w4 : IntKind.i64.wrap (Y (nxt2 n i) - Y (nxt n i)) = Y (nxt2 n i) - Y (nxt n i) := wrap_in (by unfold inR; omega)
      have w5 : IntKind.i64.wrap (X i * Y (nxt n i) - Y i * X (nxt n i)) = X i * Y (nxt n i) - Y i * X (nxt n i) := wrap_in (by unfold inR; omega)
      have w6 : IntKind.i64.wrap ((X (nxt n i) - X i) * (Y (nxt2 n i) - Y (nxt n i)) - (Y (nxt n i) - Y i) * (X (nxt2 n i) - X (nxt n i))) = (X (nxt n i) - X i) * (Y (nxt2 n i) - Y (nxt n i)) - (Y (nxt n i) - Y i) * (X (nxt2 n i) - X (nxt n i)) := wrap_in (by unfold inR; omega)
      have v1 : IntKind.i64.wrap ((i : Int) + 1) = i + 1 := wrap_in (by unfold inR; omega)
      have v2 : IntKind.i64.wrap ((i : Int) + 2) = i + 2 := wrap_in (by unfold inR; omega)
      simp only [go_sem, hn0, c60, c61, c62]
      refine ⟨fun _ => ?_, fun h => absurd (by omega) h⟩
      refine ⟨by omega, by omega, fun z hz z1 hz1 => ?_⟩
      rw [hz, v1, tmod_nxt hlt] at hz1
      subst hz1
      refine ⟨by omega, by omega, fun z2 hz2 z3 hz3 => ?_⟩
      rw [hz2, v2, tmod_nxt2 hlt] at hz3
      subst hz3
      refine ⟨by omega, by omega, ?_⟩
      simp only [Int.toNat_natCast, w1, w2, w3, w4, w5, w6]
      intro z4 hz4 z5 hz5 z6 hz6
      have ab1 : 0 ≤ ab (X (nxt n i) - X i) ∧ ab (X (nxt n i) - X i) ≤ 8192 := by unfold ab; split <;> omega
      have ab2 : 0 ≤ ab (Y (nxt n i) - Y i) ∧ ab (Y (nxt n i) - Y i) ≤ 8192 := by unfold ab; split <;> omega
      have ab3 : 0 ≤ ab (X (nxt2 n i) - X (nxt n i)) ∧ ab (X (nxt2 n i) - X (nxt n i)) ≤ 8192 := by unfold ab; split <;> omega
      have ab4 : 0 ≤ ab (Y (nxt2 n i) - Y (nxt n i)) ∧ ab (Y (nxt2 n i) - Y (nxt n i)) ≤ 8192 := by unfold ab; split <;> omega
      have hAi : A i ↔ 0 < z4 ∧ 4 * (ab (X (nxt n i) - X i) + ab (Y (nxt n i) - Y i) + (ab (X (nxt2 n i) - X (nxt n i)) + ab (Y (nxt2 n i) - Y (nxt n i)))) ≤ z5 := by rw [hA, hz4, hz5]
      refine ⟨fun _ => by omega, fun _ => by omega, fun z7 hz7 => ⟨fun _ => by omega, fun _ => by omega, fun z8 hz8 z9 hz9 => ⟨fun h => ?_, fun h => ?_⟩⟩⟩
      · rw [hz6, hz7, wrap_in (by unfold inR; omega)] at hz8
        rw [hz8, wrap_in (by unfold inR; omega)] at hz9
        refine false_of fun hc => ?_
        have := (hcv.1 hc i hlt).1
        rw [hAi] at this
        omega
      rw [hz6, hz7, wrap_in (by unfold inR; omega)] at hz8
      rw [hz8, wrap_in (by unfold inR; omega)] at hz9
      have hAi : A i := hAi.2 (by omega)
      clear hz4 hz5 hz6 hz7 hz8 hz9 w5 w6 m1 m2 m3 m4
      refine loopC_go (fun (k : Nat) => (2 ≤ k ∧ k ≤ max n 2) ∧ ∀ k', 2 ≤ k' → k' < k → 0 < T i ((i + k') % n)) (fun k => max n 2 - k) (fun k => [(8, i64 k)]) (fun _ => []) [28, 27, 26] [58, 59, 60, 63, 64, 65, 66, 67, 68, 69, 70, 71, 72, 73, 74, 75, 76, 77, 2, 61, 62, 8] 2 (by kernel_rfl) ?_ ⟨by omega, fun j hj hj2 => by omega⟩ ?_ ?_
      · intro x _; simp [goodNames]
      · simp only [go_sem]
      · intro k hk
        simp only [go_sem, hn0, c60, c61]
        refine ⟨fun hkn => ?_, fun hkn => ?_⟩
        · have hk2 := hk.1.1
          · have hkn' : k < n := by omega
            obtain ⟨j1, j2, j3⟩ := ix_ne hlt hk2 hkn'
            have b4 := hl _ j1
            have d5 : lo2 (Y ((i + k) % n) - Y i) := by unfold lo at b1 b4; unfold lo2; omega
            have d6 : lo2 (X ((i + k) % n) - X i) := by unfold lo at b1 b4; unfold lo2; omega
            have m5 := lo2_mul (show lo2 _ from d1) d5
            have m6 := lo2_mul (show lo2 _ from d2) d6
            unfold lo2 at d5 d6
            intro za hza zb hzb zc hzc zd hzd
            rw [hzc, wrap_in (by unfold inR; omega), show (i : Int) + k = ((i + k : Nat) : Int) from rfl, tmod_cast (by omega)] at hzd
            subst hzd
            refine ⟨by omega, by omega, fun ze hze zf hzf zg hzg => ?_⟩
            rw [Int.toNat_natCast] at hze hzf
            have ew : zg = T i ((i + k) % n) := by
              rw [hzg, hza, hzb, hze, hzf, w1, w2, wrap_in (x := Y ((i + k) % n) - Y i) (by unfold inR; omega), wrap_in (x := X ((i + k) % n) - X i) (by unfold inR; omega), wrap_in (by unfold inR; omega), hT]
            rw [ew]
            refine ⟨fun h => false_of fun hc => ?_, fun h z3 hz3 => ⟨k + 1, ⟨by omega, fun k' hk' k1 => ?_⟩, by omega, ?_⟩⟩
            · have := (hcv.1 hc i hlt).2 _ j1 j2 j3
              omega
            · by_cases e : k' = k
              · subst e; omega
              · exact hk.2 k' hk' (by omega)
            · rw [hz3, wrap_in (by unfold inR; omega)]; rfl
        · have hkn' : n ≤ k := by omega
          refine fun z hz => ⟨i + 1, ⟨by omega, fun j' hj' => ?_⟩, by omega, ?_⟩
          · by_cases e : j' = i
            · subst e
              refine ⟨hAi, fun k' k1 k2 k3 => ?_⟩
              obtain ⟨q, q1, q2, q3⟩ := ix_all hlt k1 k2 k3
              rw [← q3]
              exact hk.2 q q1 (by omega)
            · exact hi.2 j' (by omega)
          · rw [hz, v1]; rfl
    · simp only [go_sem]
      refine ⟨fun h => absurd (by omega) hlt, fun _ => ?_⟩
      have he : i = n := by omega
      subst he
      exact (hcv.2 hi.2).symm
theorem con43 : ConOK Try.prog 43 cz123 := ConOK.go (G := [(60, c60), (61, c61), (62, c62)]) (H := [(5, ⟨[(21, .made 18), (22, .made 19), (23, .made 20)], [(10, [.made 18]), (17, [.made 18, .made 19])]⟩)]) (.cons con60 (.cons con61 (.cons con62 .nil))) Try.func43 fun l ob r hc hob => by
  unfold cz123 at hc
  split at hc
  · rename_i n g
    cases hc
    have hs : spots n g := hob _ (by simp)
    exact ⟨[.ro n 2 fun i => [i64 (gx g 0 i), i64 (gx g 1 i)]], fun w I vs h => Rs_one (fun v => ro_alike fun i hi => (hs i hi).1) h, by kernel_rfl, vc43 n _ _ (hob _ (by simp)) (hob _ (by simp))⟩
  · cases hc
end Go.Ax
end

section
/-
  Shapes: their errors.
-/
set_option linter.unusedVariables false
set_option linter.unusedSimpArgs false
set_option maxHeartbeats 4000000
set_option maxRecDepth 100000
namespace Go.Ax
open Go.Proofs
instance {x : Int} : Decidable (lo x) := by unfold lo; infer_instance
/-- The error of a shape. -/
def chkS (k r w t : Int) (n : Nat) (X Y : Nat → Int) : Int :=
  if k = 1 then (if w ≠ 0 ∨ t ≠ 0 ∨ n ≠ 0 then 4 else if 16 ≤ r ∧ r ≤ 4096 then 0 else 3)
  else if k = 2 then (if r ≠ 0 ∨ n ≠ 0 then 4 else if (16 ≤ w ∧ w ≤ 4096) ∧ (16 ≤ t ∧ t ≤ 4096) then 0 else 3)
  else if k = 3 then (if r ≠ 0 ∨ w ≠ 0 ∨ t ≠ 0 ∨ n < 3 ∨ 8 < n then 4 else if ∀ i, i < n → lo (X i) ∧ lo (Y i) then (if cvxS n X Y = true then 0 else 5) else 3)
  else 8
abbrev shapeA (k r w t : Int) (n : Nat) (g : Nat → List AV) : AV := .agg [i64 k, i64 r, i64 w, i64 t, .ro n 2 g]
theorem Rs_shape {w : World} {ρ : Env} {k x y r : Int} {n : Nat} {g : Nat → List AV} (hs : spots n g) (v : Value) (h : R w ρ (shapeA k x y r n g) v) : R w ρ (shapeA k x y r n fun i => [i64 (gx g 0 i), i64 (gx g 1 i)]) v := Rs_form hs v h
def cz57 : Con
  | [.agg [.v (.int .i64 k), .v (.int .i64 r), .v (.int .i64 w), .v (.int .i64 t), .ro n 2 g]] => some ([spots n g, n ≤ 9223372036854775806], i64 (chkS k r w t n (gx g 0) (gx g 1)))
  | _ => none
theorem vc24 (k r w t : Int) (n : Nat) (X Y : Nat → Int) (hX : ∀ i, i < n → inR (X i) ∧ inR (Y i)) (hn : n ≤ 9223372036854775806) : fnVC Try.prog [(41, c41), (42, c42), (43, cz123)] [] Try.f24 [shapeA k r w t n fun i => [i64 (X i), i64 (Y i)]] (· = i64 (chkS k r w t n X Y)) := by
  refine fnVC_go (rs := [.tmp 2]) rfl rfl ?_
  have hg : spots n fun i => [i64 (X i), i64 (Y i)] := fun i hi => ⟨rfl, hX i hi⟩
  have eX : gx (fun i => [i64 (X i), i64 (Y i)]) 0 = X := rfl
  have eY : gx (fun i => [i64 (X i), i64 (Y i)]) 1 = Y := rfl
  simp only [go_sem, c41, c42, cz123]
  refine ⟨fun hk => ?_, fun hk => ⟨fun hk2 => ?_, fun hk2 => ⟨fun hk3 => ?_, fun hk3 => ?_⟩⟩⟩
  · have hk : k = 1 := by simpa using hk
    refine ⟨fun h => ?_, fun h z hz => ⟨fun h2 => ?_, fun h2 => ?_⟩⟩
    · unfold chkS; rw [if_pos hk, if_pos (by simp only [bne_iff_ne] at h; omega)]
    · unfold chkS; rw [if_pos hk, if_neg (by simp at h; omega), if_neg (by rw [hz] at h2; exact of_decide_eq_false h2)]
    · unfold chkS; rw [if_pos hk, if_neg (by simp at h; omega), if_pos (by rw [hz] at h2; exact of_decide_eq_true h2)]
  · have hk : ¬ k = 1 := by simpa using hk
    have hk2 : k = 2 := by simpa using hk2
    refine ⟨fun h => ?_, fun h z hz z1 hz1 => ⟨fun h2 => ?_, fun h2 => ?_⟩⟩
    · unfold chkS; rw [if_neg hk, if_pos hk2, if_pos (by simp only [bne_iff_ne] at h; omega)]
    · unfold chkS; rw [if_neg hk, if_pos hk2, if_neg (by simp at h; omega), if_neg (by
        rintro ⟨p, q⟩
        rw [hz, hz1, decide_eq_true p, decide_eq_true q] at h2
        simp at h2)]
    · unfold chkS; rw [if_neg hk, if_pos hk2, if_neg (by simp at h; omega), if_pos (by
        rw [hz, hz1] at h2
        exact ⟨of_decide_eq_true h2.1, of_decide_eq_true h2.2⟩)]
  · have hk : ¬ k = 1 := by simpa using hk
    have hk2 : ¬ k = 2 := by simpa using hk2
    have hk3 : k = 3 := by simpa using hk3
    refine ⟨fun h => ?_, fun h => ?_⟩
    · unfold chkS; rw [if_neg hk, if_neg hk2, if_pos hk3, if_pos (by simp only [bne_iff_ne] at h; omega)]
    have h4 : ¬ (r ≠ 0 ∨ w ≠ 0 ∨ t ≠ 0 ∨ n < 3 ∨ 8 < n) := by simp at h; omega
    have e0 : chkS k r w t n X Y = if ∀ i, i < n → lo (X i) ∧ lo (Y i) then (if cvxS n X Y = true then 0 else 5) else 3 := by unfold chkS; rw [if_neg hk, if_neg hk2, if_pos hk3, if_neg h4]
    rw [e0]
    refine loopC_go (fun (i : Nat) => i ≤ n ∧ ∀ j, j < i → lo (X j) ∧ lo (Y j)) (fun i => n - i) (fun i => [(3, i64 i)]) (fun _ => []) [0] [74, 75, 76, 77, 78, 81, 82, 83, 84, 85, 86, 87, 88, 89, 90, 91, 92, 93, 94, 95, 96, 97, 98, 2, 79, 80, 3] 0 (by kernel_rfl) ?_ ⟨Nat.zero_le _, fun j hj => by omega⟩ ?_ ?_
    · intro x _; simp [goodNames]
    · simp only [go_sem]
    · intro i hi
      simp only [go_sem, c42, cz123, eX, eY]
      refine ⟨fun hin => ⟨by omega, hin, fun z hz => ⟨fun _ => by omega, fun _ => hin, fun z1 hz1 => ⟨fun h5 => ?_, fun h5 z2 hz2 => ⟨i + 1, ⟨by omega, fun j hj => ?_⟩, by omega, ?_⟩⟩⟩⟩, fun hin z hz => ⟨hg, by omega, fun j hj => hi.2 j (by omega), fun h5 => ?_, fun h5 => ?_⟩⟩
      · rw [if_neg fun hc => ?_]
        have := hc i (by omega)
        unfold lo at this
        rw [hz, hz1] at h5
        rcases h5 with h5 | h5
        · exact absurd (of_decide_eq_false h5) (by simp only [Decidable.not_not]; exact this.1)
        · exact absurd (of_decide_eq_false h5) (by simp only [Decidable.not_not]; exact this.2)
      · by_cases e : j = i
        · subst e
          rw [hz, hz1] at h5
          exact ⟨of_decide_eq_true h5.1, of_decide_eq_true h5.2⟩
        · exact hi.2 j (by omega)
      · rw [hz2, wrap_in (by unfold inR; omega)]; rfl
      · rw [if_pos (fun j hj => hi.2 j (by omega)), if_neg (by rw [← hz, h5]; decide)]
      · rw [if_pos (fun j hj => hi.2 j (by omega)), if_pos (by rw [← hz, h5])]
  · have hk : ¬ k = 1 := by simpa using hk
    have hk2 : ¬ k = 2 := by simpa using hk2
    have hk3 : ¬ k = 3 := by simpa using hk3
    unfold chkS; rw [if_neg hk, if_neg hk2, if_neg hk3]
theorem con24 : ConOK Try.prog 24 cz57 := ConOK.go (G := [(41, c41), (42, c42), (43, cz123)]) (H := []) (.cons con41 (.cons con42 (.cons con43 .nil))) Try.func24 fun l ob rr hc hob => by
  unfold cz57 at hc
  split at hc
  · rename_i k r w t n g
    cases hc
    have hs : spots n g := hob _ (by simp)
    exact ⟨[shapeA k r w t n fun i => [i64 (gx g 0 i), i64 (gx g 1 i)]], fun w I vs h => Rs_one (Rs_shape hs) h, by kernel_rfl, vc24 k r w t n _ _ (fun i hi => (hs i hi).2) (hob _ (by simp))⟩
  · cases hc
end Go.Ax
end

section
/-
  Rays and polygons.
-/
set_option linter.unusedVariables false
set_option linter.unusedSimpArgs false
set_option maxHeartbeats 4000000
set_option maxRecDepth 100000
namespace Go.Ax
open Go.Proofs
/-- What a ray meets. -/
abbrev HitT := Bool × Nb × V2
def hit0 : HitT := (false, (0, false), ((0, false), (0, false)))
abbrev hitC (h : HitT) : List AV := [bo h.1, i64 h.2.1.1, bo h.2.1.2, i64 h.2.2.1.1, bo h.2.2.1.2, i64 h.2.2.2.1, bo h.2.2.2.2]
def hitA (h : HitT) : AV := .agg (hitC h)
theorem bnd_hit {h : HitT} : bnd (hitA h) = .agg [bo h.1, i64 h.2.1.1, bo h.2.1.2, i64 h.2.2.1.1, bo h.2.2.1.2, i64 h.2.2.2.1, bo h.2.2.2.2] := (rfl)
theorem plain_hit {h : HitT} : plain 3 (hitA h) = true := (rfl)
attribute [go_sem] bnd_hit plain_hit
/-- A way past the edges of a polygon: the edge that was entered last (or none), where, and where the way leaves first. -/
abbrev PS := Int × (Int × Int) × (Int × Int)
def plS (G H : Nat → Int) : Nat → PS
  | 0 => (-1, (-1, 1), (1, 1))
  | i + 1 => if G i < 0 then (if (plS G H i).2.1.1 * (H i - G i) < -G i * (plS G H i).2.1.2 then ((i : Int), (-G i, H i - G i), (plS G H i).2.2) else plS G H i)
    else if H i < 0 then (if G i * (plS G H i).2.2.2 < (plS G H i).2.2.1 * (G i - H i) then ((plS G H i).1, (plS G H i).2.1, (G i, G i - H i)) else plS G H i)
    else plS G H i
/-- What is so of it. -/
def plOK (G H : Nat → Int) (i : Nat) (s : PS) : Prop :=
  (s.1 = -1 ∧ s.2.1 = (-1, 1) ∨ ∃ j, j < i ∧ s.1 = (j : Int) ∧ G j < 0 ∧ 0 ≤ H j ∧ s.2.1 = (-G j, H j - G j)) ∧ (s.2.2 = (1, 1) ∨ ∃ j, j < i ∧ 0 ≤ G j ∧ H j < 0 ∧ s.2.2 = (G j, G j - H j))
theorem plS_ok {G H : Nat → Int} : ∀ (i : Nat), (∀ j, j < i → ¬ (G j < 0 ∧ H j < 0)) → plOK G H i (plS G H i)
  | 0, _ => ⟨.inl ⟨rfl, rfl⟩, .inl rfl⟩
  | i + 1, h => by
    obtain ⟨h1, h2⟩ := plS_ok i fun j hj => h j (by omega)
    have hi := h i (by omega)
    have up1 : (plS G H i).1 = -1 ∧ (plS G H i).2.1 = (-1, 1) ∨ ∃ j, j < i + 1 ∧ (plS G H i).1 = (j : Int) ∧ G j < 0 ∧ 0 ≤ H j ∧ (plS G H i).2.1 = (-G j, H j - G j) := h1.imp id fun ⟨j, a, b⟩ => ⟨j, by omega, b⟩
    have up2 : (plS G H i).2.2 = (1, 1) ∨ ∃ j, j < i + 1 ∧ 0 ≤ G j ∧ H j < 0 ∧ (plS G H i).2.2 = (G j, G j - H j) := h2.imp id fun ⟨j, a, b⟩ => ⟨j, by omega, b⟩
    unfold plS
    split
    · split
      · exact ⟨.inr ⟨i, by omega, rfl, by assumption, by omega, rfl⟩, up2⟩
      · exact ⟨up1, up2⟩
    · split
      · split
        · exact ⟨up1, .inr ⟨i, by omega, by omega, by assumption, rfl⟩⟩
        · exact ⟨up1, up2⟩
      · exact ⟨up1, up2⟩
/-- The hit of the edge that was entered last. -/
def plHit (n : Nat) (X Y : Nat → Int) (s : PS) : HitT :=
  if s.1 < 0 then hit0 else (true, nRat (-s.2.1.1) (-s.2.1.2), vNorm (X s.1.toNat) (Y s.1.toNat) (X (nxt n s.1.toNat)) (Y (nxt n s.1.toNat)))
def pgT (n : Nat) (X Y : Nat → Int) (fx fy : Int) (i : Nat) : Int := turnS (X i) (Y i) (X (nxt n i)) (Y (nxt n i)) fx fy
def plF (n : Nat) (X Y : Nat → Int) (fx fy tx ty : Int) : Bool := anyB (fun i => decide (pgT n X Y fx fy i < 0 ∧ pgT n X Y tx ty i < 0)) n
def plE (n : Nat) (X Y : Nat → Int) (s : PS) : HitT := if s.1 < 0 ∨ s.2.2.1 * s.2.1.2 < s.2.1.1 * s.2.2.2 then hit0 else plHit n X Y s
/-- What a way meets of a polygon that does not have its beginning. -/
def plH (n : Nat) (X Y : Nat → Int) (fx fy tx ty : Int) : HitT :=
  if plF n X Y fx fy tx ty = true then hit0 else plE n X Y (plS (pgT n X Y fx fy) (pgT n X Y tx ty) n)
end Go.Ax
end

section
/-
  Rays and forms.
-/
set_option linter.unusedVariables false
set_option linter.unusedSimpArgs false
set_option maxHeartbeats 4000000
set_option maxRecDepth 100000
namespace Go.Ax
open Go.Proofs
instance {x y r fx fy tx ty : Int} : Decidable (dmB x y r fx fy tx ty) := by unfold dmB; infer_instance
end Go.Ax
end

section
/-
  Rays and forms: the reference.
-/
set_option linter.unusedVariables false
set_option linter.unusedSimpArgs false
set_option maxHeartbeats 4000000
set_option maxRecDepth 100000
namespace Go.Ax
open Go.Proofs
end Go.Ax
end

section
/-
  Shapes placed: the small parts.
-/
set_option linter.unusedVariables false
set_option linter.unusedSimpArgs false
set_option maxHeartbeats 4000000
set_option maxRecDepth 100000
namespace Go.Ax
open Go.Proofs
def k68 : Con
  | [.agg [.v (.int .i64 x), .v (.bool e), .v (.int .i64 y), .v (.bool f), .v (.int .i64 c), .v (.bool o), .v (.int .i64 s), .v (.bool p)], .agg [.v (.int .i64 z), .v (.bool g), .v (.int .i64 t), .v (.bool h)]] => some ([inR x, inR y, inR c, inR s, inR z, inR t], veA (vAdd ((x, e), (y, f)) (vApply ((c, o), (s, p)) ((z, g), (t, h)))))
  | _ => none
theorem kon68 : ConOK Try.prog 29 k68 := ConOK.of (G := [(50, k138), (51, k139)]) (H := [(1, ⟨[(8, .slot 4)], []⟩)]) (.cons kon138 (.cons kon139 .nil)) Try.func29 fun l ob r hc hob => by
  unfold k68 at hc
  split at hc
  · rename_i x e y f c o s p z g t h
    cases hc
    have h_0 : inR x := hob _ (by simp)
    have h_1 : inR y := hob _ (by simp)
    have h_2 : inR c := hob _ (by simp)
    have h_3 : inR s := hob _ (by simp)
    have h_4 : inR z := hob _ (by simp)
    have h_5 : inR t := hob _ (by simp)
    refine ⟨by kernel_rfl, fnVC_go (rs := [.cell 4 50]) rfl rfl ?_⟩
    simp only [go_sem, k138, k139]
    exact ⟨h_2, h_3, h_4, h_5, ⟨h_0, h_1⟩, rfl⟩
  · cases hc
end Go.Ax
end

section
/-
  The corners of a shape.
-/
set_option linter.unusedVariables false
set_option linter.unusedSimpArgs false
set_option maxHeartbeats 4000000
set_option maxRecDepth 100000
namespace Go.Ax
open Go.Proofs
/-- Whatever is ars the one says is ars the other says. -/
def alk (r r' : AV) : Prop := ∀ w ρ v, R w ρ r' v → R w ρ r v
theorem ConOK.goR {P : Program} {G : Ctx} {H : Hots} (hG : CtxOK P G) {f : FuncId} {fn : Func} (hf : P.funcs[f]? = some fn) {c : Con}
    (h : ∀ es1 ob r, c es1 = some (ob, r) → (∀ p ∈ ob, p) → ∃ es, (∀ w I vs, Rs w (.ext I) es1 vs → Rs w (.ext I) es vs) ∧ funcOK P H fn es.length = true ∧ fnVC P G H fn es (alk r)) : ConOK P f c := by
  intro es0 ob r hc hob I w vs hI hRs
  obtain ⟨es, h0, h1, h2⟩ := h es0 ob r hc hob
  obtain ⟨k1, k2⟩ := fn_sound hG hf h1 h2 I w vs hI (h0 w I vs hRs)
  exact .inr ⟨k1, k2.mono fun e w' ⟨v, he, ⟨r', hr, hR⟩, hb⟩ => ⟨v, he, hr _ _ _ hR, hb⟩⟩
theorem alk_refl {r : AV} : alk r r := fun _ _ _ h => h
theorem alk_ro {n : Nat} {f g : Nat → List AV} (h : ∀ i, i < n → g i = f i) : alk (.ro n 2 f) (.ro n 2 g) := fun w ρ v hR => ro_alike h hR
theorem alk_nil {f : Nat → List AV} : alk (.ro 0 2 f) (.v (.slice none 0 0)) := fun w ρ v hR => by
  cases hR
  exact .ro 0 0 (Nat.le_refl _) (fun h => absurd h (by omega)) (fun h => absurd h (by omega)) (fun i h => absurd h (by omega)) (fun i k h => absurd h (by omega)) (fun i k c x h => absurd h (by omega))
/-- How many corners a shape has. -/
def corN (k r w t : Int) (n : Nat) (X Y : Nat → Int) : Nat := if chkS k r w t n X Y = 0 then (if k = 2 then 4 else n) else 0
def corX (k w t : Int) (X : Nat → Int) (i : Nat) : Int := if k = 2 then (match i with | 0 => -w | 1 => w | 2 => w | _ => -w) else X i
def corY (k w t : Int) (Y : Nat → Int) (i : Nat) : Int := if k = 2 then (match i with | 0 => -t | 1 => -t | 2 => t | _ => t) else Y i
abbrev corA (k r w t : Int) (n : Nat) (X Y : Nat → Int) : AV := .ro (corN k r w t n X Y) 2 fun i => [i64 (corX k w t X i), i64 (corY k w t Y i)]
theorem chk_cases {k r w t : Int} {n : Nat} {X Y : Nat → Int} (h : chkS k r w t n X Y = 0) : (k = 1 ∧ n = 0 ∧ 16 ≤ r ∧ r ≤ 4096) ∨ (k = 2 ∧ n = 0 ∧ 16 ≤ w ∧ w ≤ 4096 ∧ 16 ≤ t ∧ t ≤ 4096) ∨ (k = 3 ∧ 3 ≤ n ∧ n ≤ 8 ∧ r = 0 ∧ ∀ i, i < n → lo (X i) ∧ lo (Y i)) := by
  unfold chkS at h
  split at h
  · rename_i h1
    split at h
    · omega
    · split at h
      · exact .inl ⟨h1, by omega⟩
      · omega
  · split at h
    · rename_i h1 h2
      split at h
      · omega
      · split at h
        · exact .inr (.inl ⟨h2, by omega⟩)
        · omega
    · split at h
      · rename_i h1 h2 h3
        split at h
        · omega
        · split at h
          · rename_i h5 h6
            exact .inr (.inr ⟨h3, by omega, by omega, by omega, h6⟩)
          · omega
      · omega
theorem vc28 (k r w t : Int) (n : Nat) (X Y : Nat → Int) (hX : ∀ i, i < n → inR (X i) ∧ inR (Y i)) (hn : n ≤ 9223372036854775806) : fnVC Try.prog [(24, cz57)] [] Try.f28 [shapeA k r w t n fun i => [i64 (X i), i64 (Y i)]] (alk (corA k r w t n X Y)) := by
  refine fnVC_go (rs := [.tmp 2]) rfl rfl ?_
  have hg : spots n fun i => [i64 (X i), i64 (Y i)] := fun i hi => ⟨rfl, hX i hi⟩
  have eX : gx (fun i => [i64 (X i), i64 (Y i)]) 0 = X := rfl
  have eY : gx (fun i => [i64 (X i), i64 (Y i)]) 1 = Y := rfl
  simp only [go_sem, cz57, eX, eY]
  have hb : bytesT Try.prog 26 = 16 := by kernel_rfl
  rw [hb]
  simp only [forall_eq]
  refine ⟨hg, hn, fun h => ?_, fun h => ⟨fun h2 => ?_, fun h2 => ?_⟩⟩
  · have : corN k r w t n X Y = 0 := if_neg (by simpa using h)
    unfold corA
    rw [this]
    exact alk_nil
  · have hk : k = 2 := by simpa using h2
    have hc : chkS k r w t n X Y = 0 := by simpa using h
    have : corN k r w t n X Y = 4 := by unfold corN; rw [if_pos hc, if_pos hk]
    have hb := chk_cases hc
    rw [wrap_in (x := 0 - w) (by unfold inR; omega), wrap_in (x := 0 - t) (by unfold inR; omega), Int.zero_sub, Int.zero_sub]
    unfold corA
    rw [this]
    refine alk_ro fun i hi => ?_
    unfold corX corY
    rw [if_pos hk, if_pos hk]
    match i with
    | 0 => rfl
    | 1 => rfl
    | 2 => rfl
    | 3 => rfl
    | j + 4 => omega
  · have hk : ¬ k = 2 := by simpa using h2
    have hc : chkS k r w t n X Y = 0 := by simpa using h
    have : corN k r w t n X Y = n := by unfold corN; rw [if_pos hc, if_neg hk]
    have hb := chk_cases hc
    unfold corA
    rw [this]
    refine ⟨fun i hi => by simp only [go_sem], by omega, by omega, ?_⟩
    rw [Nat.zero_add]
    refine alk_ro fun i hi => ?_
    unfold corX corY
    rw [if_neg hk, if_neg hk, if_neg (Nat.not_lt_zero i), Nat.sub_zero]
    simp only [go_sem]
def cz61 : Con
  | [.agg [.v (.int .i64 k), .v (.int .i64 r), .v (.int .i64 w), .v (.int .i64 t), .ro n 2 g]] => some ([spots n g, n ≤ 9223372036854775806], corA k r w t n (gx g 0) (gx g 1))
  | _ => none
theorem con28 : ConOK Try.prog 28 cz61 := ConOK.goR (G := [(24, cz57)]) (H := []) (.cons con24 .nil) Try.func28 fun l ob rr hc hob => by
  unfold cz61 at hc
  split at hc
  · rename_i k r w t n g
    cases hc
    have hs : spots n g := hob _ (by simp)
    exact ⟨[shapeA k r w t n fun i => [i64 (gx g 0 i), i64 (gx g 1 i)]], fun w I vs h => Rs_one (Rs_shape hs) h, by kernel_rfl, vc28 k r w t n _ _ (fun i hi => (hs i hi).2) (hob _ (by simp))⟩
  · cases hc
end Go.Ax
end

section
/-
  Shapes placed.
-/
set_option linter.unusedVariables false
set_option linter.unusedSimpArgs false
set_option maxHeartbeats 4000000
set_option maxRecDepth 100000
namespace Go.Ax
open Go.Proofs
theorem alk_form {a b c d e p q : AV} (h : alk p q) : alk (.tup [.agg [a, b, c, d, p], e]) (.tup [.agg [a, b, c, d, q], e]) := fun w ρ v hR => by
  cases hR with
  | tup hl hh =>
    refine .tup hl fun i x z h1 h2 => ?_
    match i with
    | 0 =>
      simp at h1; subst h1
      have := hh 0 _ z rfl h2
      cases this with
      | agg hl' hh' =>
        refine .agg hl' fun j x y h3 h4 => ?_
        match j with
        | 0 => exact hh' 0 x y h3 h4
        | 1 => exact hh' 1 x y h3 h4
        | 2 => exact hh' 2 x y h3 h4
        | 3 => exact hh' 3 x y h3 h4
        | 4 =>
          simp at h3; subst h3
          exact h _ _ _ (hh' 4 _ y rfl h4)
        | m + 5 => simp at h3
    | 1 => exact hh 1 x z h1 h2
    | m + 2 => simp at h1
/-- The error of a turn. -/
def rotS (x : Int) (e : Bool) (y : Int) (f : Bool) : Int := if (whF x e = true ∨ whF y f = true) ∨ (65536 < (nDot (x, e) (x, e) (y, f) (y, f)).1 - 4294967296 ∨ 65536 < 4294967296 - (nDot (x, e) (x, e) (y, f) (y, f)).1) then 3 else 0
def farB (a : Nb) : Bool := whF a.1 a.2 || decide (17592186044416 < ab (whV a.1))
/-- The error of a shape that is to be placed so. -/
def plErr (k r w t : Int) (n : Nat) (X Y : Nat → Int) (at' rot : V2) : Int :=
  if chkS k r w t n X Y ≠ 0 then chkS k r w t n X Y else if rotS rot.1.1 rot.1.2 rot.2.1 rot.2.2 ≠ 0 then rotS rot.1.1 rot.1.2 rot.2.1 rot.2.2 else if farB at'.1 = true ∨ farB at'.2 = true then 3 else 0
/-- Where a corner of it comes to lie. -/
def plPt (at' rot : V2) (x y : Int) : V2 := vAdd at' (vApply rot (vLoc x y))
def plX (k w t : Int) (X Y : Nat → Int) (at' rot : V2) (i : Nat) : Int := spV (plPt at' rot (corX k w t X i) (corY k w t Y i)).1
def plY (k w t : Int) (X Y : Nat → Int) (at' rot : V2) (i : Nat) : Int := spV (plPt at' rot (corX k w t X i) (corY k w t Y i)).2
def plN (k r w t : Int) (n : Nat) (X Y : Nat → Int) (at' rot : V2) : Nat := if plErr k r w t n X Y at' rot = 0 then (if k = 1 then 0 else corN k r w t n X Y) else 0
def plK (k r w t : Int) (n : Nat) (X Y : Nat → Int) (at' rot : V2) : Int := if plErr k r w t n X Y at' rot = 0 then (if k = 1 then 1 else 2) else 0
def plC (k r w t : Int) (n : Nat) (X Y : Nat → Int) (at' rot : V2) (a : Nb) : Int := if plErr k r w t n X Y at' rot = 0 then spV a else 0
def plR (k r w t : Int) (n : Nat) (X Y : Nat → Int) (at' rot : V2) : Int := if plErr k r w t n X Y at' rot = 0 then r else 0
abbrev plA (k r w t : Int) (n : Nat) (X Y : Nat → Int) (at' rot : V2) : AV :=
  .tup [formA (plK k r w t n X Y at' rot) (plC k r w t n X Y at' rot at'.1) (plC k r w t n X Y at' rot at'.2) (plR k r w t n X Y at' rot) (plN k r w t n X Y at' rot) fun i => [i64 (plX k w t X Y at' rot i), i64 (plY k w t X Y at' rot i)], i64 (plErr k r w t n X Y at' rot)]
abbrev poseA (at' rot : V2) : AV := .agg [i64 at'.1.1, bo at'.1.2, i64 at'.2.1, bo at'.2.2, i64 rot.1.1, bo rot.1.2, i64 rot.2.1, bo rot.2.2]
def cz17 : Con
  | [.agg [.v (.int .i64 k), .v (.int .i64 r), .v (.int .i64 w), .v (.int .i64 t), .ro n 2 g], .agg [.v (.int .i64 x), .v (.bool e), .v (.int .i64 y), .v (.bool f), .v (.int .i64 c), .v (.bool o), .v (.int .i64 s), .v (.bool p)]] => some ([spots n g, n ≤ 9223372036854775806, inR x, inR y, inR c, inR s], plA k r w t n (gx g 0) (gx g 1) ((x, e), (y, f)) ((c, o), (s, p)))
  | _ => none
theorem chk_r {k r w t : Int} {n : Nat} {X Y : Nat → Int} (h : chkS k r w t n X Y = 0) (hk : ¬ k = 1) : r = 0 := by
  unfold chkS at h
  rw [if_neg hk] at h
  split at h
  · split at h <;> omega
  · split at h
    · split at h <;> omega
    · omega
theorem vc14 (k r w t : Int) (n : Nat) (X Y : Nat → Int) (hX : ∀ i, i < n → inR (X i) ∧ inR (Y i)) (hn : n ≤ 9223372036854775806) (at' rot : V2) (h0 : inR at'.1.1) (h1 : inR at'.2.1) (h2 : inR rot.1.1) (h3 : inR rot.2.1) :
    fnVC Try.prog [(28, cz61), (24, cz57), (25, c25), (26, c26), (27, c27), (29, k68), (30, c30)] [(9, ⟨[(6, .slot 4)], []⟩), (15, ⟨[(13, .slot 7)], []⟩)] Try.f14 [shapeA k r w t n fun i => [i64 (X i), i64 (Y i)], poseA at' rot] (alk (plA k r w t n X Y at' rot)) := by
  refine fnVC_go (rs := [.cell 4 29, .tmp 5]) rfl rfl ?_
  have hg : spots n fun i => [i64 (X i), i64 (Y i)] := fun i hi => ⟨rfl, hX i hi⟩
  have eX : gx (fun i => [i64 (X i), i64 (Y i)]) 0 = X := rfl
  have eY : gx (fun i => [i64 (X i), i64 (Y i)]) 1 = Y := rfl
  simp only [go_sem, cz57, c25, c26, c27, cz61, eX, eY]
  simp only [forall_eq]
  have pos : ∀ e : Int, plErr k r w t n X Y at' rot = e → e ≠ 0 → alk (plA k r w t n X Y at' rot) (.tup [.agg [i64 0, i64 0, i64 0, i64 0, .v (.slice none 0 0)], i64 e]) := fun e he hne => by
    subst he
    unfold plA formA
    have q : plN k r w t n X Y at' rot = 0 := if_neg hne
    rw [q, show plK k r w t n X Y at' rot = 0 from if_neg hne, show plC k r w t n X Y at' rot at'.1 = 0 from if_neg hne, show plC k r w t n X Y at' rot at'.2 = 0 from if_neg hne, show plR k r w t n X Y at' rot = 0 from if_neg hne]
    exact alk_form alk_nil
  refine ⟨hg, hn, fun h => ⟨h2, h3, fun h4 => ?_, fun h4 => ⟨h0, fun _ => h1, fun h5 => ?_, fun h5 => ?_⟩⟩, fun h => ⟨fun h4 => ?_, fun h4 => ?_⟩⟩
  · have hne : rotS rot.1.1 rot.1.2 rot.2.1 rot.2.2 ≠ 0 := bne_iff_ne.1 h4
    refine pos _ ?_ hne
    unfold plErr; rw [if_neg (by simpa using h), if_pos hne]; rfl
  · refine pos _ ?_ (by omega)
    unfold plErr
    rw [if_neg (by simpa using h), if_neg (show ¬ rotS rot.1.1 rot.1.2 rot.2.1 rot.2.2 ≠ 0 from not_not_intro (bne_eq_false_iff_eq.1 h4)), if_pos]
    unfold farB
    exact h5
  · have he : plErr k r w t n X Y at' rot = 0 := by
      unfold plErr
      rw [if_neg (by simpa using h), if_neg (show ¬ rotS rot.1.1 rot.1.2 rot.2.1 rot.2.2 ≠ 0 from not_not_intro (bne_eq_false_iff_eq.1 h4)), if_neg]
      unfold farB
      rintro (h7 | h7)
      · rw [h5.1] at h7; cases h7
      · rw [h5.2] at h7; cases h7
    have hc : chkS k r w t n X Y = 0 := by simpa using h
    have hcs := chk_cases hc
    refine ⟨fun h6 => ⟨h0, h1, ?_⟩, fun h6 => ⟨h0, h1, hg, hn, ?_⟩⟩
    · have hk : k = 1 := by simpa using h6
      unfold plA formA
      rw [show plN k r w t n X Y at' rot = 0 by unfold plN; rw [if_pos he, if_pos hk], show plK k r w t n X Y at' rot = 1 by unfold plK; rw [if_pos he, if_pos hk], show plC k r w t n X Y at' rot at'.1 = _ from if_pos he, show plC k r w t n X Y at' rot at'.2 = _ from if_pos he, show plR k r w t n X Y at' rot = r from if_pos he, he]
      exact alk_form alk_nil
    · have hk : ¬ k = 1 := by simpa using h6
      have hN : corN k r w t n X Y ≤ 8 := by unfold corN; rw [if_pos hc]; split <;> omega
      have hx : ∀ i, i < corN k r w t n X Y → inR (corX k w t X i) ∧ inR (corY k w t Y i) := fun i hi => by
        unfold corN at hi; rw [if_pos hc] at hi
        unfold corX corY
        split
        · constructor <;> (split <;> (unfold inR; omega))
        · rename_i h7
          rw [if_neg h7] at hi
          exact hX i hi
      generalize hM : corN k r w t n X Y = M at *
      refine loopN_go (fun (i : Nat) => i ≤ M) (fun i => M - i) (fun i => [(9, i64 i)]) (fun i => [(32, fam1 29 5 [i64 2, i64 (spV at'.1), i64 (spV at'.2), i64 0, .own 38 0 i 2] none), (38, famN i 2 26 (fun j => [i64 (plX k w t X Y at' rot j), i64 (plY k w t X Y at' rot j)]) none)]) [2, 1, 0] [47, 48, 49, 50, 53, 54, 55, 56, 57, 58, 59, 60, 61, 62, 63, 64, 65, 51, 52, 9] 1 0 (by kernel_rfl) (Nat.zero_le _) ⟨[(38, none)], ?_, ?_, ?_, ?_⟩ ?_
      · simp only [go_sem]
      · simp only [go_sem]
      · simp only [go_sem]
      · simp [goodNames, asg]
      intro i hi
      simp only [go_sem, c27, c30, k68]
      have hb : bytesT Try.prog 26 = 16 := by kernel_rfl
      rw [hb]
      simp only [forall_eq]
      refine ⟨fun hin => ?_, fun hin => ?_⟩
      · have hi' : i < M := by omega
        have hxi := hx i hi'
        refine ⟨by omega, hin, hxi.1, hxi.2, h0, h1, h2, h3, rg_inR nRat_rg, rg_inR nRat_rg, by omega, by omega, i + 1, by omega, by omega, [(38, some 54)], ?_⟩
        simp only [go_sem]
        refine ⟨by rw [wrap_in (by unfold inR; omega)]; rfl, fun j hj => ?_, by simp [goodNames, asg]⟩
        by_cases e : j < i
        · rw [if_pos e]; simp only [go_sem]
        · have e : j = i := by omega
          subst e
          rw [if_neg (by omega), Nat.sub_self]
          simp only [Nat.zero_mul, go_sem]
          exact ⟨rfl, rfl⟩
      · have e : i = M := by omega
        subst e
        unfold plA formA
        rw [show plN k r w t n X Y at' rot = i by unfold plN; rw [if_pos he, if_neg hk, hM], show plK k r w t n X Y at' rot = 2 by unfold plK; rw [if_pos he, if_neg hk], show plC k r w t n X Y at' rot at'.1 = _ from if_pos he, show plC k r w t n X Y at' rot at'.2 = _ from if_pos he, show plR k r w t n X Y at' rot = 0 by unfold plR; rw [if_pos he, chk_r hc hk], he]
        exact alk_refl
  · have hne : chkS k r w t n X Y ≠ 0 := by simpa using h
    exact pos _ (by unfold plErr; rw [if_pos hne]) hne
  · simp at h h4; omega
theorem con14 : ConOK Try.prog 14 cz17 := ConOK.goR (G := [(28, cz61), (24, cz57), (25, c25), (26, c26), (27, c27), (29, k68), (30, c30)]) (H := [(9, ⟨[(6, .slot 4)], []⟩), (15, ⟨[(13, .slot 7)], []⟩)]) (.cons con28 (.cons con24 (.cons con25 (.cons con26 (.cons con27 (.cons kon68 (.cons con30 .nil))))))) Try.func14 fun l ob rr hc hob => by
  unfold cz17 at hc
  split at hc
  · rename_i k r w t n g x e y f c o s p
    cases hc
    have hs : spots n g := hob _ (by simp)
    refine ⟨[shapeA k r w t n fun i => [i64 (gx g 0 i), i64 (gx g 1 i)], poseA ((x, e), (y, f)) ((c, o), (s, p))], fun w I vs h => ?_, by kernel_rfl, vc14 k r w t n _ _ (fun i hi => (hs i hi).2) (hob _ (by simp)) ((x, e), (y, f)) ((c, o), (s, p)) (hob _ (by simp)) (hob _ (by simp)) (hob _ (by simp)) (hob _ (by simp))⟩
    obtain ⟨x, xs, rfl, h1, h2⟩ := h.inv
    exact .cons (Rs_shape hs _ h1) h2
  · cases hc
end Go.Ax
end

section
/-
  What rays meet, the law's body.
-/
set_option linter.unusedVariables false
set_option linter.unusedSimpArgs false
set_option maxHeartbeats 4000000
set_option maxRecDepth 100000
namespace Go.Ax
open Go.Proofs
/-! ### Equality -/
theorem aEq48 {a0 b0 : Int} {a1 b1 : Bool} : aEq Try.prog 48 (.agg [i64 a0, bo a1]) (.agg [i64 b0, bo b1]) = some ((a0 == b0) && ((a1 == b1) && true)) := by kernel_rfl
theorem eq48 {xo yo : Operand} {neg : Bool} {a0 b0 : Int} {a1 b1 : Bool} : eqE Try.prog neg 48 xo yo (.agg [i64 a0, bo a1]) (.agg [i64 b0, bo b1]) = some ⟨[], .v (.bool (negV neg ((a0 == b0) && ((a1 == b1) && true)))), .none⟩ := eqE_agg aEq48
attribute [go_sem] eq48
theorem aEq50 {a0 b0 : Int} {a1 b1 : Bool} {a2 b2 : Int} {a3 b3 : Bool} : aEq Try.prog 50 (.agg [i64 a0, bo a1, i64 a2, bo a3]) (.agg [i64 b0, bo b1, i64 b2, bo b3]) = some (((a0 == b0) && ((a1 == b1) && true)) && (((a2 == b2) && ((a3 == b3) && true)) && true)) := by kernel_rfl
theorem eq50 {xo yo : Operand} {neg : Bool} {a0 b0 : Int} {a1 b1 : Bool} {a2 b2 : Int} {a3 b3 : Bool} : eqE Try.prog neg 50 xo yo (.agg [i64 a0, bo a1, i64 a2, bo a3]) (.agg [i64 b0, bo b1, i64 b2, bo b3]) = some ⟨[], .v (.bool (negV neg (((a0 == b0) && ((a1 == b1) && true)) && (((a2 == b2) && ((a3 == b3) && true)) && true)))), .none⟩ := eqE_agg aEq50
attribute [go_sem] eq50
theorem aEq160 {a0 b0 : Bool} {a1 b1 : Int} {a2 b2 : Bool} {a3 b3 : Int} {a4 b4 : Bool} {a5 b5 : Int} {a6 b6 : Bool} : aEq Try.prog 160 (.agg [bo a0, i64 a1, bo a2, i64 a3, bo a4, i64 a5, bo a6]) (.agg [bo b0, i64 b1, bo b2, i64 b3, bo b4, i64 b5, bo b6]) = some ((a0 == b0) && (((a1 == b1) && ((a2 == b2) && true)) && ((((a3 == b3) && ((a4 == b4) && true)) && (((a5 == b5) && ((a6 == b6) && true)) && true)) && true))) := by kernel_rfl
theorem eq160 {xo yo : Operand} {neg : Bool} {a0 b0 : Bool} {a1 b1 : Int} {a2 b2 : Bool} {a3 b3 : Int} {a4 b4 : Bool} {a5 b5 : Int} {a6 b6 : Bool} : eqE Try.prog neg 160 xo yo (.agg [bo a0, i64 a1, bo a2, i64 a3, bo a4, i64 a5, bo a6]) (.agg [bo b0, i64 b1, bo b2, i64 b3, bo b4, i64 b5, bo b6]) = some ⟨[], .v (.bool (negV neg ((a0 == b0) && (((a1 == b1) && ((a2 == b2) && true)) && ((((a3 == b3) && ((a4 == b4) && true)) && (((a5 == b5) && ((a6 == b6) && true)) && true)) && true))))), .none⟩ := eqE_agg aEq160
attribute [go_sem] eq160
end Go.Ax
end

section
/-
  Shapes placed, the law's body.
-/
set_option linter.unusedVariables false
set_option linter.unusedSimpArgs false
set_option maxHeartbeats 4000000
set_option maxRecDepth 100000
namespace Go.Ax
open Go.Proofs
theorem spV_inR {a : Nb} : inR (spV a) := by
  have : rg (whV (nMul a (nInt 256)).1) := whV_rg (rg_inR nMul_rg)
  unfold spV
  unfold rg at this
  unfold inR
  omega
theorem plN_le {k r w t : Int} {n : Nat} {X Y : Nat → Int} {at' rot : V2} : plN k r w t n X Y at' rot ≤ 8 := by
  unfold plN
  split
  · split
    · omega
    · unfold corN
      split
      · rename_i h
        have := chk_cases h
        split <;> omega
      · omega
  · omega
end Go.Ax
end

section
/-
  What is met first.
-/
set_option linter.unusedVariables false
set_option linter.unusedSimpArgs false
set_option maxHeartbeats 4000000
set_option maxRecDepth 100000
namespace Go.Ax
open Go.Proofs
/-- The slice in a cell. -/
def cn (cs : List AV) (k : Nat) : Nat := match cs[k]? with
  | some (.ro n _ _) => n
  | _ => 0
def cg (cs : List AV) (k : Nat) : Nat → List AV := match cs[k]? with
  | some (.ro _ _ g) => g
  | _ => fun _ => []
/-- The cells are a form's. -/
def formOK (cs : List AV) : Prop := cs = [i64 (gi cs 0), i64 (gi cs 1), i64 (gi cs 2), i64 (gi cs 3), .ro (cn cs 4) 2 (cg cs 4)] ∧ inR (gi cs 1) ∧ inR (gi cs 2) ∧ inR (gi cs 3) ∧ spots (cn cs 4) (cg cs 4) ∧ cn cs 4 ≤ 9223372036854775806
def forms (m : Nat) (G : Nat → List AV) : Prop := ∀ i, i < m → formOK (G i)
def fiA (s : Int × HitT) : AV := .tup [i64 s.1, .agg (hitC s.2)]
theorem bnd_fi {s : Int × HitT} : bnd (fiA s) = .tup [i64 s.1, .agg [bo s.2.1, i64 s.2.2.1.1, bo s.2.2.1.2, i64 s.2.2.2.1.1, bo s.2.2.2.1.2, i64 s.2.2.2.2.1, bo s.2.2.2.2.2]] := (rfl)
theorem plain_fi {s : Int × HitT} : plain 3 (fiA s) = true := (rfl)
attribute [go_sem] bnd_fi plain_fi
end Go.Ax
end

section
/-
  Forms made of numbers.
-/
set_option linter.unusedVariables false
set_option linter.unusedSimpArgs false
set_option maxHeartbeats 4000000
set_option maxRecDepth 100000
namespace Go.Ax
open Go.Proofs
theorem alk_shape {a b c d p q : AV} (h : alk p q) : alk (.agg [a, b, c, d, p]) (.agg [a, b, c, d, q]) := fun w ρ v hR => by
  cases hR with
  | agg hl' hh' =>
    refine .agg hl' fun j x y h3 h4 => ?_
    match j with
    | 0 => exact hh' 0 x y h3 h4
    | 1 => exact hh' 1 x y h3 h4
    | 2 => exact hh' 2 x y h3 h4
    | 3 => exact hh' 3 x y h3 h4
    | 4 =>
      simp at h3; subst h3
      exact h _ _ _ (hh' 4 _ y rfl h4)
    | m + 5 => simp at h3
def mkW (a b : Int) : Int := if a.tmod 4 ≠ 0 then 16 + (16 + modS b 4081).tmod 600 else 16 + modS b 4081
def mkM (a b : Int) : Int := max 64 (mkW a b)
def mkK (a : Int) : Int := if modS a 5 = 0 then 1 else if modS a 5 = 1 then 2 else 3
def mkR (a b : Int) : Int := if modS a 5 = 0 then mkW b b else 0
def mkH (a b c : Int) : Int := if modS a 5 = 0 then 0 else if modS a 5 = 1 then mkW b c else 0
def mkN (a : Int) : Nat := if modS a 5 = 0 then 0 else if modS a 5 = 1 then 0 else if modS a 5 = 2 then 3 else if modS a 5 = 3 then 5 else 8
def mkP (a w t : Int) : List AV :=
  if modS a 5 = 2 then [i64 (-w), i64 (-t), i64 w, i64 (-t), i64 0, i64 t]
  else if modS a 5 = 3 then [i64 ((-w).tdiv 2), i64 (-t), i64 (w.tdiv 2), i64 (-t), i64 w, i64 0, i64 0, i64 t, i64 (-w), i64 0]
  else [i64 w, i64 ((-w).tdiv 2), i64 w, i64 (w.tdiv 2), i64 (w.tdiv 2), i64 w, i64 ((-w).tdiv 2), i64 w, i64 (-w), i64 (w.tdiv 2), i64 (-w), i64 ((-w).tdiv 2), i64 ((-w).tdiv 2), i64 (-w), i64 (w.tdiv 2), i64 (-w)]
def mkX (a b c : Int) (i : Nat) : Int := gx (rowsOf 2 (mkP a (mkM b b) (mkM b c))) 0 i
def mkY (a b c : Int) (i : Nat) : Int := gx (rowsOf 2 (mkP a (mkM b b) (mkM b c))) 1 i
abbrev mkA (a b c : Int) : AV := .agg [i64 (mkK a), i64 (mkR a b), i64 (mkH a b b), i64 (mkH a b c), .ro (mkN a) 2 fun i => [i64 (mkX a b c i), i64 (mkY a b c i)]]
theorem modS_bd {n m : Int} (hm : 0 < m) : 0 ≤ modS n m ∧ modS n m < m := by
  have h1 : n.tmod m < m := Int.tmod_lt_of_pos n hm
  have h2 : -m < n.tmod m := Int.lt_tmod_of_pos n hm
  unfold modS
  split <;> omega
theorem mkW_bd {a b : Int} : 16 ≤ mkW a b ∧ mkW a b ≤ 4096 := by
  have h := modS_bd (n := b) (m := 4081) (by omega)
  have h1 : (16 + modS b 4081).tmod 600 < 600 := Int.tmod_lt_of_pos _ (by omega)
  have h2 : 0 ≤ (16 + modS b 4081).tmod 600 := Int.tmod_nonneg _ (by omega)
  unfold mkW
  split <;> omega
theorem mkM_bd {a b : Int} : 64 ≤ mkM a b ∧ mkM a b ≤ 4096 := by
  have := @mkW_bd a b
  unfold mkM
  omega
theorem wrW {b : Int} : IntKind.i64.wrap (16 + modS b 4081) = 16 + modS b 4081 := by
  have h := modS_bd (n := b) (m := 4081) (by omega)
  exact wrap_in (by unfold inR; omega)
theorem wrW2 {b : Int} : IntKind.i64.wrap (16 + (16 + modS b 4081).tmod 600) = 16 + (16 + modS b 4081).tmod 600 := by
  have h := modS_bd (n := b) (m := 4081) (by omega)
  have h1 : (16 + modS b 4081).tmod 600 < 600 := Int.tmod_lt_of_pos _ (by omega)
  have h2 : 0 ≤ (16 + modS b 4081).tmod 600 := Int.tmod_nonneg _ (by omega)
  exact wrap_in (by unfold inR; omega)
theorem wrM {a b : Int} : IntKind.i64.wrap (0 - mkM a b) = -mkM a b := by
  have := @mkM_bd a b
  rw [wrap_in (by unfold inR; omega), Int.zero_sub]
theorem wrM2 {a b : Int} : IntKind.i64.wrap ((-mkM a b).tdiv 2) = (-mkM a b).tdiv 2 := by
  have := @mkM_bd a b
  exact wrap_in (by rw [Int.neg_tdiv, Int.tdiv_eq_ediv_of_nonneg (by omega)]; unfold inR; omega)
theorem wrM3 {a b : Int} : IntKind.i64.wrap ((mkM a b).tdiv 2) = (mkM a b).tdiv 2 := by
  have := @mkM_bd a b
  exact wrap_in (by rw [Int.tdiv_eq_ediv_of_nonneg (by omega)]; unfold inR; omega)
theorem mkM_eq {a b : Int} : max 64 (mkW a b) = mkM a b := rfl
theorem vc15 (a b c d e f : Int) (ha : inR a) (hb : inR b) (hc : inR c) : fnVC Try.prog [(5, c5)] [] Try.f15 [.agg [i64 a, i64 b, i64 c, i64 d, i64 e, i64 f]] (alk (mkA a b c)) := by
  refine fnVC_go (rs := [.cell 2 45]) rfl rfl ?_
  simp only [go_sem, c5]
  simp only [forall_eq]
  simp only [wrW, wrW2]
  refine ⟨hb, by unfold inR; omega, hc, by unfold inR; omega, fun h => ?_, fun h => ?_⟩
  · have e : ∀ v, 16 + (16 + modS v 4081).tmod 600 = mkW b v := fun v => by unfold mkW; rw [if_pos (by simpa using h)]
    simp only [e]
    simp only [mkM_eq, wrM, wrM2, wrM3]
    refine ⟨ha, by unfold inR; omega, fun h0 => ?_, fun h0 => ⟨fun h1 => ?_, fun h1 => ⟨fun h2 => ?_, fun h2 => ⟨fun h3 => ?_, fun h3 => ?_⟩⟩⟩⟩
    · have k0 : modS a 5 = 0 := by simpa using h0
      unfold mkA
      rw [show mkK a = 1 by unfold mkK; rw [if_pos k0], show mkR a b = mkW b b by unfold mkR; rw [if_pos k0], show mkH a b b = 0 by unfold mkH; rw [if_pos k0], show mkH a b c = 0 by unfold mkH; rw [if_pos k0], show mkN a = 0 by unfold mkN; rw [if_pos k0]]
      exact alk_shape alk_nil
    · have k0 : ¬ modS a 5 = 0 := by simpa using h0
      have k1 : modS a 5 = 1 := by simpa using h1
      unfold mkA
      rw [show mkK a = 2 by unfold mkK; rw [if_neg k0, if_pos k1], show mkR a b = 0 by unfold mkR; rw [if_neg k0], show mkH a b b = mkW b b by unfold mkH; rw [if_neg k0, if_pos k1], show mkH a b c = mkW b c by unfold mkH; rw [if_neg k0, if_pos k1], show mkN a = 0 by unfold mkN; rw [if_neg k0, if_pos k1]]
      exact alk_shape alk_nil
    · have k0 : ¬ modS a 5 = 0 := by simpa using h0
      have k1 : ¬ modS a 5 = 1 := by simpa using h1
      have k2 : modS a 5 = 2 := by simpa using h2
      unfold mkA
      rw [show mkK a = 3 by unfold mkK; rw [if_neg k0, if_neg k1], show mkR a b = 0 by unfold mkR; rw [if_neg k0], show mkH a b b = 0 by unfold mkH; rw [if_neg k0, if_neg k1], show mkH a b c = 0 by unfold mkH; rw [if_neg k0, if_neg k1], show mkN a = 3 by unfold mkN; rw [if_neg k0, if_neg k1, if_pos k2]]
      refine alk_shape (alk_ro fun i hi => ?_)
      unfold mkX mkY mkP
      rw [if_pos k2]
      match i with
      | 0 => rfl
      | 1 => rfl
      | 2 => rfl
      | q + 3 => omega
    · have k0 : ¬ modS a 5 = 0 := by simpa using h0
      have k1 : ¬ modS a 5 = 1 := by simpa using h1
      have k2 : ¬ modS a 5 = 2 := by simpa using h2
      have k3 : modS a 5 = 3 := by simpa using h3
      unfold mkA
      rw [show mkK a = 3 by unfold mkK; rw [if_neg k0, if_neg k1], show mkR a b = 0 by unfold mkR; rw [if_neg k0], show mkH a b b = 0 by unfold mkH; rw [if_neg k0, if_neg k1], show mkH a b c = 0 by unfold mkH; rw [if_neg k0, if_neg k1], show mkN a = 5 by unfold mkN; rw [if_neg k0, if_neg k1, if_neg k2, if_pos k3]]
      refine alk_shape (alk_ro fun i hi => ?_)
      unfold mkX mkY mkP
      rw [if_neg k2, if_pos k3]
      match i with
      | 0 => rfl
      | 1 => rfl
      | 2 => rfl
      | 3 => rfl
      | 4 => rfl
      | q + 5 => omega
    · have k0 : ¬ modS a 5 = 0 := by simpa using h0
      have k1 : ¬ modS a 5 = 1 := by simpa using h1
      have k2 : ¬ modS a 5 = 2 := by simpa using h2
      have k3 : ¬ modS a 5 = 3 := by simpa using h3
      unfold mkA
      rw [show mkK a = 3 by unfold mkK; rw [if_neg k0, if_neg k1], show mkR a b = 0 by unfold mkR; rw [if_neg k0], show mkH a b b = 0 by unfold mkH; rw [if_neg k0, if_neg k1], show mkH a b c = 0 by unfold mkH; rw [if_neg k0, if_neg k1], show mkN a = 8 by unfold mkN; rw [if_neg k0, if_neg k1, if_neg k2, if_neg k3]]
      refine alk_shape (alk_ro fun i hi => ?_)
      unfold mkX mkY mkP
      rw [if_neg k2, if_neg k3]
      match i with
      | 0 => rfl
      | 1 => rfl
      | 2 => rfl
      | 3 => rfl
      | 4 => rfl
      | 5 => rfl
      | 6 => rfl
      | 7 => rfl
      | q + 8 => omega
  · have e : ∀ v, 16 + modS v 4081 = mkW b v := fun v => by unfold mkW; rw [if_neg (by simpa using h)]
    simp only [e]
    simp only [mkM_eq, wrM, wrM2, wrM3]
    refine ⟨ha, by unfold inR; omega, fun h0 => ?_, fun h0 => ⟨fun h1 => ?_, fun h1 => ⟨fun h2 => ?_, fun h2 => ⟨fun h3 => ?_, fun h3 => ?_⟩⟩⟩⟩
    · have k0 : modS a 5 = 0 := by simpa using h0
      unfold mkA
      rw [show mkK a = 1 by unfold mkK; rw [if_pos k0], show mkR a b = mkW b b by unfold mkR; rw [if_pos k0], show mkH a b b = 0 by unfold mkH; rw [if_pos k0], show mkH a b c = 0 by unfold mkH; rw [if_pos k0], show mkN a = 0 by unfold mkN; rw [if_pos k0]]
      exact alk_shape alk_nil
    · have k0 : ¬ modS a 5 = 0 := by simpa using h0
      have k1 : modS a 5 = 1 := by simpa using h1
      unfold mkA
      rw [show mkK a = 2 by unfold mkK; rw [if_neg k0, if_pos k1], show mkR a b = 0 by unfold mkR; rw [if_neg k0], show mkH a b b = mkW b b by unfold mkH; rw [if_neg k0, if_pos k1], show mkH a b c = mkW b c by unfold mkH; rw [if_neg k0, if_pos k1], show mkN a = 0 by unfold mkN; rw [if_neg k0, if_pos k1]]
      exact alk_shape alk_nil
    · have k0 : ¬ modS a 5 = 0 := by simpa using h0
      have k1 : ¬ modS a 5 = 1 := by simpa using h1
      have k2 : modS a 5 = 2 := by simpa using h2
      unfold mkA
      rw [show mkK a = 3 by unfold mkK; rw [if_neg k0, if_neg k1], show mkR a b = 0 by unfold mkR; rw [if_neg k0], show mkH a b b = 0 by unfold mkH; rw [if_neg k0, if_neg k1], show mkH a b c = 0 by unfold mkH; rw [if_neg k0, if_neg k1], show mkN a = 3 by unfold mkN; rw [if_neg k0, if_neg k1, if_pos k2]]
      refine alk_shape (alk_ro fun i hi => ?_)
      unfold mkX mkY mkP
      rw [if_pos k2]
      match i with
      | 0 => rfl
      | 1 => rfl
      | 2 => rfl
      | q + 3 => omega
    · have k0 : ¬ modS a 5 = 0 := by simpa using h0
      have k1 : ¬ modS a 5 = 1 := by simpa using h1
      have k2 : ¬ modS a 5 = 2 := by simpa using h2
      have k3 : modS a 5 = 3 := by simpa using h3
      unfold mkA
      rw [show mkK a = 3 by unfold mkK; rw [if_neg k0, if_neg k1], show mkR a b = 0 by unfold mkR; rw [if_neg k0], show mkH a b b = 0 by unfold mkH; rw [if_neg k0, if_neg k1], show mkH a b c = 0 by unfold mkH; rw [if_neg k0, if_neg k1], show mkN a = 5 by unfold mkN; rw [if_neg k0, if_neg k1, if_neg k2, if_pos k3]]
      refine alk_shape (alk_ro fun i hi => ?_)
      unfold mkX mkY mkP
      rw [if_neg k2, if_pos k3]
      match i with
      | 0 => rfl
      | 1 => rfl
      | 2 => rfl
      | 3 => rfl
      | 4 => rfl
      | q + 5 => omega
    · have k0 : ¬ modS a 5 = 0 := by simpa using h0
      have k1 : ¬ modS a 5 = 1 := by simpa using h1
      have k2 : ¬ modS a 5 = 2 := by simpa using h2
      have k3 : ¬ modS a 5 = 3 := by simpa using h3
      unfold mkA
      rw [show mkK a = 3 by unfold mkK; rw [if_neg k0, if_neg k1], show mkR a b = 0 by unfold mkR; rw [if_neg k0], show mkH a b b = 0 by unfold mkH; rw [if_neg k0, if_neg k1], show mkH a b c = 0 by unfold mkH; rw [if_neg k0, if_neg k1], show mkN a = 8 by unfold mkN; rw [if_neg k0, if_neg k1, if_neg k2, if_neg k3]]
      refine alk_shape (alk_ro fun i hi => ?_)
      unfold mkX mkY mkP
      rw [if_neg k2, if_neg k3]
      match i with
      | 0 => rfl
      | 1 => rfl
      | 2 => rfl
      | 3 => rfl
      | 4 => rfl
      | 5 => rfl
      | 6 => rfl
      | 7 => rfl
      | q + 8 => omega
def c15 : Con
  | [.agg [.v (.int .i64 a), .v (.int .i64 b), .v (.int .i64 c), .v (.int .i64 d), .v (.int .i64 e), .v (.int .i64 f)]] => some ([inR a, inR b, inR c], mkA a b c)
  | _ => none
theorem con15 : ConOK Try.prog 15 c15 := ConOK.goR (G := [(5, c5)]) (H := []) (.cons con5 .nil) Try.func15 fun l ob rr hc hob => by
  unfold c15 at hc
  split at hc
  · rename_i a b c d e f
    cases hc
    exact ⟨_, fun w I vs h => h, by kernel_rfl, vc15 a b c d e f (hob _ (by simp)) (hob _ (by simp)) (hob _ (by simp))⟩
  · cases hc
def foAt (x y s : Int) : V2 := ((x.tmod (s * 4294967296), false), (y.tmod (s * 4294967296), false))
def foRot (u : Int) : V2 := ((csV (u.tmod (8 * 4294967296)) false, csF (u.tmod (8 * 4294967296)) false), (snV (u.tmod (8 * 4294967296)) false, snF (u.tmod (8 * 4294967296)) false))
theorem tmod_inR {x s : Int} (h : 1 ≤ s ∧ s ≤ 1000000) : inR (x.tmod (s * 4294967296)) := by
  have h1 : x.tmod (s * 4294967296) < s * 4294967296 := Int.tmod_lt_of_pos x (by omega)
  have h2 : -(s * 4294967296) < x.tmod (s * 4294967296) := Int.lt_tmod_of_pos x (by omega)
  unfold inR
  omega
def c16 : Con
  | [.agg [.v (.int .i64 a), .v (.int .i64 b), .v (.int .i64 c), .v (.int .i64 x), .v (.int .i64 y), .v (.int .i64 u)], .v (.int .i64 s)] => some ([inR x, inR y, inR u, 1 ≤ s ∧ s ≤ 1000000], poseA (foAt x y s) (foRot u))
  | _ => none
theorem con16 : ConOK Try.prog 16 c16 := ConOK.of (G := [(31, c31), (32, c32)]) (H := [(1, ⟨[(14, .slot 4)], []⟩)]) (.cons con31 (.cons con32 .nil)) Try.func16 fun l ob r hc hob => by
  unfold c16 at hc
  split at hc
  · rename_i a b c x y u s
    cases hc
    have h_0 : inR x := hob _ (by simp)
    have h_1 : inR y := hob _ (by simp)
    have h_2 : inR u := hob _ (by simp)
    have h_3 : 1 ≤ s ∧ s ≤ 1000000 := hob _ (by simp)
    refine ⟨by kernel_rfl, fnVC_go (rs := [.cell 4 54]) rfl rfl ?_⟩
    simp only [go_sem, c31, c32]
    simp only [forall_eq]
    exact ⟨h_0, h_3, h_1, h_3, h_2, tmod_inR (by omega), rfl⟩
  · cases hc
theorem mk_inR {a b c : Int} (i : Nat) (hi : i < mkN a) : inR (mkX a b c i) ∧ inR (mkY a b c i) := by
  have b1 := @mkM_bd b b
  have b2 := @mkM_bd b c
  have t1 : (mkM b b).tdiv 2 = mkM b b / 2 := Int.tdiv_eq_ediv_of_nonneg (by omega)
  have t2 : (-mkM b b).tdiv 2 = -(mkM b b / 2) := by rw [Int.neg_tdiv, t1]
  unfold mkX mkY mkP
  unfold mkN at hi
  by_cases k0 : modS a 5 = 0
  · rw [if_pos k0] at hi; omega
  rw [if_neg k0] at hi
  by_cases k1 : modS a 5 = 1
  · rw [if_pos k1] at hi; omega
  rw [if_neg k1] at hi
  rw [t1, t2]
  generalize mkM b b = M at *
  generalize mkM b c = T at *
  by_cases k2 : modS a 5 = 2
  · rw [if_pos k2] at hi
    rw [if_pos k2]
    match i with
    | 0 => show inR (-M) ∧ inR (-T); unfold inR; omega
    | 1 => show inR M ∧ inR (-T); unfold inR; omega
    | 2 => show inR 0 ∧ inR T; unfold inR; omega
    | q + 3 => omega
  rw [if_neg k2] at hi
  rw [if_neg k2]
  by_cases k3 : modS a 5 = 3
  · rw [if_pos k3] at hi
    rw [if_pos k3]
    match i with
    | 0 => show inR (-(M / 2)) ∧ inR (-T); unfold inR; omega
    | 1 => show inR (M / 2) ∧ inR (-T); unfold inR; omega
    | 2 => show inR M ∧ inR 0; unfold inR; omega
    | 3 => show inR 0 ∧ inR T; unfold inR; omega
    | 4 => show inR (-M) ∧ inR 0; unfold inR; omega
    | q + 5 => omega
  rw [if_neg k3] at hi
  rw [if_neg k3]
  match i with
  | 0 => show inR M ∧ inR (-(M / 2)); unfold inR; omega
  | 1 => show inR M ∧ inR (M / 2); unfold inR; omega
  | 2 => show inR (M / 2) ∧ inR M; unfold inR; omega
  | 3 => show inR (-(M / 2)) ∧ inR M; unfold inR; omega
  | 4 => show inR (-M) ∧ inR (M / 2); unfold inR; omega
  | 5 => show inR (-M) ∧ inR (-(M / 2)); unfold inR; omega
  | 6 => show inR (-(M / 2)) ∧ inR (-M); unfold inR; omega
  | 7 => show inR (M / 2) ∧ inR (-M); unfold inR; omega
  | q + 8 => omega
theorem mkN_le {a : Int} : mkN a ≤ 9223372036854775806 := by
  unfold mkN
  (repeat' split) <;> omega
def foK (a b c x y u s : Int) : Int := plK (mkK a) (mkR a b) (mkH a b b) (mkH a b c) (mkN a) (mkX a b c) (mkY a b c) (foAt x y s) (foRot u)
def foX (a b c x y u s : Int) : Int := plC (mkK a) (mkR a b) (mkH a b b) (mkH a b c) (mkN a) (mkX a b c) (mkY a b c) (foAt x y s) (foRot u) (foAt x y s).1
def foY (a b c x y u s : Int) : Int := plC (mkK a) (mkR a b) (mkH a b b) (mkH a b c) (mkN a) (mkX a b c) (mkY a b c) (foAt x y s) (foRot u) (foAt x y s).2
def foR (a b c x y u s : Int) : Int := plR (mkK a) (mkR a b) (mkH a b b) (mkH a b c) (mkN a) (mkX a b c) (mkY a b c) (foAt x y s) (foRot u)
def foN (a b c x y u s : Int) : Nat := plN (mkK a) (mkR a b) (mkH a b b) (mkH a b c) (mkN a) (mkX a b c) (mkY a b c) (foAt x y s) (foRot u)
def foP (a b c x y u s : Int) (i : Nat) : Int := plX (mkK a) (mkH a b b) (mkH a b c) (mkX a b c) (mkY a b c) (foAt x y s) (foRot u) i
def foQ (a b c x y u s : Int) (i : Nat) : Int := plY (mkK a) (mkH a b b) (mkH a b c) (mkX a b c) (mkY a b c) (foAt x y s) (foRot u) i
def c6 : Con
  | [.agg [.v (.int .i64 a), .v (.int .i64 b), .v (.int .i64 c), .v (.int .i64 x), .v (.int .i64 y), .v (.int .i64 u)], .v (.int .i64 s)] => some ([inR a, inR b, inR c, inR x, inR y, inR u, 1 ≤ s ∧ s ≤ 1000000], formA (foK a b c x y u s) (foX a b c x y u s) (foY a b c x y u s) (foR a b c x y u s) (foN a b c x y u s) fun i => [i64 (foP a b c x y u s i), i64 (foQ a b c x y u s i)])
  | _ => none
theorem con6 : ConOK Try.prog 6 c6 := ConOK.of (G := [(15, c15), (16, c16), (14, cz17)]) (H := [(1, ⟨[(10, .made 9)], []⟩)]) (.cons con15 (.cons con16 (.cons con14 .nil))) Try.func6 fun l ob r hc hob => by
  unfold c6 at hc
  split at hc
  · rename_i a b c x y u s
    cases hc
    have h_0 : inR a := hob _ (by simp)
    have h_1 : inR b := hob _ (by simp)
    have h_2 : inR c := hob _ (by simp)
    have h_3 : inR x := hob _ (by simp)
    have h_4 : inR y := hob _ (by simp)
    have h_5 : inR u := hob _ (by simp)
    have h_6 : 1 ≤ s ∧ s ≤ 1000000 := hob _ (by simp)
    refine ⟨by kernel_rfl, fnVC_go (rs := [.cell 4 29]) rfl rfl ?_⟩
    simp only [go_sem, c15, c16, cz17, cz17]
    simp only [forall_eq]
    exact ⟨h_0, h_1, h_2, h_3, h_4, h_5, h_6, fun i hi => ⟨rfl, mk_inR i hi⟩, mkN_le, tmod_inR h_6, tmod_inR h_6, rg_inR (show rg (csV _ _) from snV_rg), rg_inR snV_rg, rfl⟩
  · cases hc
end Go.Ax
end

section
/-
  What is met first, the law's body.
-/
set_option linter.unusedVariables false
set_option linter.unusedSimpArgs false
set_option maxHeartbeats 4000000
set_option maxRecDepth 100000
namespace Go.Ax
open Go.Proofs
theorem foX_inR {a b c x y u s : Int} : inR (foX a b c x y u s) := by
  unfold foX plC
  split
  · exact spV_inR
  · unfold inR; omega
theorem foY_inR {a b c x y u s : Int} : inR (foY a b c x y u s) := by
  unfold foY plC
  split
  · exact spV_inR
  · unfold inR; omega
theorem foR_inR {a b c x y u s : Int} : inR (foR a b c x y u s) := by
  have := @mkW_bd b b
  unfold foR plR mkR
  split
  · split <;> (unfold inR; omega)
  · unfold inR; omega
end Go.Ax
end

section
/-
  How far forms are from each other: the small parts.
-/
set_option linter.unusedVariables false
set_option linter.unusedSimpArgs false
set_option maxHeartbeats 4000000
set_option maxRecDepth 100000
namespace Go.Ax
open Go.Proofs
def dtW (a b c d : Int) : Int := IntKind.i64.wrap (IntKind.i64.wrap (a * c) + IntKind.i64.wrap (b * d))
def crW (a b c d : Int) : Int := IntKind.i64.wrap (IntKind.i64.wrap (a * d) - IntKind.i64.wrap (b * c))
def mnW (a b : Int) : Int := IntKind.i64.wrap (b - a)
/-- Whether an edge is farther from a spot than so. -/
def farS (ax ay bx byy cx cy r : Int) : Bool :=
  if dtW (mnW ax cx) (mnW ay cy) (mnW ax bx) (mnW ay byy) ≤ 0 then decide (IntKind.i64.wrap (r * r) < dtW (mnW ax cx) (mnW ay cy) (mnW ax cx) (mnW ay cy))
  else if dtW (mnW ax bx) (mnW ay byy) (mnW ax bx) (mnW ay byy) ≤ dtW (mnW ax cx) (mnW ay cy) (mnW ax bx) (mnW ay byy) then decide (IntKind.i64.wrap (r * r) < dtW (mnW bx cx) (mnW byy cy) (mnW bx cx) (mnW byy cy))
  else decide (0 < cmpS (crW (mnW ax bx) (mnW ay byy) (mnW ax cx) (mnW ay cy) * crW (mnW ax bx) (mnW ay byy) (mnW ax cx) (mnW ay cy)) (IntKind.i64.wrap (r * r) * dtW (mnW ax bx) (mnW ay byy) (mnW ax bx) (mnW ay byy)))
theorem dtW_eq {a b c d : Int} : IntKind.i64.wrap (IntKind.i64.wrap (a * c) + IntKind.i64.wrap (b * d)) = dtW a b c d := rfl
theorem mnW_eq {a b : Int} : IntKind.i64.wrap (b - a) = mnW a b := rfl
theorem dtW_inR {a b c d : Int} : inR (dtW a b c d) := wrap_inR _
def c37 : Con
  | [.agg [.v (.int .i64 ax), .v (.int .i64 ay)], .agg [.v (.int .i64 bx), .v (.int .i64 byy)], .agg [.v (.int .i64 cx), .v (.int .i64 cy)], .v (.int .i64 r)] => some ([], bo (farS ax ay bx byy cx cy r))
  | _ => none
theorem con37 : ConOK Try.prog 37 c37 := ConOK.of (G := [(33, c33), (34, c34), (56, c56), (57, c57)]) (H := [(1, ⟨[(12, .made 9), (13, .made 10), (14, .made 11)], []⟩)]) (.cons con33 (.cons con34 (.cons con56 (.cons con57 .nil)))) Try.func37 fun l ob r hc hob => by
  unfold c37 at hc
  split at hc
  · rename_i r
    cases hc
    refine ⟨by kernel_rfl, fnVC_go (rs := [.tmp 8]) rfl rfl ?_⟩
    simp only [go_sem, c33, c34, c56, c57]
    simp only [forall_eq, mnW_eq, dtW_eq]
    refine ⟨fun h => ?_, fun h => ⟨fun h2 => ?_, fun h2 => ⟨wrap_inR _, wrap_inR _, wrap_inR _, dtW_inR, ?_⟩⟩⟩
    · unfold farS; rw [if_pos h]
    · unfold farS; rw [if_neg h, if_pos h2]
    · unfold farS; rw [if_neg h, if_neg h2]; rfl
  · cases hc
/-- Whether an edge of the one has all of the other on its farther side. -/
def clrS (n : Nat) (X Y : Nat → Int) (m : Nat) (Z T : Nat → Int) : Bool := decide (∃ i, i < n ∧ ∀ j, j < m → turnS (X i) (Y i) (X (nxt n i)) (Y (nxt n i)) (Z j) (T j) < 0)
/-- Whether a disc is off a polygon. -/
def outS (n : Nat) (X Y : Nat → Int) (cx cy r : Int) : Bool := decide (inS n X Y cx cy = false ∧ ∀ i, i < n → farS (X i) (Y i) (X (nxt n i)) (Y (nxt n i)) cx cy r = true)
theorem vc38 (n m : Nat) (X Y Z T : Nat → Int) (hX : ∀ i, i < n → inR (X i) ∧ inR (Y i)) (hZ : ∀ i, i < m → inR (Z i) ∧ inR (T i)) (hn : n ≤ 9223372036854775806) (hm : m ≤ 9223372036854775806) (vX : ∀ i, i < n → validS (X i) (Y i) = true) (vZ : ∀ i, i < m → validS (Z i) (T i) = true) :
    fnVC Try.prog [(39, c39), (36, c36), (1000000 + 55, c55)] [] Try.f38 [.agg [.ro n 2 fun i => [i64 (X i), i64 (Y i)]], .agg [.ro m 2 fun i => [i64 (Z i), i64 (T i)]]] (· = bo (clrS n X Y m Z T)) := by
  refine fnVC_go (rs := [.cell 4 4]) rfl rfl ?_
  simp only [go_sem, c36]
  have hg : spots n fun i => [i64 (X i), i64 (Y i)] := fun i hi => ⟨rfl, hX i hi⟩
  refine rangeC_go (fun (i : Nat) => i ≤ n ∧ ∀ j, j < i → ¬ ∀ l, l < m → turnS (X j) (Y j) (X (nxt n j)) (Y (nxt n j)) (Z l) (T l) < 0) (fun i => i) (fun _ => []) [2, 1, 0] [11, 12, 5, 6, 13, 14, 15, 16, 17, 18, 19, 8, 20, 21, 22, 23, 24, 25, 16] 0 0 (N := n) (sq := edgeE n fun i => [i64 (X i), i64 (Y i)]) (ob := [spots n fun i => [i64 (X i), i64 (Y i)], n ≤ 9223372036854775806]) rfl (by simp [hg, hn]) (by kernel_rfl) rfl (fun i _ => ⟨rfl, rfl⟩) ⟨Nat.zero_le _, fun j hj => by omega⟩ rfl ⟨[], ?_, ?_, ?_⟩ ?_ ?_
  · simp only [go_sem]
  · simp only [go_sem]
  · simp [goodNames, asg]
  · intro i hi hlt
    simp only [go_sem, edgeE, c39]
    refine loopC_go (fun (j : Nat) => j ≤ m ∧ ∀ l, l < j → turnS (X i) (Y i) (X (nxt n i)) (Y (nxt n i)) (Z l) (T l) < 0) (fun j => m - j) (fun j => [(16, i64 j)]) (fun _ => []) [7, 5, 2, 1, 0] [17, 18, 19, 8, 20, 21, 22, 23, 24, 25, 16] 0 (by kernel_rfl) ?_ ⟨Nat.zero_le _, fun l hl => by omega⟩ ?_ ?_
    · intro x _; simp [goodNames]
    · simp only [go_sem]
    intro j hj
    simp only [go_sem, c39]
    refine ⟨fun hin => ⟨by omega, hin, fun z hz => ⟨vX i hlt, vX _ (nxt_lt hlt), vZ j (by omega), fun h => ⟨i + 1, ⟨by have : i < n := hlt; omega, fun j' hj' => ?_⟩, rfl, [], ?_⟩, fun h z1 hz1 => ⟨j + 1, ⟨by omega, fun l hl => ?_⟩, by omega, ?_⟩⟩⟩, fun hin => ?_⟩
    · by_cases e : j' = i
      · subst e
        intro hc
        have := hc j (by omega)
        omega
      · exact hi.2 j' (by omega)
    · simp [goodNames]
    · by_cases e : l = j
      · subst e; omega
      · exact hj.2 l (by omega)
    · rw [hz1, wrap_in (by unfold inR; omega)]; rfl
    · exact (decide_eq_true (show ∃ i, _ from ⟨i, hlt, fun l hl => hj.2 l (by omega)⟩)).symm
  · intro i hi he
    simp only [go_sem]
    refine (decide_eq_false (fun ⟨j, hj, hc⟩ => hi.2 j (by omega) hc)).symm
def c38 : Con
  | [.agg [.ro n 2 g], .agg [.ro m 2 g']] => some ([spots n g, spots m g', n ≤ 9223372036854775806, m ≤ 9223372036854775806, ∀ i, i < n → validS (gx g 0 i) (gx g 1 i) = true, ∀ i, i < m → validS (gx g' 0 i) (gx g' 1 i) = true], bo (clrS n (gx g 0) (gx g 1) m (gx g' 0) (gx g' 1)))
  | _ => none
theorem con38 : ConOK Try.prog 38 c38 := ConOK.go (G := [(39, c39), (36, c36), (1000000 + 55, c55)]) (H := []) (.cons con39 (.cons con36 (.seq seq55 .nil))) Try.func38 fun l ob rr hc hob => by
  unfold c38 at hc
  split at hc
  · rename_i n g m g'
    cases hc
    have hs : spots n g := hob _ (by simp)
    have hs' : spots m g' := hob _ (by simp)
    exact ⟨[.agg [.ro n 2 fun i => [i64 (gx g 0 i), i64 (gx g 1 i)]], .agg [.ro m 2 fun i => [i64 (gx g' 0 i), i64 (gx g' 1 i)]]], fun w I vs h => Rs_two (Rs_poly hs) (Rs_poly hs') h, by kernel_rfl, vc38 n m _ _ _ _ (fun i hi => (hs i hi).2) (fun i hi => (hs' i hi).2) (hob _ (by simp)) (hob _ (by simp)) (hob _ (by simp)) (hob _ (by simp))⟩
  · cases hc
end Go.Ax
end
