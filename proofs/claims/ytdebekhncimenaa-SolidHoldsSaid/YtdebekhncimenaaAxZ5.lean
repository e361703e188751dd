/-
  The iterator over a polygon's edges.
-/
import Derived.Test.YtdebekhncimenaaAxZ3
import Derived.Test.YtdebekhncimenaaAxSeq
set_option linter.unusedVariables false
set_option linter.unusedSimpArgs false
set_option maxHeartbeats 1000000
set_option maxRecDepth 100000
namespace Go.Ax
open Go.Proofs

/-- The number of the next corner. -/
def nxt (n i : Nat) : Nat := if i + 1 < n then i + 1 else 0
theorem nxt_lt {n i : Nat} (h : i < n) : nxt n i < n := by unfold nxt; split <;> omega
/-- An edge. -/
def edgeE (n : Nat) (g : Nat → List AV) (i : Nat) : List AV := [.agg [i64 (gx g 0 i), i64 (gx g 1 i)], .agg [i64 (gx g 0 (nxt n i)), i64 (gx g 1 (nxt n i))]]
def c57 : Con
  | [.rop [.ro n 2 g]] => some ([spots n g, n ≤ 9223372036854775806], .ro n 2 (edgeE n g))
  | _ => none

/-- At the head of the loop. -/
structure At57 (I : Nat → Prop) (w : World) (J : Nat → World → Prop) (l n : Nat) (v1 x : Value) (i : Nat) (a : Act) (W : World) : Prop where
  sz : a.tmps.size = 38
  de : a.defers = []
  t0 : a.tmps.getD 0 undef = .func (.yield l) #[] #[]
  t1 : a.tmps.getD 1 undef = v1
  t3 : a.tmps.getD 3 undef = .int .i64 (IntKind.i64.wrap (n - 1))
  t12 : a.tmps.getD 12 undef = x
  t13 : a.tmps.getD 13 undef = .int .i64 n
  t14 : a.tmps.getD 14 undef = .int .i64 i
  le : i ≤ n
  j : J i W
  same : Same I w W

/-- The corners as plain pairs. -/
def sg (g : Nat → List AV) : Nat → List AV := fun i => [i64 (gx g 0 i), i64 (gx g 1 i)]
theorem sg_eq {g : Nat → List AV} : sg g = fun i => [i64 (gx g 0 i), i64 (gx g 1 i)] := (rfl)

theorem seq57 : SeqOK Try.prog 57 c57 := by
  intro es ob N k sq hc hob
  unfold c57 at hc
  split at hc
  case h_2 => cases hc
  rename_i n g
  simp only [Option.some.injEq, Prod.mk.injEq, AV.ro.injEq] at hc
  obtain ⟨rfl, rfl, rfl, rfl⟩ := hc
  have hsp : spots n g := hob _ (by simp)
  have hn : n ≤ 9223372036854775806 := hob _ (by simp)
  intro I w vs nn l J Jx hI hRs hJ hJx h0 hy
  obtain ⟨v1, rest, rfl, hv1, hrest⟩ := hRs.inv
  have : rest = [] := by have := hrest.1; simpa using this
  subst this
  cases hv1 with
  | rop b o hib hex hr =>
  obtain ⟨x, hx⟩ := hex 0 (by simp)
  have hx : Has w b o x := hx
  have hib : I b := hib
  have hxr : R w (.ext I) (.ro n 2 (sg g)) x := ro_alike (fun i hi => (hsp i hi).1) (hr 0 _ x rfl hx)
  have hvx : R w (.ext I) (.rop [.v x]) (.pointer (some ⟨b, o, none⟩)) := rop1 hib hx .v
  have hvr : R w (.ext I) (.rop [.ro n 2 (sg g)]) (.pointer (some ⟨b, o, none⟩)) := rop1 hib hx hxr
  refine ⟨callFunc_enter Try.func57 (by kernel_rfl) rfl, ?_⟩
  refine callsIn_of_wp_marks (F := Fence.wide) Try.func57 rfl trivial ?_
  have hm : Try.prog.follows .mixedOrders = true := by kernel_rfl
  rw [show Try.f57.ntmps = 38 from by kernel_rfl]
  generalize hes : (#[Value.func (.yield l) #[] #[]] ++ [Value.pointer (some ⟨b, o, none⟩)].toArray : Array Value) = es
  have hes2 : es.size = 2 := by rw [← hes]; rfl
  have hes0 : es[0]? = some (.func (.yield l) #[] #[]) := by rw [← hes]; rfl
  have hes1 : es[1]? = some (.pointer (some ⟨b, o, none⟩)) := by rw [← hes]; rfl
  generalize ha : (Act.mk (es ++ Array.replicate (38 - es.size) undef) []) = a
  have hsz : a.tmps.size = 38 := by rw [← ha]; exact start_size (by omega)
  have hde : a.defers = [] := by rw [← ha]
  have ht0 : a.tmps.getD 0 undef = .func (.yield l) #[] #[] := by rw [← ha]; exact start_get hes0
  have ht1 : a.tmps.getD 1 undef = .pointer (some ⟨b, o, none⟩) := by rw [← ha]; exact start_get hes1
  clear ha hes hes0 hes1 hes2
  have keepR : ∀ {av : AV} {v : Value} {W : World}, R w (.ext I) av v → Same I w W → R W (.ext I) av v := fun h hs => h.mono (.refl _) hs
  have ltI : ∀ {W : World}, Same I w W → ∀ b, I b → b < W.heap.size := fun {W} hs b hb => by
    have h1 := hs b hb
    have h2 := hI b hb
    rw [Array.getElem?_eq_getElem h2] at h1
    exact (Array.getElem?_eq_some_iff.1 h1).1
  -- region 0
  refine wpIn_seq (pieceI (G := []) (H := []) .nil hm (l := [(1, .rop [.ro n 2 (sg g)])]) (W := [7, 8, 9, 10, 3]) (K := fun e s => match e with | .normal => slot s.t 3 = i64 (IntKind.i64.wrap (n - 1)) | _ => False) (by kernel_rfl) (by kernel_rfl) (by kernel_rfl) ?_ hI hsz ?_ ?_)
  · refine awp_go (K1 := fun e t _ => match e with | .normal => slot t 3 = i64 (IntKind.i64.wrap (n - 1)) | _ => False) ?_
    simp only [go_sem, List.range, List.range.loop]
    exact fun _ => trivial
  · intro p hp; simp only [List.mem_singleton] at hp; subst hp; dsimp only; rw [ht1]; exact hvr
  intro e s1 ρ1 a1 w1 k1 k2
  cases e with
  | exit j => exact k1.elim
  | ret => exact k1.elim
  | normal =>
  have bel1 : RowKit.Below w.heap.size w w1 := k2.rel.below
  have hs1 : Same I w w1 := Same.of_below bel1 hI
  have hj1 : J 0 w1 := hJ 0 w w1 h0 bel1
  have u0 : a1.tmps.getD 0 undef = .func (.yield l) #[] #[] := (k2.frame 0 (show ¬ (0 : Nat) ∈ [7, 8, 9, 10, 3] by decide)).trans ht0
  have u1 : a1.tmps.getD 1 undef = .pointer (some ⟨b, o, none⟩) := (k2.frame 1 (show ¬ (1 : Nat) ∈ [7, 8, 9, 10, 3] by decide)).trans ht1
  have u3 := k2.val k1
  have usz := k2.size
  have ude : a1.defers = [] := k2.defers.trans hde
  clear k1 k2 s1 ρ1 hsz hde ht0 ht1
  -- region 1
  refine wpIn_seq (region_split (G := []) (nt := 38) (s := ⟨[(1, .rop [.v x])] ++ anyS (List.range 38), [], 0⟩) (ds := ⟨[], (· ∈ [11, 12, 13, 14]), a1.tmps⟩) .nil 2 (by decide) (K := fun s => slot s.t 12 = .v x) (by kernel_rfl) (fun j hj => hj) ?_ (SR.anew (ltI hs1) (slots_R usz ?_) usz ude (fun _ _ => rfl)) ?_)
  · refine regP_go (K1 := fun t _ => slot t 12 = .v x) ?_
    simp only [go_sem, List.range, List.range.loop]
  · intro p hp; simp only [List.mem_singleton] at hp; subst hp; dsimp only; rw [u1]; exact keepR hvx hs1
  intro s2 ρ2 a2 w2 k1 k2
  have bel2 : RowKit.Below w1.heap.size w1 w2 := k2.rel.below
  have hs2 : Same I w w2 := hs1.trans (Same.of_below bel2 (ltI hs1))
  have hj2 : J 0 w2 := hJ 0 w1 w2 hj1 bel2
  have v0 := (k2.frame 0 (show ¬ (0 : Nat) ∈ [11, 12, 13, 14] by decide)).trans u0
  have v1 := (k2.frame 1 (show ¬ (1 : Nat) ∈ [11, 12, 13, 14] by decide)).trans u1
  have v3 := (k2.frame 3 (show ¬ (3 : Nat) ∈ [11, 12, 13, 14] by decide)).trans u3
  have v12 := k2.val k1
  have vsz := k2.size
  have vde : a2.defers = [] := k2.defers
  clear k1 k2 s2 ρ2 usz ude u0 u1 u3 bel1 bel2 hj1 hs1
  refine region_rest (G := []) (nt := 38) (s := ⟨[(12, .ro n 2 (sg g))] ++ anyS (List.range 38), [], 0⟩) (ds := ⟨[], (· ∈ [13, 14]), a2.tmps⟩) .nil 2 (by decide) (K := fun s => slot s.t 13 = i64 n ∧ slot s.t 14 = i64 0) (by kernel_rfl) (fun j hj => hj) ?_ (SR.anew (ltI hs2) (slots_R vsz ?_) vsz vde (fun _ _ => rfl)) ?_
  · refine regP_go (K1 := fun t _ => slot t 13 = i64 n ∧ slot t 14 = i64 0) ?_
    simp only [go_sem, List.range, List.range.loop]
  · intro p hp; simp only [List.mem_singleton] at hp; subst hp; dsimp only; rw [v12]; exact keepR hxr hs2
  intro s3 ρ3 a3 w3 k1 k2
  have bel3 : RowKit.Below w2.heap.size w2 w3 := k2.rel.below
  have hs3 : Same I w w3 := hs2.trans (Same.of_below bel3 (ltI hs2))
  have hAt0 : At57 I w J l n (.pointer (some ⟨b, o, none⟩)) x 0 a3 w3 :=
    ⟨k2.size, k2.defers, (k2.frame 0 (show ¬ (0 : Nat) ∈ [13, 14] by decide)).trans v0, (k2.frame 1 (show ¬ (1 : Nat) ∈ [13, 14] by decide)).trans v1, (k2.frame 3 (show ¬ (3 : Nat) ∈ [13, 14] by decide)).trans v3,
      (k2.frame 12 (show ¬ (12 : Nat) ∈ [13, 14] by decide)).trans v12, k2.val k1.1, k2.val k1.2, Nat.zero_le _, hJ 0 w2 w3 hj2 bel3, hs3⟩
  clear k1 k2 s3 ρ3 bel3 hs3 hj2 hs2 v0 v1 v3 v12 vsz vde
  refine wpIn_block (wpIn_loop_rounds (n + 1) ?_)
  obtain ⟨i, hAt, hlt⟩ : ∃ i, At57 I w J l n (.pointer (some ⟨b, o, none⟩)) x i a3 w3 ∧ n - i < n + 1 := ⟨0, hAt0, by omega⟩
  clear hAt0
  generalize n + 1 = fuel at hlt ⊢
  induction fuel generalizing i a3 w3 with
  | zero => omega
  | succ fuel ih =>
  rw [roundsIn_succ]
  -- the guard
  refine wpIn_seq (pieceI (G := []) (H := []) .nil hm (l := [(13, i64 n), (14, i64 i)]) (W := [15]) (K := fun e s => match e with | .normal => slot s.t 15 = bo (decide ((i : Int) < n)) | _ => False) (by kernel_rfl) (by kernel_rfl) (by kernel_rfl) ?_ (ltI hAt.same) hAt.sz ?_ ?_)
  · refine awp_go (K1 := fun e t _ => match e with | .normal => slot t 15 = bo (decide ((i : Int) < n)) | _ => False) ?_
    simp only [go_sem, List.range, List.range.loop]
  · intro p hp
    simp only [List.mem_cons, List.mem_singleton, List.not_mem_nil, or_false] at hp
    rcases hp with rfl | rfl
    · dsimp only; rw [hAt.t13]; exact .v
    · dsimp only; rw [hAt.t14]; exact .v
  intro e s1 ρ1 a1 w1 k1 k2
  cases e with
  | exit j => exact k1.elim
  | ret => exact k1.elim
  | normal =>
  have bel1 : RowKit.Below w3.heap.size w3 w1 := k2.rel.below
  have hs1 : Same I w w1 := hAt.same.trans (Same.of_below bel1 (ltI hAt.same))
  have hj1 : J i w1 := hJ i w3 w1 hAt.j bel1
  have v15 := k2.val k1
  have d1 : a1.defers = [] := k2.defers.trans hAt.de
  have z1 := k2.size
  have f1 : ∀ j, ¬ j ∈ [15] → a1.tmps.getD j undef = a3.tmps.getD j undef := k2.frame
  clear k1 k2 s1 ρ1
  refine wpIn_seq (wpIn_cond_split (t := decide ((i : Int) < n)) v15 ?_ ?_)
  case refine_2 =>
    intro hf
    have hin : i = n := by have := hAt.le; simp at hf; omega
    subst hin
    refine wpIn_exit ?_
    show LeavesInM Fence.wide nn Try.prog Try.f57 a1.tmps _ a1.defers .returning w1
    exact leave_nil d1 rfl fun v => ⟨⟨v, rfl⟩, .inl hj1⟩
  intro ht
  have hin : i < n := by simp at ht; omega
  refine wpIn_skip ?_
  have r0 : gx (sg g) 0 i = gx g 0 i := rfl
  obtain ⟨K1, hK1⟩ : ∃ K1 : Slots → Prop, K1 = fun t => slot t 32 = .v (.func (.yield l) #[] #[]) ∧ [slot t 33, slot t 34] = edgeE n g i := ⟨_, rfl⟩
  refine wpIn_seq (wpIn_block (piece3 (G := []) (H := []) .nil hm (k := 3) (K1 := K1) (l := [(0, .v (.func (.yield l) #[] #[])), (1, .rop [.ro n 2 (sg g)]), (3, i64 (IntKind.i64.wrap (n - 1))), (12, .ro n 2 (sg g)), (14, i64 i)]) (by decide) (by kernel_rfl) (by kernel_rfl) rfl ?_ (ltI hs1) z1 ?_ ?_))
  · show goC Try.prog [] [] (preK Try.prog [] _ 3 K1) _ [] _
    simp only [go_sem, List.range, List.range.loop, preK_normal, sg_eq]
    have hw : IntKind.i64.wrap ((n : Int) - 1) = n - 1 := wrap_in (by unfold inR; omega)
    subst hK1
    refine ⟨by omega, by omega, by omega, fun h z hz => ?_, fun h => ?_⟩
    · rw [hw] at h
      have e1 : IntKind.i64.wrap ((i : Int) + 1) = i + 1 := wrap_in (by unfold inR; omega)
      rw [e1] at hz
      have e2 : z.toNat = i + 1 := by omega
      have e3 : nxt n i = i + 1 := by unfold nxt; rw [if_pos (by omega)]
      refine ⟨by omega, by omega, ?_⟩
      simp only [slot_cons, Nat.reduceEqDiff, if_true, if_false, reduceIte, true_and, edgeE, e3, e2, gx]
    · rw [hw] at h
      have e3 : nxt n i = 0 := by unfold nxt; rw [if_neg (by omega)]
      simp only [slot_cons, Nat.reduceEqDiff, if_true, if_false, reduceIte, true_and, edgeE, e3, gx]
  · intro p hp
    simp only [List.mem_cons, List.mem_singleton, List.not_mem_nil, or_false] at hp
    rcases hp with rfl | rfl | rfl | rfl | rfl
    · dsimp only; rw [f1 0 (by decide), hAt.t0]; exact .v
    · dsimp only; rw [f1 1 (by decide), hAt.t1]; exact keepR hvr hs1
    · dsimp only; rw [f1 3 (by decide), hAt.t3]; exact .v
    · dsimp only; rw [f1 12 (by decide), hAt.t12]; exact keepR hxr hs1
    · dsimp only; rw [f1 14 (by decide), hAt.t14]; exact .v
  intro t' m' D' ρ' a2 w2 k1 k2
  subst hK1
  have bel2 : RowKit.Below w1.heap.size w1 w2 := k2.rel.below
  have hs2 : Same I w w2 := hs1.trans (Same.of_below bel2 (ltI hs1))
  have hj2 : J i w2 := hJ i w1 w2 hj1 bel2
  have v32 := k2.val k1.1
  have e33 : slot t' 33 = .agg [i64 (gx g 0 i), i64 (gx g 1 i)] := by have := k1.2; unfold edgeE at this; simpa using (List.cons.inj this).1
  have e34 : slot t' 34 = .agg [i64 (gx g 0 (nxt n i)), i64 (gx g 1 (nxt n i))] := by have := k1.2; unfold edgeE at this; simpa using (List.cons.inj (List.cons.inj this).2).1
  have hargs : Rs w2 (.ext I) (edgeE n g i) [a2.tmps.getD 33 undef, a2.tmps.getD 34 undef] := by
    have q33 := k2.slots 33
    have q34 := k2.slots 34
    rw [e33] at q33
    rw [e34] at q34
    exact .cons (plain_sound 3 rfl q33) (.cons (plain_sound 3 rfl q34) .nil)
  have d2 : a2.defers = [] := k2.defers.trans d1
  have z2 := k2.size
  have f2 := k2.frame
  clear k1 e33 e34
  rw [show List.range' 3 (Array.size _ - 3) = [3, 4] from rfl]
  have z35 : 35 < a2.tmps.size := by rw [z2]; decide
  refine wpOps_free rfl rfl (yield_op (l := l) [a2.tmps.getD 33 undef, a2.tmps.getD 34 undef] rfl v32 (by simp [Act.eval]) (hy i w2 _ hin hj2 hs2 hargs) ?_)
  intro e W hpost
  obtain ⟨r, he, hsm, hjt, hjf⟩ : ∃ r, e = .returned (.bool r) ∧ Same I w2 W ∧ (r = true → J (i + 1) W) ∧ (r = false → Jx W) := by
    obtain ⟨hsm, ⟨rfl, hj⟩ | ⟨rfl, hj⟩⟩ := hpost
    · exact ⟨true, rfl, hsm, fun _ => hj, fun h => (by cases h)⟩
    · exact ⟨false, rfl, hsm, fun h => (by cases h), fun _ => hj⟩
  subst he
  refine ⟨_, rfl, ?_⟩
  show wpOpsIn (Fw none) nn Try.prog _ _ [4] (a2.put (some 35) (.bool r)) W
  have hs4 : Same I w W := hs2.trans hsm
  refine region_rest (G := []) (nt := 38) (s := ⟨[(35, bo r)] ++ anyS (List.range 38), [], 0⟩) (ds := ⟨[], (· ∈ [36]), (a2.put (some 35) (.bool r)).tmps⟩) .nil 4 (by decide) (K := fun s => slot s.t 36 = bo (!r)) (by kernel_rfl) (fun j hj => hj) ?_ (SR.anew (ltI hs4) (slots_R ((put_size _ _).trans z2) ?_) ((put_size _ _).trans z2) d2 (fun _ _ => rfl)) ?_
  · refine regP_go (K1 := fun t _ => slot t 36 = bo (!r)) ?_
    simp only [go_sem, List.range, List.range.loop]
  · intro p hp; simp only [List.mem_singleton] at hp; subst hp; dsimp only; rw [put_at z35]; exact .v
  intro s5 ρ5 a5 w5 q1 q2
  have bel5 : RowKit.Below W.heap.size W w5 := q2.rel.below
  have hs5 : Same I w w5 := hs4.trans (Same.of_below bel5 (ltI hs4))
  have d5 : a5.defers = [] := q2.defers
  have z5 := q2.size
  have f5 : ∀ j, ¬ j ∈ [36] → 35 ≠ j → a5.tmps.getD j undef = a2.tmps.getD j undef := fun j h1 h2 => (q2.frame j h1).trans (put_not z35 h2)
  have v36 := q2.val q1
  clear q1 q2
  refine wpIn_cond_split v36 (fun hb => ?_) (fun hb => ?_)
  · have hr : r = false := by simpa using hb
    have hjx : Jx w5 := hJx W w5 (hjf hr) bel5
    refine wpIn_ret ?_
    show LeavesInM Fence.wide nn Try.prog Try.f57 a5.tmps _ a5.defers .returning w5
    exact leave_nil d5 rfl fun v => ⟨⟨v, rfl⟩, .inr hjx⟩
  · have hr : r = true := by simpa using hb
    have hj5 : J (i + 1) w5 := hJ (i + 1) W w5 (hjt hr) bel5
    refine wpIn_skip ?_
    show Code.wpIn Fence.wide nn Try.prog (Code.region 8 _ false) _ a5 w5
    have g2 : ∀ j, ¬ j ∈ [15] → ¬ j ∈ [16, 17, 18, 5, 4, 19, 20, 21, 22, 6, 23, 24, 25, 26, 27, 28, 29, 30, 31, 32, 33, 34, 35, 36] → a5.tmps.getD j undef = a3.tmps.getD j undef := fun j h1 h2 => by
      rw [f5 j (fun h => h2 (by simp at h; subst h; decide)) (fun h => h2 (by subst h; decide)), f2 j h2, f1 j h1]
    refine pieceI (G := []) (H := []) .nil hm (l := [(14, i64 i)]) (W := [37, 14]) (K := fun e s => match e with | .normal => slot s.t 14 = i64 (i + 1) | _ => False) (by kernel_rfl) (by kernel_rfl) (by kernel_rfl) ?_ (ltI hs5) z5 ?_ ?_
    · refine awp_go (K1 := fun e t _ => match e with | .normal => slot t 14 = i64 (i + 1) | _ => False) ?_
      simp only [go_sem, List.range, List.range.loop]
      intro z hz
      have e1 : IntKind.i64.wrap ((i : Int) + 1) = i + 1 := wrap_in (by unfold inR; omega)
      rw [hz, e1]
    · intro p hp; simp only [List.mem_singleton] at hp; subst hp; dsimp only; rw [g2 14 (by decide) (by decide), hAt.t14]; exact .v
    intro e s6 ρ6 a6 w6 q1 q2
    cases e with
    | exit j => exact q1.elim
    | ret => exact q1.elim
    | normal =>
    have bel6 : RowKit.Below w5.heap.size w5 w6 := q2.rel.below
    have f6 : ∀ j, ¬ j ∈ [37, 14] → a6.tmps.getD j undef = a5.tmps.getD j undef := q2.frame
    refine ih a6 w6 (i + 1) ⟨q2.size, q2.defers.trans d5, ?_, ?_, ?_, ?_, ?_, ?_, by omega, hJ (i + 1) w5 w6 hj5 bel6, hs5.trans (Same.of_below bel6 (ltI hs5))⟩ (by omega)
    · rw [f6 0 (by decide), g2 0 (by decide) (by decide), hAt.t0]
    · rw [f6 1 (by decide), g2 1 (by decide) (by decide), hAt.t1]
    · rw [f6 3 (by decide), g2 3 (by decide) (by decide), hAt.t3]
    · rw [f6 12 (by decide), g2 12 (by decide) (by decide), hAt.t12]
    · rw [f6 13 (by decide), g2 13 (by decide) (by decide), hAt.t13]
    · have := q2.val q1; rw [this]; rfl
end Go.Ax
