/-
  Whether forms are apart.
-/
import Derived.Test.YtlpbblcepjlfpaaCM4
section
set_option linter.unusedVariables false
set_option linter.unusedSimpArgs false
set_option maxHeartbeats 4000000
set_option maxRecDepth 100000
namespace Go.Ax
open Go.Proofs
/-- Whether discs are apart. -/
def ddS (x y r a b s : Int) : Bool := decide (IntKind.i64.wrap (IntKind.i64.wrap (r + s) * IntKind.i64.wrap (r + s)) < dtW (mnW x a) (mnW y b) (mnW x a) (mnW y b))
theorem Rs_if {w : World} {ρ : Env} {t : TypeId} {a a' : AV} (h : ∀ v, R w ρ a v → R w ρ a' v) (v : Value) (hR : R w ρ (.iface t a) v) : R w ρ (.iface t a') v := by
  cases hR with
  | iface hh => exact .iface (h _ hh)
def c90a : Con
  | [.iface 82 (.agg [.ro n 2 g]), .iface 78 (.agg [.v (.int .i64 x), .v (.int .i64 y), .v (.int .i64 r)])] => some ([spots n g, n ≤ 9223372036854775806, ∀ i, i < n → validS (gx g 0 i) (gx g 1 i) = true, validS x y = true], bo (outS n (gx g 0) (gx g 1) x y r))
  | _ => none
theorem vc90a (n : Nat) (X Y : Nat → Int) (x y r : Int) (hX : ∀ i, i < n → inR (X i) ∧ inR (Y i)) (hn : n ≤ 9223372036854775806) (vX : ∀ i, i < n → validS (X i) (Y i) = true) (vC : validS x y = true) :
    fnVC Try.prog [(36, c36), (1000000 + 55, c55), (35, c35), (37, c37)] [(8, ⟨[(15, .slot 4)], []⟩)] Try.f18 [.iface 82 (.agg [.ro n 2 fun i => [i64 (X i), i64 (Y i)]]), .iface 78 (.agg [i64 x, i64 y, i64 r])] (· = bo (outS n X Y x y r)) := by
  refine fnVC_go (rs := [.cell 4 4]) rfl rfl ?_
  simp only [go_sem, c36, c35]
  simp only [false_imp_iff, true_imp_iff, reduceCtorEq, true_and, and_true, Bool.false_eq_true]
  have hg : spots n fun i => [i64 (X i), i64 (Y i)] := fun i hi => ⟨rfl, hX i hi⟩
  intro z hz
  refine ⟨hg, hn, vX, vC, fun h => ?_, fun h => ?_⟩
  · refine (decide_eq_false fun hq => ?_).symm
    have hz : z = inS n X Y x y := hz
    rw [← hz, h] at hq
    exact absurd hq.1 (by simp)
  refine rangeC_go (fun (i : Nat) => i ≤ n ∧ ∀ j, j < i → farS (X j) (Y j) (X (nxt n j)) (Y (nxt n j)) x y r = true) (fun i => i) (fun _ => []) [14, 8, 0] [63, 64, 11, 12, 65, 66, 67, 68, 69, 70, 71, 72] 0 0 (N := n) (sq := edgeE n fun i => [i64 (X i), i64 (Y i)]) (ob := [spots n fun i => [i64 (X i), i64 (Y i)], n ≤ 9223372036854775806]) rfl (by simp [hg, hn]) (by kernel_rfl) rfl (fun i _ => ⟨rfl, rfl⟩) ⟨Nat.zero_le _, fun j hj => by omega⟩ rfl ⟨[], ?_, ?_, ?_⟩ ?_ ?_
  · simp only [go_sem]
  · simp only [go_sem]
  · simp [goodNames, asg]
  · intro i hi hlt
    simp only [go_sem, edgeE, c37]
    refine fun z1 hz1 => ⟨fun h2 => ?_, fun h2 => ⟨i + 1, ⟨by have : i < n := hlt; omega, fun j hj => ?_⟩, rfl, [], ?_⟩⟩
    · refine (decide_eq_false fun hq => ?_).symm
      have := hq.2 i hlt
      rw [← hz1, h2] at this; cases this
    · by_cases e : j = i
      · subst e; rw [← hz1]; exact h2
      · exact hi.2 j (by omega)
    · simp [goodNames]
  · intro i hi he
    simp only [go_sem]
    have hz : z = inS n X Y x y := hz
    exact (decide_eq_true ⟨by rw [← hz, h], fun j hj => hi.2 j (by omega)⟩).symm
theorem con90a : ConOK Try.prog 18 c90a := ConOK.go (G := [(36, c36), (1000000 + 55, c55), (35, c35), (37, c37)]) (H := [(8, ⟨[(15, .slot 4)], []⟩)]) (.cons con36 (.seq seq55 (.cons con35 (.cons con37 .nil)))) Try.func18 fun l ob rr hc hob => by
  unfold c90a at hc
  split at hc
  · rename_i n g x y r
    cases hc
    have hs : spots n g := hob _ (by simp)
    refine ⟨[.iface 82 (.agg [.ro n 2 fun i => [i64 (gx g 0 i), i64 (gx g 1 i)]]), .iface 78 (.agg [i64 x, i64 y, i64 r])], fun w I vs h => Rs_two (Rs_if (Rs_poly hs)) (fun v h => h) h, by kernel_rfl, vc90a n _ _ x y r (fun i hi => (hs i hi).2) (hob _ (by simp)) (hob _ (by simp)) (hob _ (by simp))⟩
  · cases hc
theorem vc90d (x y r a b s : Int) :
    fnVC Try.prog [(33, c33), (34, c34)] [(8, ⟨[(15, .slot 4)], []⟩)] Try.f18 [.iface 78 (.agg [i64 x, i64 y, i64 r]), .iface 78 (.agg [i64 a, i64 b, i64 s])] (· = bo (ddS x y r a b s)) := by
  refine fnVC_go (rs := [.cell 4 4]) rfl rfl ?_
  simp only [go_sem, c33, c34]
  simp only [false_imp_iff, true_imp_iff, reduceCtorEq, true_and, and_true, Bool.false_eq_true]
  simp only [forall_eq]
  rfl
theorem vc90e (n : Nat) (g : Nat → List AV) (x y r : Int) (hg : spots n g) (hn : n ≤ 9223372036854775806) (vX : ∀ i, i < n → validS (gx g 0 i) (gx g 1 i) = true) (vC : validS x y = true) :
    fnVC Try.prog [(18, c90a)] [(8, ⟨[(15, .slot 4)], []⟩)] Try.f18 [.iface 78 (.agg [i64 x, i64 y, i64 r]), .iface 82 (.agg [.ro n 2 g])] (· = bo (outS n (gx g 0) (gx g 1) x y r)) := by
  refine fnVC_go (rs := [.cell 4 4]) rfl rfl ?_
  simp only [go_sem, c90a]
  simp only [false_imp_iff, true_imp_iff, reduceCtorEq, true_and, and_true, Bool.false_eq_true]
  exact fun z hz => ⟨hg, hn, vX, vC, hz⟩
theorem vc90f (n : Nat) (g : Nat → List AV) (m : Nat) (g' : Nat → List AV) (hg : spots n g) (hn : n ≤ 9223372036854775806) (vX : ∀ i, i < n → validS (gx g 0 i) (gx g 1 i) = true) (hg' : spots m g') (hm : m ≤ 9223372036854775806) (vZ : ∀ i, i < m → validS (gx g' 0 i) (gx g' 1 i) = true) :
    fnVC Try.prog [(38, c38)] [(8, ⟨[(15, .slot 4)], []⟩)] Try.f18 [.iface 82 (.agg [.ro n 2 g]), .iface 82 (.agg [.ro m 2 g'])] (· = bo (clrS n (gx g 0) (gx g 1) m (gx g' 0) (gx g' 1) || clrS m (gx g' 0) (gx g' 1) n (gx g 0) (gx g 1))) := by
  refine fnVC_go (rs := [.cell 4 4]) rfl rfl ?_
  simp only [go_sem, c38]
  simp only [false_imp_iff, true_imp_iff, reduceCtorEq, true_and, and_true, Bool.false_eq_true]
  exact fun z hz => ⟨hg, hg', hn, hm, vX, vZ, fun z1 hz1 => ⟨fun _ => hg', fun _ => hg, fun _ => hm, fun _ => hn, fun _ => vZ, fun _ => vX, by rw [hz, hz1]⟩⟩
def c90d : Con
  | [.iface 78 (.agg [.v (.int .i64 x), .v (.int .i64 y), .v (.int .i64 r)]), .iface 78 (.agg [.v (.int .i64 a), .v (.int .i64 b), .v (.int .i64 s)])] => some ([], bo (ddS x y r a b s))
  | _ => none
theorem con90d : ConOK Try.prog 18 c90d := ConOK.go (G := [(33, c33), (34, c34)]) (H := [(8, ⟨[(15, .slot 4)], []⟩)]) (.cons con33 (.cons con34 .nil)) Try.func18 fun l ob rr hc hob => by
  unfold c90d at hc
  split at hc
  · rename_i x y r a b s
    cases hc
    exact ⟨_, fun w I vs h => h, by kernel_rfl, vc90d x y r a b s⟩
  · cases hc
def c90e : Con
  | [.iface 78 (.agg [.v (.int .i64 x), .v (.int .i64 y), .v (.int .i64 r)]), .iface 82 (.agg [.ro n 2 g])] => some ([spots n g, n ≤ 9223372036854775806, ∀ i, i < n → validS (gx g 0 i) (gx g 1 i) = true, validS x y = true], bo (outS n (gx g 0) (gx g 1) x y r))
  | _ => none
theorem con90e : ConOK Try.prog 18 c90e := ConOK.go (G := [(18, c90a)]) (H := [(8, ⟨[(15, .slot 4)], []⟩)]) (.cons con90a .nil) Try.func18 fun l ob rr hc hob => by
  unfold c90e at hc
  split at hc
  · rename_i x y r n g
    cases hc
    exact ⟨_, fun w I vs h => h, by kernel_rfl, vc90e n g x y r (hob _ (by simp)) (hob _ (by simp)) (hob _ (by simp)) (hob _ (by simp))⟩
  · cases hc
def c90f : Con
  | [.iface 82 (.agg [.ro n 2 g]), .iface 82 (.agg [.ro m 2 g'])] => some ([spots n g, n ≤ 9223372036854775806, ∀ i, i < n → validS (gx g 0 i) (gx g 1 i) = true, spots m g', m ≤ 9223372036854775806, ∀ i, i < m → validS (gx g' 0 i) (gx g' 1 i) = true], bo (clrS n (gx g 0) (gx g 1) m (gx g' 0) (gx g' 1) || clrS m (gx g' 0) (gx g' 1) n (gx g 0) (gx g 1)))
  | _ => none
theorem con90f : ConOK Try.prog 18 c90f := ConOK.go (G := [(38, c38)]) (H := [(8, ⟨[(15, .slot 4)], []⟩)]) (.cons con38 .nil) Try.func18 fun l ob rr hc hob => by
  unfold c90f at hc
  split at hc
  · rename_i n g m g'
    cases hc
    exact ⟨_, fun w I vs h => h, by kernel_rfl, vc90f n g m g' (hob _ (by simp)) (hob _ (by simp)) (hob _ (by simp)) (hob _ (by simp)) (hob _ (by simp)) (hob _ (by simp))⟩
  · cases hc
def c18 (l : List AV) : Option (List Prop × AV) := match l with
  | [.iface 82 _, .iface 78 _] => c90a l
  | [.iface 78 _, .iface 82 _] => c90e l
  | [.iface 78 _, .iface 78 _] => c90d l
  | [.iface 82 _, .iface 82 _] => c90f l
  | [.iface 78 _, .v .nilIface] => some ([False], bo false)
  | [.iface 82 _, .v .nilIface] => some ([False], bo false)
  | [.v .nilIface, .iface 78 _] => some ([False], bo false)
  | [.v .nilIface, .iface 82 _] => some ([False], bo false)
  | [.v .nilIface, .v .nilIface] => some ([False], bo false)
  | _ => none
theorem con18 : ConOK Try.prog 18 c18 := fun l ob rr hc hob => by
  unfold c18 at hc
  split at hc
  · exact con90a _ _ _ hc hob
  · exact con90e _ _ _ hc hob
  · exact con90d _ _ _ hc hob
  · exact con90f _ _ _ hc hob
  · cases hc; exact (hob False (by simp)).elim
  · cases hc; exact (hob False (by simp)).elim
  · cases hc; exact (hob False (by simp)).elim
  · cases hc; exact (hob False (by simp)).elim
  · cases hc; exact (hob False (by simp)).elim
  · cases hc
end Go.Ax
end

section
/-
  Whether forms are apart: the two.
-/
set_option linter.unusedVariables false
set_option linter.unusedSimpArgs false
set_option maxHeartbeats 4000000
set_option maxRecDepth 100000
namespace Go.Ax
open Go.Proofs
def apS (k x y r : Int) (n : Nat) (X Y : Nat → Int) (k' x' y' r' : Int) (m : Nat) (Z T : Nat → Int) : Bool :=
  if checkS k x y r n X Y = 0 ∧ checkS k' x' y' r' m Z T = 0 then
    (if k = 1 then (if k' = 1 then ddS x y r x' y' r' else outS m Z T x y r) else if k' = 1 then outS n X Y x' y' r' else (clrS n X Y m Z T || clrS m Z T n X Y))
  else false
def bothS (k x y r : Int) (n : Nat) (g : Nat → List AV) (k' x' y' r' : Int) (m : Nat) (g' : Nat → List AV) : AV := if checkS k x y r n (gx g 0) (gx g 1) = 0 then (if k = 1 then (if checkS k' x' y' r' m (gx g' 0) (gx g' 1) = 0 then (if k' = 1 then .tup [.iface 78 (.agg [i64 x, i64 y, i64 r]), .iface 78 (.agg [i64 x', i64 y', i64 r']), bo true] else .tup [.iface 78 (.agg [i64 x, i64 y, i64 r]), .iface 82 (.agg [.ro m 2 g']), bo true]) else .tup [.iface 78 (.agg [i64 x, i64 y, i64 r]), .v .nilIface, bo false]) else (if checkS k' x' y' r' m (gx g' 0) (gx g' 1) = 0 then (if k' = 1 then .tup [.iface 82 (.agg [.ro n 2 g]), .iface 78 (.agg [i64 x', i64 y', i64 r']), bo true] else .tup [.iface 82 (.agg [.ro n 2 g]), .iface 82 (.agg [.ro m 2 g']), bo true]) else .tup [.iface 82 (.agg [.ro n 2 g]), .v .nilIface, bo false])) else (if checkS k' x' y' r' m (gx g' 0) (gx g' 1) = 0 then (if k' = 1 then .tup [.v .nilIface, .iface 78 (.agg [i64 x', i64 y', i64 r']), bo false] else .tup [.v .nilIface, .iface 82 (.agg [.ro m 2 g']), bo false]) else .tup [.v .nilIface, .v .nilIface, bo false])
def c17 : Con
  | [.agg [.v (.int .i64 k), .v (.int .i64 x), .v (.int .i64 y), .v (.int .i64 r), .ro n 2 g], .agg [.v (.int .i64 k'), .v (.int .i64 x'), .v (.int .i64 y'), .v (.int .i64 r'), .ro m 2 g']] => some ([spots n g, spots m g', n ≤ 9223372036854775806, m ≤ 9223372036854775806, inR x, inR y, inR r, inR x', inR y', inR r'],
      bothS k x y r n g k' x' y' r' m g')
  | _ => none
theorem vc17 (k x y r : Int) (n : Nat) (g : Nat → List AV) (k' x' y' r' : Int) (m : Nat) (g' : Nat → List AV) (hg : spots n g) (hg' : spots m g') (hn : n ≤ 9223372036854775806) (hm : m ≤ 9223372036854775806) (h1 : inR x) (h2 : inR y) (h3 : inR r) (h4 : inR x') (h5 : inR y') (h6 : inR r') :
    fnVC Try.prog [(22, c22)] [] Try.f17 [formA k x y r n g, formA k' x' y' r' m g'] (· = bothS k x y r n g k' x' y' r' m g') := by
  refine fnVC_go (rs := [.tmp 4, .tmp 5, .tmp 6]) rfl rfl ?_
  simp only [go_sem, c22]
  exact ⟨fun hA => ⟨fun hk => ⟨hg, hn, h1, h2, h3, fun hB => ⟨fun hk' => ⟨hg', hm, h4, h5, h6, by unfold bothS; rw [if_pos hA, if_pos hk, if_pos hB, if_pos hk']⟩, fun hk' => ⟨hg', hm, h4, h5, h6, by unfold bothS; rw [if_pos hA, if_pos hk, if_pos hB, if_neg hk']⟩⟩, fun hB => ⟨hg', hm, h4, h5, h6, by unfold bothS; rw [if_pos hA, if_pos hk, if_neg hB]⟩⟩, fun hk => ⟨hg, hn, h1, h2, h3, fun hB => ⟨fun hk' => ⟨hg', hm, h4, h5, h6, by unfold bothS; rw [if_pos hA, if_neg hk, if_pos hB, if_pos hk']⟩, fun hk' => ⟨hg', hm, h4, h5, h6, by unfold bothS; rw [if_pos hA, if_neg hk, if_pos hB, if_neg hk']⟩⟩, fun hB => ⟨hg', hm, h4, h5, h6, by unfold bothS; rw [if_pos hA, if_neg hk, if_neg hB]⟩⟩⟩, fun hA => ⟨hg, hn, h1, h2, h3, fun hB => ⟨fun hk' => ⟨hg', hm, h4, h5, h6, by unfold bothS; rw [if_neg hA, if_pos hB, if_pos hk']⟩, fun hk' => ⟨hg', hm, h4, h5, h6, by unfold bothS; rw [if_neg hA, if_pos hB, if_neg hk']⟩⟩, fun hB => ⟨hg', hm, h4, h5, h6, by unfold bothS; rw [if_neg hA, if_neg hB]⟩⟩⟩
theorem con17 : ConOK Try.prog 17 c17 := ConOK.go (G := [(22, c22)]) (H := []) (.cons con22 .nil) Try.func17 fun l ob rr hc hob => by
  unfold c17 at hc
  split at hc
  · rename_i k x y r n g k' x' y' r' m g'
    cases hc
    exact ⟨_, fun w I vs h => h, by kernel_rfl, vc17 k x y r n g k' x' y' r' m g' (hob _ (by simp)) (hob _ (by simp)) (hob _ (by simp)) (hob _ (by simp)) (hob _ (by simp)) (hob _ (by simp)) (hob _ (by simp)) (hob _ (by simp)) (hob _ (by simp)) (hob _ (by simp))⟩
  · cases hc
theorem vc7 (k x y r : Int) (n : Nat) (g : Nat → List AV) (k' x' y' r' : Int) (m : Nat) (g' : Nat → List AV) (hg : spots n g) (hg' : spots m g') (hn : n ≤ 9223372036854775806) (hm : m ≤ 9223372036854775806) (h1 : inR x) (h2 : inR y) (h3 : inR r) (h4 : inR x') (h5 : inR y') (h6 : inR r') :
    fnVC Try.prog [(17, c17), (18, c18)] [] Try.f7 [formA k x y r n g, formA k' x' y' r' m g'] (· = bo (apS k x y r n (gx g 0) (gx g 1) k' x' y' r' m (gx g' 0) (gx g' 1))) := by
  refine fnVC_go (rs := [.tmp 4]) rfl rfl ?_
  simp only [go_sem, c17, bothS, c18, c90a, c90d, c90e, c90f]
  refine ⟨fun hA => ⟨fun hk => ⟨fun hB => ⟨fun hk' => ?_, fun hk' => ?_⟩, fun hB => ?_⟩, fun hk => ⟨fun hB => ⟨fun hk' => ?_, fun hk' => ?_⟩, fun hB => ?_⟩⟩, fun hA => ⟨fun hB => ⟨fun hk' => ?_, fun hk' => ?_⟩, fun hB => ?_⟩⟩
  · exact fun z hz => ⟨hg, hg', hn, hm, h1, h2, h3, h4, h5, h6, fun z1 hz1 => by rw [hz, hz1, Bool.true_and]; unfold apS; rw [if_pos ⟨hA, hB⟩, if_pos hk, if_pos hk']⟩
  · exact fun z hz => ⟨hg, hg', hn, hm, h1, h2, h3, h4, h5, h6, fun z1 hz1 => ⟨fun _ => hg', fun _ => hm, fun _ => (check_1 hB).2.2.1, fun _ => (check_1 hA).2.1, by rw [hz, hz1, Bool.true_and]; unfold apS; rw [if_pos ⟨hA, hB⟩, if_pos hk, if_neg hk']⟩⟩
  · exact fun z hz => ⟨hg, hg', hn, hm, h1, h2, h3, h4, h5, h6, fun z1 hz1 => ⟨fun h => (by rw [hz] at h; cases h), by rw [hz, Bool.false_and]; unfold apS; rw [if_neg (fun q => hB q.2)]⟩⟩
  · exact fun z hz => ⟨hg, hg', hn, hm, h1, h2, h3, h4, h5, h6, fun z1 hz1 => ⟨fun _ => hg, fun _ => hn, fun _ => (check_1 hA).2.2.1, fun _ => (check_1 hB).2.1, by rw [hz, hz1, Bool.true_and]; unfold apS; rw [if_pos ⟨hA, hB⟩, if_neg hk, if_pos hk']⟩⟩
  · exact fun z hz => ⟨hg, hg', hn, hm, h1, h2, h3, h4, h5, h6, fun z1 hz1 => ⟨fun _ => hg, fun _ => hn, fun _ => (check_1 hA).2.2.1, fun _ => hg', fun _ => hm, fun _ => (check_1 hB).2.2.1, by rw [hz, hz1, Bool.true_and]; unfold apS; rw [if_pos ⟨hA, hB⟩, if_neg hk, if_neg hk']⟩⟩
  · exact fun z hz => ⟨hg, hg', hn, hm, h1, h2, h3, h4, h5, h6, fun z1 hz1 => ⟨fun h => (by rw [hz] at h; cases h), by rw [hz, Bool.false_and]; unfold apS; rw [if_neg (fun q => hB q.2)]⟩⟩
  · exact fun z hz => ⟨hg, hg', hn, hm, h1, h2, h3, h4, h5, h6, fun z1 hz1 => ⟨fun h => (by rw [hz] at h; cases h), by rw [hz, Bool.false_and]; unfold apS; rw [if_neg (fun q => hA q.1)]⟩⟩
  · exact fun z hz => ⟨hg, hg', hn, hm, h1, h2, h3, h4, h5, h6, fun z1 hz1 => ⟨fun h => (by rw [hz] at h; cases h), by rw [hz, Bool.false_and]; unfold apS; rw [if_neg (fun q => hA q.1)]⟩⟩
  · exact fun z hz => ⟨hg, hg', hn, hm, h1, h2, h3, h4, h5, h6, fun z1 hz1 => ⟨fun h => (by rw [hz] at h; cases h), by rw [hz, Bool.false_and]; unfold apS; rw [if_neg (fun q => hA q.1)]⟩⟩
def c7 : Con
  | [.agg [.v (.int .i64 k), .v (.int .i64 x), .v (.int .i64 y), .v (.int .i64 r), .ro n 2 g], .agg [.v (.int .i64 k'), .v (.int .i64 x'), .v (.int .i64 y'), .v (.int .i64 r'), .ro m 2 g']] => some ([spots n g, spots m g', n ≤ 9223372036854775806, m ≤ 9223372036854775806, inR x, inR y, inR r, inR x', inR y', inR r'],
      bo (apS k x y r n (gx g 0) (gx g 1) k' x' y' r' m (gx g' 0) (gx g' 1)))
  | _ => none
theorem con7 : ConOK Try.prog 7 c7 := ConOK.go (G := [(17, c17), (18, c18)]) (H := []) (.cons con17 (.cons con18 .nil)) Try.func7 fun l ob rr hc hob => by
  unfold c7 at hc
  split at hc
  · rename_i k x y r n g k' x' y' r' m g'
    cases hc
    exact ⟨_, fun w I vs h => h, by kernel_rfl, vc7 k x y r n g k' x' y' r' m g' (hob _ (by simp)) (hob _ (by simp)) (hob _ (by simp)) (hob _ (by simp)) (hob _ (by simp)) (hob _ (by simp)) (hob _ (by simp)) (hob _ (by simp)) (hob _ (by simp)) (hob _ (by simp))⟩
  · cases hc
end Go.Ax
end

section
/-
  Whether an edge separates, by the law's own loops.
-/
set_option linter.unusedVariables false
set_option linter.unusedSimpArgs false
set_option maxHeartbeats 4000000
set_option maxRecDepth 100000
namespace Go.Ax
open Go.Proofs
end Go.Ax
end

section
/-
  Sine and cosine ars they are computed: their squares sum up to one, but for 2^-19. Plain arithmetic.
-/
set_option linter.unusedVariables false
namespace Go.Ax
def pev : List Int → Int → Int
  | [], _ => 0
  | c :: cs, y => c + y * pev cs y
def padd : List Int → List Int → List Int
  | [], q => q
  | a :: p, [] => a :: p
  | a :: p, b :: q => (a + b) :: padd p q
def psm (k : Int) : List Int → List Int
  | [] => []
  | a :: p => k * a :: psm k p
def pmul : List Int → List Int → List Int
  | [], _ => []
  | a :: p, q => padd (psm a q) (0 :: pmul p q)
def pcomp : List Int → List Int → List Int
  | [], _ => []
  | a :: p, q => padd [a] (pmul q (pcomp p q))
def pabs : List Int → Int → Int
  | [], _ => 0
  | c :: cs, B => (if c < 0 then -c else c) + B * pabs cs B
theorem pev_add (y : Int) : ∀ p q : List Int, pev (padd p q) y = pev p y + pev q y
  | [], q => by simp [padd, pev]
  | a :: p, [] => by simp [padd, pev]
  | a :: p, b :: q => by simp only [padd, pev, pev_add y p q]; grind
theorem pev_sm (k y : Int) : ∀ p : List Int, pev (psm k p) y = k * pev p y
  | [] => by simp [psm, pev]
  | a :: p => by simp only [psm, pev, pev_sm k y p]; grind
theorem pev_mul (y : Int) : ∀ p q : List Int, pev (pmul p q) y = pev p y * pev q y
  | [], q => by simp [pmul, pev]
  | a :: p, q => by simp only [pmul, pev, pev_add, pev_sm, pev_mul y p q]; grind
theorem pev_comp (y : Int) (q : List Int) : ∀ p : List Int, pev (pcomp p q) y = pev p (pev q y)
  | [] => by simp [pcomp, pev]
  | a :: p => by simp only [pcomp, pev, pev_add, pev_mul, pev_comp y q p]; grind
theorem pev_bd {y B : Int} (h0 : 0 ≤ y) (h1 : y ≤ B) : ∀ cs : List Int, 0 ≤ pabs cs B ∧ -(pabs cs B) ≤ pev cs y ∧ pev cs y ≤ pabs cs B
  | [] => by simp [pabs, pev]
  | c :: cs => by
    obtain ⟨k0, k1, k2⟩ := pev_bd h0 h1 cs
    have m1 : y * pev cs y ≤ y * pabs cs B := Int.mul_le_mul_of_nonneg_left k2 h0
    have m2 : y * -(pabs cs B) ≤ y * pev cs y := Int.mul_le_mul_of_nonneg_left k1 h0
    have m3 : y * pabs cs B ≤ B * pabs cs B := Int.mul_le_mul_of_nonneg_right h1 k0
    have m4 : 0 ≤ y * pabs cs B := Int.mul_nonneg h0 k0
    rw [Int.mul_neg] at m2
    simp only [pabs, pev]
    split <;> refine ⟨?_, ?_, ?_⟩ <;> omega
/-- The series, times 17! and a power of 2. -/
def serT : List Int := [0, 4768988719006436111262234168778648423474656980035636955663595829178822894077063921902894844467270927543474141934655026171951583604355055887615953102486438762529161216000, 0, (-43087899414213674021824125643264255072305462219207007284242456456798725817691141891220050084051744617156383553793407931128471747317646658681962496000), 0, 116789985381818398160573898299231102288065772677584217151319844983904676864291965346766500211691480339536943806187305008155852800, 0, (-150742804613711681364039825115385279235570281032314673924162220557576589258871909346252821120275293038182400), 0, 113496997394961198577319469229027706569291890953579835547744303126809085079968756531200, 0, (-55933495975544804015926845529165017287291580706094561614752645120), 0, 19436928798524005033027957576502600238366720, 0, (-5017514388048998039552), 0, 1]
def serN : Int := 4768988719006436111262234168778648423474656980035636955663595829178822894077063921902894844467270927543474141934655026171951583604355055887615953102486438762529161216000
def serG (q : Int) : List Int := padd (padd (pmul serT serT) (pmul (pcomp serT [q, -1]) (pcomp serT [q, -1]))) [-(serN * 4294967296 * (serN * 4294967296))]
theorem serG_small : pabs (serG 6746518852) 6746518852 * 1048576 ≤ serN * 4294967296 * (serN * 4294967296) := by decide +kernel
theorem serG_small' : pabs (serG 6746518851) 6746518851 * 1048576 ≤ serN * 4294967296 * (serN * 4294967296) := by decide +kernel
theorem pev_G {q y : Int} : pev (serG q) y = pev serT y * pev serT y + pev serT (q - y) * pev serT (q - y) - serN * 4294967296 * (serN * 4294967296) := by
  unfold serG
  simp only [pev_add, pev_mul, pev_comp, pev]
  have e : q + y * (-1 + y * 0) = q - y := by grind
  rw [e]
  generalize pev serT y = a
  generalize pev serT (q - y) = b
  generalize serN = n
  grind
theorem ser_circle {q y : Int} (hq : q = 6746518852 ∨ q = 6746518851) (h0 : 0 ≤ y) (h1 : y ≤ q) :
    -(serN * 4294967296 * (serN * 4294967296)) ≤ 1048576 * (pev serT y * pev serT y + pev serT (q - y) * pev serT (q - y) - serN * 4294967296 * (serN * 4294967296)) ∧
    1048576 * (pev serT y * pev serT y + pev serT (q - y) * pev serT (q - y) - serN * 4294967296 * (serN * 4294967296)) ≤ serN * 4294967296 * (serN * 4294967296) := by
  rw [← pev_G]
  obtain ⟨k0, k1, k2⟩ := pev_bd h0 h1 (serG q)
  have hs : pabs (serG q) q * 1048576 ≤ serN * 4294967296 * (serN * 4294967296) := by
    rcases hq with rfl | rfl
    · exact serG_small
    · exact serG_small'
  generalize serN * 4294967296 * (serN * 4294967296) = M at *
  omega


/-! ### The series ars it is computed -/
theorem td_err {x k : Int} (hk : 0 < k) : -k < x - x.tdiv k * k ∧ x - x.tdiv k * k < k := by
  rcases Int.le_total 0 x with h | h
  · rw [Int.tdiv_eq_ediv_of_nonneg h]
    have h1 := Int.emod_nonneg x (by omega : k ≠ 0)
    have h2 := Int.emod_lt_of_pos x hk
    have h3 := Int.emod_add_mul_ediv x k
    rw [Int.mul_comm k] at h3
    omega
  · have e : x.tdiv k = -((-x).tdiv k) := by rw [Int.neg_tdiv, Int.neg_neg]
    rw [e, Int.tdiv_eq_ediv_of_nonneg (by omega)]
    have h1 := Int.emod_nonneg (-x) (by omega : k ≠ 0)
    have h2 := Int.emod_lt_of_pos (-x) hk
    have h3 := Int.emod_add_mul_ediv (-x) k
    rw [Int.mul_comm k] at h3
    rw [Int.neg_mul]
    omega
theorem ab_mul {a b A B : Int} (ha : -A ≤ a ∧ a ≤ A) (hb : -B ≤ b ∧ b ≤ B) : -(A * B) ≤ a * b ∧ a * b ≤ A * B := by
  have hA : 0 ≤ A := by omega
  have hB : 0 ≤ B := by omega
  rcases Int.le_total 0 a with h | h
  · have k1 : a * b ≤ a * B := Int.mul_le_mul_of_nonneg_left hb.2 h
    have k2 : a * -B ≤ a * b := Int.mul_le_mul_of_nonneg_left hb.1 h
    have k3 : a * B ≤ A * B := Int.mul_le_mul_of_nonneg_right ha.2 hB
    rw [Int.mul_neg] at k2
    omega
  · have k1 : -a * b ≤ -a * B := Int.mul_le_mul_of_nonneg_left hb.2 (by omega)
    have k2 : -a * -B ≤ -a * b := Int.mul_le_mul_of_nonneg_left hb.1 (by omega)
    have k3 : -a * B ≤ A * B := Int.mul_le_mul_of_nonneg_right (by omega) hB
    simp only [Int.mul_neg, Int.neg_mul] at k1 k2 k3
    omega
def facM (k : Nat) : Int := 2 * ((k : Int) + 1) * (2 * ((k : Int) + 1) + 1)
def tq (y : Int) : Nat → Int
  | 0 => y
  | k + 1 => -((((tq y k * y).tdiv 4294967296 * y).tdiv 4294967296 * 4294967296).tdiv (facM k * 4294967296))
def sq (y : Int) : Nat → Int
  | 0 => y
  | k + 1 => sq y k + tq y (k + 1)
def mq : Nat → Int
  | 0 => 1
  | k + 1 => mq k * (facM k * (4294967296 * 4294967296))
def xq (y : Int) : Nat → Int
  | 0 => y
  | k + 1 => -(xq y k * (y * y))
theorem tq_neg (y : Int) : ∀ k, tq (-y) k = -tq y k
  | 0 => rfl
  | k + 1 => by
    simp only [tq, tq_neg y k, Int.mul_neg, Int.neg_tdiv, Int.neg_mul, Int.neg_neg]
theorem sq_neg (y : Int) : ∀ k, sq (-y) k = -sq y k
  | 0 => rfl
  | k + 1 => by simp only [sq, sq_neg y k, tq_neg]; omega
/-- One step: how great the term is, and how far off. -/
theorem ser_step {t y m : Int} (ht : -6746518852 ≤ t ∧ t ≤ 6746518852) (hy : -6746518852 ≤ y ∧ y ≤ 6746518852) (hm : 6 ≤ m) :
    (-13493037704 ≤ (t * y).tdiv 4294967296 ∧ (t * y).tdiv 4294967296 ≤ 13493037704) ∧
    (-26986075408 ≤ ((t * y).tdiv 4294967296 * y).tdiv 4294967296 ∧ ((t * y).tdiv 4294967296 * y).tdiv 4294967296 ≤ 26986075408) ∧
    (-6746518852 ≤ -((((t * y).tdiv 4294967296 * y).tdiv 4294967296 * 4294967296).tdiv (m * 4294967296)) ∧ -((((t * y).tdiv 4294967296 * y).tdiv 4294967296 * 4294967296).tdiv (m * 4294967296)) ≤ 6746518852) ∧
    (-(3 + m) * 18446744073709551616 ≤ -((((t * y).tdiv 4294967296 * y).tdiv 4294967296 * 4294967296).tdiv (m * 4294967296)) * (m * 18446744073709551616) + t * (y * y) ∧
     -((((t * y).tdiv 4294967296 * y).tdiv 4294967296 * 4294967296).tdiv (m * 4294967296)) * (m * 18446744073709551616) + t * (y * y) ≤ (3 + m) * 18446744073709551616) := by
  have e3 := td_err (x := t * y) (k := 4294967296) (by decide)
  have m3 := ab_mul ht hy
  generalize hA : (t * y).tdiv 4294967296 = a at *
  have ba : -13493037704 ≤ a ∧ a ≤ 13493037704 := by omega
  have e2 := td_err (x := a * y) (k := 4294967296) (by decide)
  have m2 := ab_mul ba hy
  generalize hB : (a * y).tdiv 4294967296 = b at *
  have bb : -26986075408 ≤ b ∧ b ≤ 26986075408 := by omega
  have hm' : 0 < m * 4294967296 := by omega
  have e1 := td_err (x := b * 4294967296) (k := m * 4294967296) hm'
  generalize hC : (b * 4294967296).tdiv (m * 4294967296) = c at *
  have e1' : c * (m * 4294967296) = (c * m) * 4294967296 := by grind
  rw [e1'] at e1
  have e0 : -m < b - c * m ∧ b - c * m < m := by omega
  have bc : -6746518852 ≤ c ∧ c ≤ 6746518852 := by
    constructor
    · refine Int.not_lt.1 fun h => ?_
      have : c * m ≤ (-6746518853) * m := Int.mul_le_mul_of_nonneg_right (by omega) (by omega)
      omega
    · refine Int.not_lt.1 fun h => ?_
      have : 6746518853 * m ≤ c * m := Int.mul_le_mul_of_nonneg_right (by omega) (by omega)
      omega
  refine ⟨ba, bb, by omega, ?_⟩
  have r3 : -4294967296 ≤ t * y - a * 4294967296 ∧ t * y - a * 4294967296 ≤ 4294967296 := by omega
  have k3 := ab_mul r3 hy
  have id1 : -c * (m * 18446744073709551616) + t * (y * y) = (t * y - a * 4294967296) * y + (a * y - b * 4294967296) * 4294967296 + (b - c * m) * 18446744073709551616 := by grind
  rw [id1]
  omega
theorem facM_ge (k : Nat) : 6 ≤ facM k := by
  unfold facM
  have h1 : (2 : Int) * ((k : Int) + 1) ≥ 2 := by omega
  have h2 : (2 : Int) * ((k : Int) + 1) + 1 ≥ 3 := by omega
  have := Int.mul_le_mul h1 h2 (by omega) (by omega)
  omega
theorem facM_ge1 (k : Nat) : 20 ≤ facM (k + 1) := by
  unfold facM
  have h1 : (2 : Int) * (((k + 1 : Nat) : Int) + 1) ≥ 4 := by omega
  have h2 : (2 : Int) * (((k + 1 : Nat) : Int) + 1) + 1 ≥ 5 := by omega
  have := Int.mul_le_mul h1 h2 (by omega) (by omega)
  omega
theorem mq_pos : ∀ k, 0 < mq k
  | 0 => by decide
  | k + 1 => by
    simp only [mq]
    have := facM_ge k
    exact Int.mul_pos (mq_pos k) (Int.mul_pos (by omega) (by decide))
theorem tq_le {y : Int} (hy : -6746518852 ≤ y ∧ y ≤ 6746518852) : ∀ k, -6746518852 ≤ tq y k ∧ tq y k ≤ 6746518852
  | 0 => hy
  | k + 1 => (ser_step (tq_le hy k) hy (facM_ge k)).2.2.1
/-- A term's error grows no greater. -/
theorem err_step {t t' y m M X d : Int} (hM : 0 < M) (hy : -6746518852 ≤ y ∧ y ≤ 6746518852) (hd : 0 ≤ d) (hd2 : d ≤ 2) (h : -(d * M) ≤ t * M - X ∧ t * M - X ≤ d * M)
    (he : -(3 + m) * 18446744073709551616 ≤ t' * (m * 18446744073709551616) + t * (y * y) ∧ t' * (m * 18446744073709551616) + t * (y * y) ≤ (3 + m) * 18446744073709551616) (hm : 3 * d + 3 ≤ m) :
    -(2 * (M * (m * (4294967296 * 4294967296)))) ≤ t' * (M * (m * (4294967296 * 4294967296))) - -(X * (y * y)) ∧ t' * (M * (m * (4294967296 * 4294967296))) - -(X * (y * y)) ≤ 2 * (M * (m * (4294967296 * 4294967296))) := by
  have hyy := ab_mul hy hy
  have y0 : 0 ≤ y * y := by
    rcases Int.le_total 0 y with h | h
    · exact Int.mul_nonneg h h
    · have := Int.mul_nonneg (show 0 ≤ -y by omega) (show 0 ≤ -y by omega)
      rwa [Int.neg_mul_neg] at this
  have id1 : t' * (M * (m * (4294967296 * 4294967296))) - -(X * (y * y)) = M * (t' * (m * 18446744073709551616) + t * (y * y)) - (t * M - X) * (y * y) := by grind
  rw [id1]
  generalize t * M - X = e at *
  generalize t' * (m * 18446744073709551616) + t * (y * y) = f at *
  generalize y * y = q at *
  have k1 := ab_mul (a := e) (A := d * M) h (b := q) (B := 3 * 18446744073709551616) (by omega)
  have k2 : M * f ≤ M * ((3 + m) * 18446744073709551616) := Int.mul_le_mul_of_nonneg_left he.2 (by omega)
  have k3 : M * (-(3 + m) * 18446744073709551616) ≤ M * f := Int.mul_le_mul_of_nonneg_left he.1 (by omega)
  have k4 : M * (3 * d + 3) ≤ M * m := Int.mul_le_mul_of_nonneg_left hm (by omega)
  have j1 : M * ((3 + m) * 18446744073709551616) = (3 * M + M * m) * 18446744073709551616 := by grind
  have j2 : M * (-(3 + m) * 18446744073709551616) = -((3 * M + M * m) * 18446744073709551616) := by grind
  have j3 : d * M * (3 * 18446744073709551616) = (3 * (M * d)) * 18446744073709551616 := by grind
  have j4 : M * (3 * d + 3) = 3 * (M * d) + 3 * M := by grind
  have j5 : M * (m * (4294967296 * 4294967296)) = (M * m) * 18446744073709551616 := by grind
  rw [j1] at k2
  rw [j2] at k3
  rw [j3] at k1
  rw [j4] at k4
  rw [j5]
  omega
theorem ser_err {y : Int} (hy : -6746518852 ≤ y ∧ y ≤ 6746518852) : ∀ k, -(2 * mq (k + 1)) ≤ tq y (k + 1) * mq (k + 1) - xq y (k + 1) ∧ tq y (k + 1) * mq (k + 1) - xq y (k + 1) ≤ 2 * mq (k + 1)
  | 0 => by
    have h := ser_step (t := tq y 0) hy hy (facM_ge 0)
    exact err_step (d := 0) (t := tq y 0) (M := mq 0) (X := xq y 0) (m := facM 0) (mq_pos 0) hy (by omega) (by omega) (by simp [tq, mq, xq]) h.2.2.2 (by have := facM_ge 0; omega)
  | k + 1 => by
    have h := ser_step (tq_le hy (k + 1)) hy (facM_ge (k + 1))
    exact err_step (d := 2) (t := tq y (k + 1)) (M := mq (k + 1)) (X := xq y (k + 1)) (m := facM (k + 1)) (mq_pos _) hy (by omega) (by omega) (ser_err hy k) h.2.2.2 (by have := facM_ge1 k; omega)
theorem mq_1 : mq 1 * 43087899414213674021824125643264255072305462219207007284242456456798725817691141891220050084051744617156383553793407931128471747317646658681962496000 = serN := by decide +kernel
theorem mq_2 : mq 2 * 116789985381818398160573898299231102288065772677584217151319844983904676864291965346766500211691480339536943806187305008155852800 = serN := by decide +kernel
theorem mq_3 : mq 3 * 150742804613711681364039825115385279235570281032314673924162220557576589258871909346252821120275293038182400 = serN := by decide +kernel
theorem mq_4 : mq 4 * 113496997394961198577319469229027706569291890953579835547744303126809085079968756531200 = serN := by decide +kernel
theorem mq_5 : mq 5 * 55933495975544804015926845529165017287291580706094561614752645120 = serN := by decide +kernel
theorem mq_6 : mq 6 * 19436928798524005033027957576502600238366720 = serN := by decide +kernel
theorem mq_7 : mq 7 * 5017514388048998039552 = serN := by decide +kernel
theorem mq_8 : mq 8 * 1 = serN := by decide +kernel
theorem err_R {t M X r N : Int} (hM : 0 < M) (hr : 0 ≤ r) (e : M * r = N) (h : -(2 * M) ≤ t * M - X ∧ t * M - X ≤ 2 * M) : -(2 * N) ≤ t * N - X * r ∧ t * N - X * r ≤ 2 * N := by
  have k1 := Int.mul_le_mul_of_nonneg_right h.1 hr
  have k2 := Int.mul_le_mul_of_nonneg_right h.2 hr
  subst e
  have j1 : -(2 * M) * r = -(2 * (M * r)) := by grind
  have j2 : (t * M - X) * r = t * (M * r) - X * r := by grind
  have j3 : 2 * M * r = 2 * (M * r) := by grind
  rw [j1, j2] at k1
  rw [j2, j3] at k2
  exact ⟨k1, k2⟩
theorem ser_sum {y : Int} (hy : -6746518852 ≤ y ∧ y ≤ 6746518852) : -(16 * serN) ≤ sq y 8 * serN - pev serT y ∧ sq y 8 * serN - pev serT y ≤ 16 * serN := by
  have e1 : -(2 * serN) ≤ tq y 1 * serN - xq y 1 * 43087899414213674021824125643264255072305462219207007284242456456798725817691141891220050084051744617156383553793407931128471747317646658681962496000 ∧ tq y 1 * serN - xq y 1 * 43087899414213674021824125643264255072305462219207007284242456456798725817691141891220050084051744617156383553793407931128471747317646658681962496000 ≤ 2 * serN := err_R (mq_pos 1) (by decide) mq_1 (ser_err hy 0)
  have e2 : -(2 * serN) ≤ tq y 2 * serN - xq y 2 * 116789985381818398160573898299231102288065772677584217151319844983904676864291965346766500211691480339536943806187305008155852800 ∧ tq y 2 * serN - xq y 2 * 116789985381818398160573898299231102288065772677584217151319844983904676864291965346766500211691480339536943806187305008155852800 ≤ 2 * serN := err_R (mq_pos 2) (by decide) mq_2 (ser_err hy 1)
  have e3 : -(2 * serN) ≤ tq y 3 * serN - xq y 3 * 150742804613711681364039825115385279235570281032314673924162220557576589258871909346252821120275293038182400 ∧ tq y 3 * serN - xq y 3 * 150742804613711681364039825115385279235570281032314673924162220557576589258871909346252821120275293038182400 ≤ 2 * serN := err_R (mq_pos 3) (by decide) mq_3 (ser_err hy 2)
  have e4 : -(2 * serN) ≤ tq y 4 * serN - xq y 4 * 113496997394961198577319469229027706569291890953579835547744303126809085079968756531200 ∧ tq y 4 * serN - xq y 4 * 113496997394961198577319469229027706569291890953579835547744303126809085079968756531200 ≤ 2 * serN := err_R (mq_pos 4) (by decide) mq_4 (ser_err hy 3)
  have e5 : -(2 * serN) ≤ tq y 5 * serN - xq y 5 * 55933495975544804015926845529165017287291580706094561614752645120 ∧ tq y 5 * serN - xq y 5 * 55933495975544804015926845529165017287291580706094561614752645120 ≤ 2 * serN := err_R (mq_pos 5) (by decide) mq_5 (ser_err hy 4)
  have e6 : -(2 * serN) ≤ tq y 6 * serN - xq y 6 * 19436928798524005033027957576502600238366720 ∧ tq y 6 * serN - xq y 6 * 19436928798524005033027957576502600238366720 ≤ 2 * serN := err_R (mq_pos 6) (by decide) mq_6 (ser_err hy 5)
  have e7 : -(2 * serN) ≤ tq y 7 * serN - xq y 7 * 5017514388048998039552 ∧ tq y 7 * serN - xq y 7 * 5017514388048998039552 ≤ 2 * serN := err_R (mq_pos 7) (by decide) mq_7 (ser_err hy 6)
  have e8 : -(2 * serN) ≤ tq y 8 * serN - xq y 8 * 1 ∧ tq y 8 * serN - xq y 8 * 1 ≤ 2 * serN := err_R (mq_pos 8) (by decide) mq_8 (ser_err hy 7)
  have hs : sq y 8 * serN = y * serN + tq y 1 * serN + tq y 2 * serN + tq y 3 * serN + tq y 4 * serN + tq y 5 * serN + tq y 6 * serN + tq y 7 * serN + tq y 8 * serN := by
    simp only [sq]
    generalize serN = n
    grind
  have hp : pev serT y = y * serN + xq y 1 * 43087899414213674021824125643264255072305462219207007284242456456798725817691141891220050084051744617156383553793407931128471747317646658681962496000 + xq y 2 * 116789985381818398160573898299231102288065772677584217151319844983904676864291965346766500211691480339536943806187305008155852800 + xq y 3 * 150742804613711681364039825115385279235570281032314673924162220557576589258871909346252821120275293038182400 + xq y 4 * 113496997394961198577319469229027706569291890953579835547744303126809085079968756531200 + xq y 5 * 55933495975544804015926845529165017287291580706094561614752645120 + xq y 6 * 19436928798524005033027957576502600238366720 + xq y 7 * 5017514388048998039552 + xq y 8 * 1 := by
    simp only [xq, pev, serT, serN]
    grind
  rw [hs, hp]
  omega
/-- The squares of what is computed sum up to one, but for 2^-19. -/
theorem sq_circle0 {q y : Int} (hq : q = 6746518852 ∨ q = 6746518851) (h0 : 0 ≤ y) (h1 : y ≤ q) :
    -35184372088832 ≤ sq y 8 * sq y 8 + sq (q - y) 8 * sq (q - y) 8 - 18446744073709551616 ∧ sq y 8 * sq y 8 + sq (q - y) 8 * sq (q - y) 8 - 18446744073709551616 ≤ 35184372088832 := by
  have hc := ser_circle hq h0 h1
  have ha := ser_sum (y := y) (by omega)
  have hb := ser_sum (y := q - y) (by omega)
  generalize sq y 8 = S at *
  generalize sq (q - y) 8 = C at *
  generalize pev serT y = A at *
  generalize pev serT (q - y) = B at *
  have hN : 0 < serN := by decide +kernel
  have hN1 : 1000000 ≤ serN := by decide +kernel
  generalize serN = N at *
  have sqA : 0 ≤ A * A := by
    rcases Int.le_total 0 A with h | h
    · exact Int.mul_nonneg h h
    · have := Int.mul_nonneg (show 0 ≤ -A by omega) (show 0 ≤ -A by omega)
      rwa [Int.neg_mul_neg] at this
  have sqB : 0 ≤ B * B := by
    rcases Int.le_total 0 B with h | h
    · exact Int.mul_nonneg h h
    · have := Int.mul_nonneg (show 0 ≤ -B by omega) (show 0 ≤ -B by omega)
      rwa [Int.neg_mul_neg] at this
  have jN : N * 4294967296 * (N * 4294967296) = (N * N) * 18446744073709551616 := by grind
  rw [jN] at hc
  have nn : 0 < N * N := Int.mul_pos hN hN
  have big : ∀ X : Int, X * X ≤ (N * N) * 18446744073709551616 * 2 → -(2 * (N * 4294967296)) ≤ X ∧ X ≤ 2 * (N * 4294967296) := fun X hX => by
    have p0 : 0 < N * 4294967296 := by omega
    constructor
    · refine Int.not_lt.1 fun h => ?_
      have h1 : 2 * (N * 4294967296) ≤ -X := by omega
      have h2 := Int.mul_le_mul h1 h1 (by omega) (by omega)
      have h3 : 2 * (N * 4294967296) * (2 * (N * 4294967296)) = (N * N) * 18446744073709551616 * 4 := by grind
      have h4 : -X * -X = X * X := by grind
      rw [h3, h4] at h2
      omega
    · refine Int.not_lt.1 fun h => ?_
      have h1 : 2 * (N * 4294967296) ≤ X := by omega
      have h2 := Int.mul_le_mul h1 h1 (by omega) (by omega)
      have h3 : 2 * (N * 4294967296) * (2 * (N * 4294967296)) = (N * N) * 18446744073709551616 * 4 := by grind
      rw [h3] at h2
      omega
  have bA := big A (by omega)
  have bB := big B (by omega)
  have err : ∀ X s : Int, -(2 * (N * 4294967296)) ≤ X ∧ X ≤ 2 * (N * 4294967296) → -(16 * N) ≤ s * N - X ∧ s * N - X ≤ 16 * N → -((N * N) * 300000000000) ≤ (s * s) * (N * N) - X * X ∧ (s * s) * (N * N) - X * X ≤ (N * N) * 300000000000 := fun X s hX hs => by
    have id1 : (s * s) * (N * N) - X * X = (s * N - X) * (s * N - X) + 2 * ((s * N - X) * X) := by grind
    rw [id1]
    have k1 := ab_mul hs hs
    have k2 := ab_mul hs hX
    have j1 : 16 * N * (16 * N) = (N * N) * 256 := by grind
    have j2 : 16 * N * (2 * (N * 4294967296)) = (N * N) * 137438953472 := by grind
    rw [j1] at k1
    rw [j2] at k2
    omega
  have eA := err A S bA ha
  have eB := err B C bB hb
  have fin : ∀ z : Int, z * (N * N) ≤ (N * N) * 18000000000000 → z ≤ 18000000000000 := fun z hz => Int.not_lt.1 fun h => by
    have := Int.mul_lt_mul_of_pos_left h nn
    rw [Int.mul_comm] at this
    have e : N * N * z = z * (N * N) := Int.mul_comm _ _
    omega
  have u1 : (S * S + C * C - 18446744073709551616) * (N * N) ≤ (N * N) * 18000000000000 + (N * N) * 600000000000 := by
    have e : (S * S + C * C - 18446744073709551616) * (N * N) = S * S * (N * N) + C * C * (N * N) - (N * N) * 18446744073709551616 := by grind
    rw [e]; omega
  have u2 : -((N * N) * 18000000000000 + (N * N) * 600000000000) ≤ (S * S + C * C - 18446744073709551616) * (N * N) := by
    have e : (S * S + C * C - 18446744073709551616) * (N * N) = S * S * (N * N) + C * C * (N * N) - (N * N) * 18446744073709551616 := by grind
    rw [e]; omega
  have fin2 : ∀ z : Int, z * (N * N) ≤ (N * N) * 35184372088832 → z ≤ 35184372088832 := fun z hz => Int.not_lt.1 fun h => by
    have h2 := Int.mul_lt_mul_of_pos_left h nn
    have e : N * N * z = z * (N * N) := Int.mul_comm _ _
    omega
  constructor
  · have := fin2 (-(S * S + C * C - 18446744073709551616)) (by rw [Int.neg_mul]; omega)
    omega
  · exact fin2 _ (by omega)
theorem sq_circle {y z : Int} (hy : -6746518852 ≤ y ∧ y ≤ 6746518852) {q : Int} (hq : q = 6746518852 ∨ q = 6746518851) (h1 : (if y < 0 then -y else y) ≤ q) (hz : (if z < 0 then -z else z) = q - (if y < 0 then -y else y)) :
    -35184372088832 ≤ sq y 8 * sq y 8 + sq z 8 * sq z 8 - 18446744073709551616 ∧ sq y 8 * sq y 8 + sq z 8 * sq z 8 - 18446744073709551616 ≤ 35184372088832 := by
  have h := sq_circle0 (y := if y < 0 then -y else y) hq (by split <;> omega) h1
  rw [← hz] at h
  have e : ∀ x : Int, sq (if x < 0 then -x else x) 8 * sq (if x < 0 then -x else x) 8 = sq x 8 * sq x 8 := fun x => by
    split
    · rw [sq_neg, Int.neg_mul_neg]
    · rfl
  rw [e, e] at h
  exact h
end Go.Ax
end

section
/-
  The sine's series, ars plain numbers.
-/
set_option linter.unusedVariables false
set_option linter.unusedSimpArgs false
set_option maxHeartbeats 4000000
set_option maxRecDepth 100000
namespace Go.Ax
open Go.Proofs
theorem whF_in {x : Int} (h : -1000000000000000000 ≤ x) : whF x false = false := by
  unfold whF
  simp
  omega
theorem whV_in {x : Int} (h : -1000000000000000000 ≤ x) (h2 : x ≤ 1000000000000000000) : whV x = x := by
  unfold whV
  split <;> omega
theorem ftV_in {x : Int} (h : -1000000000000000000 ≤ x) (h2 : x ≤ 1000000000000000000) : ftV x = x := by
  unfold ftV
  (repeat' split) <;> omega
theorem ftF_in {x : Int} (h : -1000000000000000000 ≤ x) (h2 : x ≤ 1000000000000000000) : ftF x = false := by
  unfold ftF
  simp
  omega
theorem td_le {x A : Int} (h : -(A * 4294967296) ≤ x ∧ x ≤ A * 4294967296) : -A ≤ x.tdiv 4294967296 ∧ x.tdiv 4294967296 ≤ A := by
  have e := @td_err x 4294967296 (by omega)
  omega
theorem nMul_in {t y : Int} (ht : -100000000000 ≤ t ∧ t ≤ 100000000000) (hy : -6746518852 ≤ y ∧ y ≤ 6746518852) : nMul (t, false) (y, false) = ((t * y).tdiv 4294967296, false) ∧ (-200000000000 ≤ (t * y).tdiv 4294967296 ∧ (t * y).tdiv 4294967296 ≤ 200000000000) := by
  have h := ab_mul ht hy
  have h2 := @td_le (t * y) 200000000000 (by omega)
  refine ⟨?_, h2⟩
  unfold nMul
  dsimp only
  rw [whV_in (by omega) (by omega), whV_in (by omega) (by omega), ftV_in (by omega) (by omega), ftF_in (by omega) (by omega), whF_in (by omega), whF_in (by omega)]
  rfl
theorem nInt_in {n : Int} (h : 0 ≤ n ∧ n ≤ 1000000) : nInt n = (n * 4294967296, false) := by
  unfold nInt
  rw [ftV_in (by omega) (by omega), ftF_in (by omega) (by omega)]
  rfl
theorem facM_le {k : Nat} (h : k < 8) : facM k ≤ 1000 := by
  unfold facM
  match k, h with
  | 0, _ | 1, _ | 2, _ | 3, _ | 4, _ | 5, _ | 6, _ | 7, _ => decide
  | k + 8, h => omega
theorem snT_eq {y : Int} (hy : -6746518852 ≤ y ∧ y ≤ 6746518852) : ∀ k, k ≤ 8 → snT (y, false) k = (tq y k, false)
  | 0, _ => rfl
  | k + 1, hk => by
    have ht := tq_le hy k
    have g1 := facM_ge k
    have g2 := @facM_le k (by omega)
    obtain ⟨s1, s2, s3, s4⟩ := ser_step (m := facM k) ht hy g1
    show nNeg (nDiv (nMul (nMul (snT (y, false) k) (y, false)) (y, false)) (nInt (facM k))) = _
    rw [snT_eq hy k (by omega), (nMul_in (by omega) hy).1, (nMul_in (by omega) hy).1, nInt_in (by omega)]
    show nNeg (nDiv _ _) = (-((((tq y k * y).tdiv 4294967296 * y).tdiv 4294967296 * 4294967296).tdiv (facM k * 4294967296)), false)
    generalize ((tq y k * y).tdiv 4294967296 * y).tdiv 4294967296 = u at *
    unfold nDiv raV raF
    dsimp only
    rw [whV_in (by omega) (by omega), whV_in (by omega) (by omega), if_neg (by omega), if_neg (by omega)]
    generalize (u * 4294967296).tdiv (facM k * 4294967296) = v at *
    rw [ftV_in (by omega) (by omega), ftF_in (by omega) (by omega), whF_in (by omega), whF_in (by omega)]
    unfold nNeg
    dsimp only
    rw [whV_in (by omega) (by omega)]
    show (-v, whF v false) = _
    rw [whF_in (by omega)]
theorem sqj_le {y : Int} (hy : -6746518852 ≤ y ∧ y ≤ 6746518852) : ∀ k : Nat, k ≤ 8 → -((k + 1 : Int) * 6746518852) ≤ sq y k ∧ sq y k ≤ (k + 1 : Int) * 6746518852
  | 0, _ => by
    show _ ≤ y ∧ y ≤ _
    omega
  | k + 1, hk => by
    have h1 := sqj_le hy k (by omega)
    have h2 := tq_le hy (k + 1)
    show _ ≤ sq y k + tq y (k + 1) ∧ sq y k + tq y (k + 1) ≤ _
    omega
theorem snS_eq {y : Int} (hy : -6746518852 ≤ y ∧ y ≤ 6746518852) : ∀ k, k ≤ 8 → snS (y, false) k = (sq y k, false)
  | 0, _ => rfl
  | k + 1, hk => by
    have h1 := sqj_le hy k (by omega)
    have h2 := tq_le hy (k + 1)
    show nAdd (snS (y, false) k) (snT (y, false) (k + 1)) = (sq y k + tq y (k + 1), false)
    rw [snS_eq hy k (by omega), snT_eq hy (k + 1) hk]
    unfold nAdd
    dsimp only
    rw [whV_in (by omega) (by omega), whV_in (by omega) (by omega), ftV_in (by omega) (by omega), ftF_in (by omega) (by omega), whF_in (by omega), whF_in (by omega)]
    rfl
end Go.Ax
end

section
/-
  Made polygons are convex.
-/
set_option linter.unusedVariables false
set_option linter.unusedSimpArgs false
set_option maxHeartbeats 4000000
set_option maxRecDepth 100000
namespace Go.Ax
open Go.Proofs
theorem mul_ge {M T : Int} (hM : 64 ≤ M) (hT : 64 ≤ T) : 64 * M ≤ M * T ∧ 64 * T ≤ M * T := by
  have h1 : M * 64 ≤ M * T := Int.mul_le_mul_of_nonneg_left hT (by omega)
  have h2 : 64 * T ≤ M * T := Int.mul_le_mul_of_nonneg_right hM (by omega)
  omega
theorem tri_cvx {M T : Int} (hM : 64 ≤ M) (hT : 64 ≤ T) {X Y : Nat → Int} (x0 : X 0 = -M) (x1 : X 1 = M) (x2 : X 2 = 0) (y0 : Y 0 = -T) (y1 : Y 1 = -T) (y2 : Y 2 = T) : cvxS 3 X Y = true := by
  obtain ⟨p1, p2⟩ := mul_ge hM hT
  unfold cvxS
  refine decide_eq_true fun i hi => ?_
  match i, hi with
  | 0, _ =>
    rw [show nxt 3 0 = 1 from rfl, show nxt2 3 0 = 2 from rfl, x0, x1, x2, y0, y1, y2]
    refine ⟨?_, fun j hj k1 k2 => ?_⟩
    · simp only [Int.sub_mul, Int.mul_sub, Int.add_mul, Int.mul_add, Int.neg_mul, Int.mul_neg, Int.zero_mul, Int.mul_zero, Int.mul_comm T M, Int.neg_neg, ab]
      (repeat' split) <;> omega
    · match j, hj, k1, k2 with
      | 0, _, k1, k2 => exact absurd rfl k1
      | 1, _, k1, k2 => exact absurd rfl k2
      | 2, _, _, _ =>
        rw [x2, y2]
        simp only [Int.sub_mul, Int.mul_sub, Int.add_mul, Int.mul_add, Int.neg_mul, Int.mul_neg, Int.zero_mul, Int.mul_zero, Int.mul_comm T M, Int.neg_neg, ab]
        omega
      | j + 3, h, _, _ => omega
  | 1, _ =>
    rw [show nxt 3 1 = 2 from rfl, show nxt2 3 1 = 0 from rfl, x0, x1, x2, y0, y1, y2]
    refine ⟨?_, fun j hj k1 k2 => ?_⟩
    · simp only [Int.sub_mul, Int.mul_sub, Int.add_mul, Int.mul_add, Int.neg_mul, Int.mul_neg, Int.zero_mul, Int.mul_zero, Int.mul_comm T M, Int.neg_neg, ab]
      (repeat' split) <;> omega
    · match j, hj, k1, k2 with
      | 0, _, _, _ =>
        rw [x0, y0]
        simp only [Int.sub_mul, Int.mul_sub, Int.add_mul, Int.mul_add, Int.neg_mul, Int.mul_neg, Int.zero_mul, Int.mul_zero, Int.mul_comm T M, Int.neg_neg, ab]
        omega
      | 1, _, k1, k2 => exact absurd rfl k1
      | 2, _, k1, k2 => exact absurd rfl k2
      | j + 3, h, _, _ => omega
  | 2, _ =>
    rw [show nxt 3 2 = 0 from rfl, show nxt2 3 2 = 1 from rfl, x0, x1, x2, y0, y1, y2]
    refine ⟨?_, fun j hj k1 k2 => ?_⟩
    · simp only [Int.sub_mul, Int.mul_sub, Int.add_mul, Int.mul_add, Int.neg_mul, Int.mul_neg, Int.zero_mul, Int.mul_zero, Int.mul_comm T M, Int.neg_neg, ab]
      (repeat' split) <;> omega
    · match j, hj, k1, k2 with
      | 0, _, k1, k2 => exact absurd rfl k2
      | 1, _, _, _ =>
        rw [x1, y1]
        simp only [Int.sub_mul, Int.mul_sub, Int.add_mul, Int.mul_add, Int.neg_mul, Int.mul_neg, Int.zero_mul, Int.mul_zero, Int.mul_comm T M, Int.neg_neg, ab]
        omega
      | 2, _, k1, k2 => exact absurd rfl k1
      | j + 3, h, _, _ => omega
  | i + 3, h => omega
end Go.Ax
end

section
/-
  Made polygons of five and eight corners are convex.
-/
set_option linter.unusedVariables false
set_option linter.unusedSimpArgs false
set_option maxHeartbeats 4000000
set_option maxRecDepth 100000
namespace Go.Ax
open Go.Proofs
theorem pen_cvx {M T h : Int} (hM : 64 ≤ M) (hT : 64 ≤ T) (h1 : 2 * h ≤ M) (h2 : M ≤ 2 * h + 1) {X Y : Nat → Int} (x0 : X 0 = -h) (y0 : Y 0 = -T) (x1 : X 1 = h) (y1 : Y 1 = -T) (x2 : X 2 = M) (y2 : Y 2 = 0) (x3 : X 3 = 0) (y3 : Y 3 = T) (x4 : X 4 = -M) (y4 : Y 4 = 0) : cvxS 5 X Y = true := by
  obtain ⟨p1, p2⟩ := mul_ge hM hT
  have q1 : (2 * h) * T ≤ M * T := Int.mul_le_mul_of_nonneg_right h1 (by omega)
  have q2 : M * T ≤ (2 * h + 1) * T := Int.mul_le_mul_of_nonneg_right h2 (by omega)
  have q3 : h * 64 ≤ h * T := Int.mul_le_mul_of_nonneg_left hT (by omega)
  rw [Int.mul_assoc] at q1
  rw [Int.add_mul, Int.mul_assoc, Int.one_mul] at q2
  unfold cvxS
  refine decide_eq_true fun i hi => ?_
  match i, hi with
  | 0, _ =>
    rw [show nxt 5 0 = 1 from rfl, show nxt2 5 0 = 2 from rfl, x0, x1, x2, y0, y1, y2]
    refine ⟨?_, fun j hj k1 k2 => ?_⟩
    · simp only [Int.sub_mul, Int.mul_sub, Int.add_mul, Int.mul_add, Int.neg_mul, Int.mul_neg, Int.zero_mul, Int.mul_zero, Int.mul_comm T M, Int.mul_comm T h, Int.neg_neg, ab]
      (repeat' split) <;> omega
    · match j, hj, k1, k2 with
      | 0, _, k1, k2 => exact absurd rfl k1
      | 1, _, k1, k2 => exact absurd rfl k2
      | 2, _, _, _ =>
        rw [x2, y2]
        simp only [Int.sub_mul, Int.mul_sub, Int.add_mul, Int.mul_add, Int.neg_mul, Int.mul_neg, Int.zero_mul, Int.mul_zero, Int.mul_comm T M, Int.mul_comm T h, Int.neg_neg, ab]
        omega
      | 3, _, _, _ =>
        rw [x3, y3]
        simp only [Int.sub_mul, Int.mul_sub, Int.add_mul, Int.mul_add, Int.neg_mul, Int.mul_neg, Int.zero_mul, Int.mul_zero, Int.mul_comm T M, Int.mul_comm T h, Int.neg_neg, ab]
        omega
      | 4, _, _, _ =>
        rw [x4, y4]
        simp only [Int.sub_mul, Int.mul_sub, Int.add_mul, Int.mul_add, Int.neg_mul, Int.mul_neg, Int.zero_mul, Int.mul_zero, Int.mul_comm T M, Int.mul_comm T h, Int.neg_neg, ab]
        omega
      | j + 5, h, _, _ => omega
  | 1, _ =>
    rw [show nxt 5 1 = 2 from rfl, show nxt2 5 1 = 3 from rfl, x1, x2, x3, y1, y2, y3]
    refine ⟨?_, fun j hj k1 k2 => ?_⟩
    · simp only [Int.sub_mul, Int.mul_sub, Int.add_mul, Int.mul_add, Int.neg_mul, Int.mul_neg, Int.zero_mul, Int.mul_zero, Int.mul_comm T M, Int.mul_comm T h, Int.neg_neg, ab]
      (repeat' split) <;> omega
    · match j, hj, k1, k2 with
      | 0, _, _, _ =>
        rw [x0, y0]
        simp only [Int.sub_mul, Int.mul_sub, Int.add_mul, Int.mul_add, Int.neg_mul, Int.mul_neg, Int.zero_mul, Int.mul_zero, Int.mul_comm T M, Int.mul_comm T h, Int.neg_neg, ab]
        omega
      | 1, _, k1, k2 => exact absurd rfl k1
      | 2, _, k1, k2 => exact absurd rfl k2
      | 3, _, _, _ =>
        rw [x3, y3]
        simp only [Int.sub_mul, Int.mul_sub, Int.add_mul, Int.mul_add, Int.neg_mul, Int.mul_neg, Int.zero_mul, Int.mul_zero, Int.mul_comm T M, Int.mul_comm T h, Int.neg_neg, ab]
        omega
      | 4, _, _, _ =>
        rw [x4, y4]
        simp only [Int.sub_mul, Int.mul_sub, Int.add_mul, Int.mul_add, Int.neg_mul, Int.mul_neg, Int.zero_mul, Int.mul_zero, Int.mul_comm T M, Int.mul_comm T h, Int.neg_neg, ab]
        omega
      | j + 5, h, _, _ => omega
  | 2, _ =>
    rw [show nxt 5 2 = 3 from rfl, show nxt2 5 2 = 4 from rfl, x2, x3, x4, y2, y3, y4]
    refine ⟨?_, fun j hj k1 k2 => ?_⟩
    · simp only [Int.sub_mul, Int.mul_sub, Int.add_mul, Int.mul_add, Int.neg_mul, Int.mul_neg, Int.zero_mul, Int.mul_zero, Int.mul_comm T M, Int.mul_comm T h, Int.neg_neg, ab]
      (repeat' split) <;> omega
    · match j, hj, k1, k2 with
      | 0, _, _, _ =>
        rw [x0, y0]
        simp only [Int.sub_mul, Int.mul_sub, Int.add_mul, Int.mul_add, Int.neg_mul, Int.mul_neg, Int.zero_mul, Int.mul_zero, Int.mul_comm T M, Int.mul_comm T h, Int.neg_neg, ab]
        omega
      | 1, _, _, _ =>
        rw [x1, y1]
        simp only [Int.sub_mul, Int.mul_sub, Int.add_mul, Int.mul_add, Int.neg_mul, Int.mul_neg, Int.zero_mul, Int.mul_zero, Int.mul_comm T M, Int.mul_comm T h, Int.neg_neg, ab]
        omega
      | 2, _, k1, k2 => exact absurd rfl k1
      | 3, _, k1, k2 => exact absurd rfl k2
      | 4, _, _, _ =>
        rw [x4, y4]
        simp only [Int.sub_mul, Int.mul_sub, Int.add_mul, Int.mul_add, Int.neg_mul, Int.mul_neg, Int.zero_mul, Int.mul_zero, Int.mul_comm T M, Int.mul_comm T h, Int.neg_neg, ab]
        omega
      | j + 5, h, _, _ => omega
  | 3, _ =>
    rw [show nxt 5 3 = 4 from rfl, show nxt2 5 3 = 0 from rfl, x3, x4, x0, y3, y4, y0]
    refine ⟨?_, fun j hj k1 k2 => ?_⟩
    · simp only [Int.sub_mul, Int.mul_sub, Int.add_mul, Int.mul_add, Int.neg_mul, Int.mul_neg, Int.zero_mul, Int.mul_zero, Int.mul_comm T M, Int.mul_comm T h, Int.neg_neg, ab]
      (repeat' split) <;> omega
    · match j, hj, k1, k2 with
      | 0, _, _, _ =>
        rw [x0, y0]
        simp only [Int.sub_mul, Int.mul_sub, Int.add_mul, Int.mul_add, Int.neg_mul, Int.mul_neg, Int.zero_mul, Int.mul_zero, Int.mul_comm T M, Int.mul_comm T h, Int.neg_neg, ab]
        omega
      | 1, _, _, _ =>
        rw [x1, y1]
        simp only [Int.sub_mul, Int.mul_sub, Int.add_mul, Int.mul_add, Int.neg_mul, Int.mul_neg, Int.zero_mul, Int.mul_zero, Int.mul_comm T M, Int.mul_comm T h, Int.neg_neg, ab]
        omega
      | 2, _, _, _ =>
        rw [x2, y2]
        simp only [Int.sub_mul, Int.mul_sub, Int.add_mul, Int.mul_add, Int.neg_mul, Int.mul_neg, Int.zero_mul, Int.mul_zero, Int.mul_comm T M, Int.mul_comm T h, Int.neg_neg, ab]
        omega
      | 3, _, k1, k2 => exact absurd rfl k1
      | 4, _, k1, k2 => exact absurd rfl k2
      | j + 5, h, _, _ => omega
  | 4, _ =>
    rw [show nxt 5 4 = 0 from rfl, show nxt2 5 4 = 1 from rfl, x4, x0, x1, y4, y0, y1]
    refine ⟨?_, fun j hj k1 k2 => ?_⟩
    · simp only [Int.sub_mul, Int.mul_sub, Int.add_mul, Int.mul_add, Int.neg_mul, Int.mul_neg, Int.zero_mul, Int.mul_zero, Int.mul_comm T M, Int.mul_comm T h, Int.neg_neg, ab]
      (repeat' split) <;> omega
    · match j, hj, k1, k2 with
      | 0, _, k1, k2 => exact absurd rfl k2
      | 1, _, _, _ =>
        rw [x1, y1]
        simp only [Int.sub_mul, Int.mul_sub, Int.add_mul, Int.mul_add, Int.neg_mul, Int.mul_neg, Int.zero_mul, Int.mul_zero, Int.mul_comm T M, Int.mul_comm T h, Int.neg_neg, ab]
        omega
      | 2, _, _, _ =>
        rw [x2, y2]
        simp only [Int.sub_mul, Int.mul_sub, Int.add_mul, Int.mul_add, Int.neg_mul, Int.mul_neg, Int.zero_mul, Int.mul_zero, Int.mul_comm T M, Int.mul_comm T h, Int.neg_neg, ab]
        omega
      | 3, _, _, _ =>
        rw [x3, y3]
        simp only [Int.sub_mul, Int.mul_sub, Int.add_mul, Int.mul_add, Int.neg_mul, Int.mul_neg, Int.zero_mul, Int.mul_zero, Int.mul_comm T M, Int.mul_comm T h, Int.neg_neg, ab]
        omega
      | 4, _, k1, k2 => exact absurd rfl k1
      | j + 5, h, _, _ => omega
  | i + 5, h => omega
theorem oct_cvx {M h : Int} (hM : 64 ≤ M) (h1 : 2 * h ≤ M) (h2 : M ≤ 2 * h + 1) {X Y : Nat → Int} (x0 : X 0 = M) (y0 : Y 0 = -h) (x1 : X 1 = M) (y1 : Y 1 = h) (x2 : X 2 = h) (y2 : Y 2 = M) (x3 : X 3 = -h) (y3 : Y 3 = M) (x4 : X 4 = -M) (y4 : Y 4 = h) (x5 : X 5 = -M) (y5 : Y 5 = -h) (x6 : X 6 = -h) (y6 : Y 6 = -M) (x7 : X 7 = h) (y7 : Y 7 = -M) : cvxS 8 X Y = true := by
  have p1 : 64 * M ≤ M * M := Int.mul_le_mul_of_nonneg_right hM (by omega)
  have q1 : (2 * h) * M ≤ M * M := Int.mul_le_mul_of_nonneg_right h1 (by omega)
  have q2 : M * M ≤ (2 * h + 1) * M := Int.mul_le_mul_of_nonneg_right h2 (by omega)
  have q3 : h * (2 * h) ≤ h * M := Int.mul_le_mul_of_nonneg_left h1 (by omega)
  have q4 : h * M ≤ h * (2 * h + 1) := Int.mul_le_mul_of_nonneg_left h2 (by omega)
  have q5 : 32 * h ≤ h * h := Int.mul_le_mul_of_nonneg_right (by omega) (by omega)
  rw [Int.mul_assoc] at q1
  rw [Int.add_mul, Int.mul_assoc, Int.one_mul] at q2
  rw [Int.mul_left_comm] at q3
  rw [Int.mul_add, Int.mul_left_comm, Int.mul_one] at q4
  unfold cvxS
  refine decide_eq_true fun i hi => ?_
  match i, hi with
  | 0, _ =>
    rw [show nxt 8 0 = 1 from rfl, show nxt2 8 0 = 2 from rfl, x0, x1, x2, y0, y1, y2]
    refine ⟨?_, fun j hj k1 k2 => ?_⟩
    · simp only [Int.sub_mul, Int.mul_sub, Int.add_mul, Int.mul_add, Int.neg_mul, Int.mul_neg, Int.zero_mul, Int.mul_zero, Int.mul_comm M h, Int.neg_neg, ab]
      (repeat' split) <;> omega
    · match j, hj, k1, k2 with
      | 0, _, k1, k2 => exact absurd rfl k1
      | 1, _, k1, k2 => exact absurd rfl k2
      | 2, _, _, _ =>
        rw [x2, y2]
        simp only [Int.sub_mul, Int.mul_sub, Int.add_mul, Int.mul_add, Int.neg_mul, Int.mul_neg, Int.zero_mul, Int.mul_zero, Int.mul_comm M h, Int.neg_neg, ab]
        omega
      | 3, _, _, _ =>
        rw [x3, y3]
        simp only [Int.sub_mul, Int.mul_sub, Int.add_mul, Int.mul_add, Int.neg_mul, Int.mul_neg, Int.zero_mul, Int.mul_zero, Int.mul_comm M h, Int.neg_neg, ab]
        omega
      | 4, _, _, _ =>
        rw [x4, y4]
        simp only [Int.sub_mul, Int.mul_sub, Int.add_mul, Int.mul_add, Int.neg_mul, Int.mul_neg, Int.zero_mul, Int.mul_zero, Int.mul_comm M h, Int.neg_neg, ab]
        omega
      | 5, _, _, _ =>
        rw [x5, y5]
        simp only [Int.sub_mul, Int.mul_sub, Int.add_mul, Int.mul_add, Int.neg_mul, Int.mul_neg, Int.zero_mul, Int.mul_zero, Int.mul_comm M h, Int.neg_neg, ab]
        omega
      | 6, _, _, _ =>
        rw [x6, y6]
        simp only [Int.sub_mul, Int.mul_sub, Int.add_mul, Int.mul_add, Int.neg_mul, Int.mul_neg, Int.zero_mul, Int.mul_zero, Int.mul_comm M h, Int.neg_neg, ab]
        omega
      | 7, _, _, _ =>
        rw [x7, y7]
        simp only [Int.sub_mul, Int.mul_sub, Int.add_mul, Int.mul_add, Int.neg_mul, Int.mul_neg, Int.zero_mul, Int.mul_zero, Int.mul_comm M h, Int.neg_neg, ab]
        omega
      | j + 8, h, _, _ => omega
  | 1, _ =>
    rw [show nxt 8 1 = 2 from rfl, show nxt2 8 1 = 3 from rfl, x1, x2, x3, y1, y2, y3]
    refine ⟨?_, fun j hj k1 k2 => ?_⟩
    · simp only [Int.sub_mul, Int.mul_sub, Int.add_mul, Int.mul_add, Int.neg_mul, Int.mul_neg, Int.zero_mul, Int.mul_zero, Int.mul_comm M h, Int.neg_neg, ab]
      (repeat' split) <;> omega
    · match j, hj, k1, k2 with
      | 0, _, _, _ =>
        rw [x0, y0]
        simp only [Int.sub_mul, Int.mul_sub, Int.add_mul, Int.mul_add, Int.neg_mul, Int.mul_neg, Int.zero_mul, Int.mul_zero, Int.mul_comm M h, Int.neg_neg, ab]
        omega
      | 1, _, k1, k2 => exact absurd rfl k1
      | 2, _, k1, k2 => exact absurd rfl k2
      | 3, _, _, _ =>
        rw [x3, y3]
        simp only [Int.sub_mul, Int.mul_sub, Int.add_mul, Int.mul_add, Int.neg_mul, Int.mul_neg, Int.zero_mul, Int.mul_zero, Int.mul_comm M h, Int.neg_neg, ab]
        omega
      | 4, _, _, _ =>
        rw [x4, y4]
        simp only [Int.sub_mul, Int.mul_sub, Int.add_mul, Int.mul_add, Int.neg_mul, Int.mul_neg, Int.zero_mul, Int.mul_zero, Int.mul_comm M h, Int.neg_neg, ab]
        omega
      | 5, _, _, _ =>
        rw [x5, y5]
        simp only [Int.sub_mul, Int.mul_sub, Int.add_mul, Int.mul_add, Int.neg_mul, Int.mul_neg, Int.zero_mul, Int.mul_zero, Int.mul_comm M h, Int.neg_neg, ab]
        omega
      | 6, _, _, _ =>
        rw [x6, y6]
        simp only [Int.sub_mul, Int.mul_sub, Int.add_mul, Int.mul_add, Int.neg_mul, Int.mul_neg, Int.zero_mul, Int.mul_zero, Int.mul_comm M h, Int.neg_neg, ab]
        omega
      | 7, _, _, _ =>
        rw [x7, y7]
        simp only [Int.sub_mul, Int.mul_sub, Int.add_mul, Int.mul_add, Int.neg_mul, Int.mul_neg, Int.zero_mul, Int.mul_zero, Int.mul_comm M h, Int.neg_neg, ab]
        omega
      | j + 8, h, _, _ => omega
  | 2, _ =>
    rw [show nxt 8 2 = 3 from rfl, show nxt2 8 2 = 4 from rfl, x2, x3, x4, y2, y3, y4]
    refine ⟨?_, fun j hj k1 k2 => ?_⟩
    · simp only [Int.sub_mul, Int.mul_sub, Int.add_mul, Int.mul_add, Int.neg_mul, Int.mul_neg, Int.zero_mul, Int.mul_zero, Int.mul_comm M h, Int.neg_neg, ab]
      (repeat' split) <;> omega
    · match j, hj, k1, k2 with
      | 0, _, _, _ =>
        rw [x0, y0]
        simp only [Int.sub_mul, Int.mul_sub, Int.add_mul, Int.mul_add, Int.neg_mul, Int.mul_neg, Int.zero_mul, Int.mul_zero, Int.mul_comm M h, Int.neg_neg, ab]
        omega
      | 1, _, _, _ =>
        rw [x1, y1]
        simp only [Int.sub_mul, Int.mul_sub, Int.add_mul, Int.mul_add, Int.neg_mul, Int.mul_neg, Int.zero_mul, Int.mul_zero, Int.mul_comm M h, Int.neg_neg, ab]
        omega
      | 2, _, k1, k2 => exact absurd rfl k1
      | 3, _, k1, k2 => exact absurd rfl k2
      | 4, _, _, _ =>
        rw [x4, y4]
        simp only [Int.sub_mul, Int.mul_sub, Int.add_mul, Int.mul_add, Int.neg_mul, Int.mul_neg, Int.zero_mul, Int.mul_zero, Int.mul_comm M h, Int.neg_neg, ab]
        omega
      | 5, _, _, _ =>
        rw [x5, y5]
        simp only [Int.sub_mul, Int.mul_sub, Int.add_mul, Int.mul_add, Int.neg_mul, Int.mul_neg, Int.zero_mul, Int.mul_zero, Int.mul_comm M h, Int.neg_neg, ab]
        omega
      | 6, _, _, _ =>
        rw [x6, y6]
        simp only [Int.sub_mul, Int.mul_sub, Int.add_mul, Int.mul_add, Int.neg_mul, Int.mul_neg, Int.zero_mul, Int.mul_zero, Int.mul_comm M h, Int.neg_neg, ab]
        omega
      | 7, _, _, _ =>
        rw [x7, y7]
        simp only [Int.sub_mul, Int.mul_sub, Int.add_mul, Int.mul_add, Int.neg_mul, Int.mul_neg, Int.zero_mul, Int.mul_zero, Int.mul_comm M h, Int.neg_neg, ab]
        omega
      | j + 8, h, _, _ => omega
  | 3, _ =>
    rw [show nxt 8 3 = 4 from rfl, show nxt2 8 3 = 5 from rfl, x3, x4, x5, y3, y4, y5]
    refine ⟨?_, fun j hj k1 k2 => ?_⟩
    · simp only [Int.sub_mul, Int.mul_sub, Int.add_mul, Int.mul_add, Int.neg_mul, Int.mul_neg, Int.zero_mul, Int.mul_zero, Int.mul_comm M h, Int.neg_neg, ab]
      (repeat' split) <;> omega
    · match j, hj, k1, k2 with
      | 0, _, _, _ =>
        rw [x0, y0]
        simp only [Int.sub_mul, Int.mul_sub, Int.add_mul, Int.mul_add, Int.neg_mul, Int.mul_neg, Int.zero_mul, Int.mul_zero, Int.mul_comm M h, Int.neg_neg, ab]
        omega
      | 1, _, _, _ =>
        rw [x1, y1]
        simp only [Int.sub_mul, Int.mul_sub, Int.add_mul, Int.mul_add, Int.neg_mul, Int.mul_neg, Int.zero_mul, Int.mul_zero, Int.mul_comm M h, Int.neg_neg, ab]
        omega
      | 2, _, _, _ =>
        rw [x2, y2]
        simp only [Int.sub_mul, Int.mul_sub, Int.add_mul, Int.mul_add, Int.neg_mul, Int.mul_neg, Int.zero_mul, Int.mul_zero, Int.mul_comm M h, Int.neg_neg, ab]
        omega
      | 3, _, k1, k2 => exact absurd rfl k1
      | 4, _, k1, k2 => exact absurd rfl k2
      | 5, _, _, _ =>
        rw [x5, y5]
        simp only [Int.sub_mul, Int.mul_sub, Int.add_mul, Int.mul_add, Int.neg_mul, Int.mul_neg, Int.zero_mul, Int.mul_zero, Int.mul_comm M h, Int.neg_neg, ab]
        omega
      | 6, _, _, _ =>
        rw [x6, y6]
        simp only [Int.sub_mul, Int.mul_sub, Int.add_mul, Int.mul_add, Int.neg_mul, Int.mul_neg, Int.zero_mul, Int.mul_zero, Int.mul_comm M h, Int.neg_neg, ab]
        omega
      | 7, _, _, _ =>
        rw [x7, y7]
        simp only [Int.sub_mul, Int.mul_sub, Int.add_mul, Int.mul_add, Int.neg_mul, Int.mul_neg, Int.zero_mul, Int.mul_zero, Int.mul_comm M h, Int.neg_neg, ab]
        omega
      | j + 8, h, _, _ => omega
  | 4, _ =>
    rw [show nxt 8 4 = 5 from rfl, show nxt2 8 4 = 6 from rfl, x4, x5, x6, y4, y5, y6]
    refine ⟨?_, fun j hj k1 k2 => ?_⟩
    · simp only [Int.sub_mul, Int.mul_sub, Int.add_mul, Int.mul_add, Int.neg_mul, Int.mul_neg, Int.zero_mul, Int.mul_zero, Int.mul_comm M h, Int.neg_neg, ab]
      (repeat' split) <;> omega
    · match j, hj, k1, k2 with
      | 0, _, _, _ =>
        rw [x0, y0]
        simp only [Int.sub_mul, Int.mul_sub, Int.add_mul, Int.mul_add, Int.neg_mul, Int.mul_neg, Int.zero_mul, Int.mul_zero, Int.mul_comm M h, Int.neg_neg, ab]
        omega
      | 1, _, _, _ =>
        rw [x1, y1]
        simp only [Int.sub_mul, Int.mul_sub, Int.add_mul, Int.mul_add, Int.neg_mul, Int.mul_neg, Int.zero_mul, Int.mul_zero, Int.mul_comm M h, Int.neg_neg, ab]
        omega
      | 2, _, _, _ =>
        rw [x2, y2]
        simp only [Int.sub_mul, Int.mul_sub, Int.add_mul, Int.mul_add, Int.neg_mul, Int.mul_neg, Int.zero_mul, Int.mul_zero, Int.mul_comm M h, Int.neg_neg, ab]
        omega
      | 3, _, _, _ =>
        rw [x3, y3]
        simp only [Int.sub_mul, Int.mul_sub, Int.add_mul, Int.mul_add, Int.neg_mul, Int.mul_neg, Int.zero_mul, Int.mul_zero, Int.mul_comm M h, Int.neg_neg, ab]
        omega
      | 4, _, k1, k2 => exact absurd rfl k1
      | 5, _, k1, k2 => exact absurd rfl k2
      | 6, _, _, _ =>
        rw [x6, y6]
        simp only [Int.sub_mul, Int.mul_sub, Int.add_mul, Int.mul_add, Int.neg_mul, Int.mul_neg, Int.zero_mul, Int.mul_zero, Int.mul_comm M h, Int.neg_neg, ab]
        omega
      | 7, _, _, _ =>
        rw [x7, y7]
        simp only [Int.sub_mul, Int.mul_sub, Int.add_mul, Int.mul_add, Int.neg_mul, Int.mul_neg, Int.zero_mul, Int.mul_zero, Int.mul_comm M h, Int.neg_neg, ab]
        omega
      | j + 8, h, _, _ => omega
  | 5, _ =>
    rw [show nxt 8 5 = 6 from rfl, show nxt2 8 5 = 7 from rfl, x5, x6, x7, y5, y6, y7]
    refine ⟨?_, fun j hj k1 k2 => ?_⟩
    · simp only [Int.sub_mul, Int.mul_sub, Int.add_mul, Int.mul_add, Int.neg_mul, Int.mul_neg, Int.zero_mul, Int.mul_zero, Int.mul_comm M h, Int.neg_neg, ab]
      (repeat' split) <;> omega
    · match j, hj, k1, k2 with
      | 0, _, _, _ =>
        rw [x0, y0]
        simp only [Int.sub_mul, Int.mul_sub, Int.add_mul, Int.mul_add, Int.neg_mul, Int.mul_neg, Int.zero_mul, Int.mul_zero, Int.mul_comm M h, Int.neg_neg, ab]
        omega
      | 1, _, _, _ =>
        rw [x1, y1]
        simp only [Int.sub_mul, Int.mul_sub, Int.add_mul, Int.mul_add, Int.neg_mul, Int.mul_neg, Int.zero_mul, Int.mul_zero, Int.mul_comm M h, Int.neg_neg, ab]
        omega
      | 2, _, _, _ =>
        rw [x2, y2]
        simp only [Int.sub_mul, Int.mul_sub, Int.add_mul, Int.mul_add, Int.neg_mul, Int.mul_neg, Int.zero_mul, Int.mul_zero, Int.mul_comm M h, Int.neg_neg, ab]
        omega
      | 3, _, _, _ =>
        rw [x3, y3]
        simp only [Int.sub_mul, Int.mul_sub, Int.add_mul, Int.mul_add, Int.neg_mul, Int.mul_neg, Int.zero_mul, Int.mul_zero, Int.mul_comm M h, Int.neg_neg, ab]
        omega
      | 4, _, _, _ =>
        rw [x4, y4]
        simp only [Int.sub_mul, Int.mul_sub, Int.add_mul, Int.mul_add, Int.neg_mul, Int.mul_neg, Int.zero_mul, Int.mul_zero, Int.mul_comm M h, Int.neg_neg, ab]
        omega
      | 5, _, k1, k2 => exact absurd rfl k1
      | 6, _, k1, k2 => exact absurd rfl k2
      | 7, _, _, _ =>
        rw [x7, y7]
        simp only [Int.sub_mul, Int.mul_sub, Int.add_mul, Int.mul_add, Int.neg_mul, Int.mul_neg, Int.zero_mul, Int.mul_zero, Int.mul_comm M h, Int.neg_neg, ab]
        omega
      | j + 8, h, _, _ => omega
  | 6, _ =>
    rw [show nxt 8 6 = 7 from rfl, show nxt2 8 6 = 0 from rfl, x6, x7, x0, y6, y7, y0]
    refine ⟨?_, fun j hj k1 k2 => ?_⟩
    · simp only [Int.sub_mul, Int.mul_sub, Int.add_mul, Int.mul_add, Int.neg_mul, Int.mul_neg, Int.zero_mul, Int.mul_zero, Int.mul_comm M h, Int.neg_neg, ab]
      (repeat' split) <;> omega
    · match j, hj, k1, k2 with
      | 0, _, _, _ =>
        rw [x0, y0]
        simp only [Int.sub_mul, Int.mul_sub, Int.add_mul, Int.mul_add, Int.neg_mul, Int.mul_neg, Int.zero_mul, Int.mul_zero, Int.mul_comm M h, Int.neg_neg, ab]
        omega
      | 1, _, _, _ =>
        rw [x1, y1]
        simp only [Int.sub_mul, Int.mul_sub, Int.add_mul, Int.mul_add, Int.neg_mul, Int.mul_neg, Int.zero_mul, Int.mul_zero, Int.mul_comm M h, Int.neg_neg, ab]
        omega
      | 2, _, _, _ =>
        rw [x2, y2]
        simp only [Int.sub_mul, Int.mul_sub, Int.add_mul, Int.mul_add, Int.neg_mul, Int.mul_neg, Int.zero_mul, Int.mul_zero, Int.mul_comm M h, Int.neg_neg, ab]
        omega
      | 3, _, _, _ =>
        rw [x3, y3]
        simp only [Int.sub_mul, Int.mul_sub, Int.add_mul, Int.mul_add, Int.neg_mul, Int.mul_neg, Int.zero_mul, Int.mul_zero, Int.mul_comm M h, Int.neg_neg, ab]
        omega
      | 4, _, _, _ =>
        rw [x4, y4]
        simp only [Int.sub_mul, Int.mul_sub, Int.add_mul, Int.mul_add, Int.neg_mul, Int.mul_neg, Int.zero_mul, Int.mul_zero, Int.mul_comm M h, Int.neg_neg, ab]
        omega
      | 5, _, _, _ =>
        rw [x5, y5]
        simp only [Int.sub_mul, Int.mul_sub, Int.add_mul, Int.mul_add, Int.neg_mul, Int.mul_neg, Int.zero_mul, Int.mul_zero, Int.mul_comm M h, Int.neg_neg, ab]
        omega
      | 6, _, k1, k2 => exact absurd rfl k1
      | 7, _, k1, k2 => exact absurd rfl k2
      | j + 8, h, _, _ => omega
  | 7, _ =>
    rw [show nxt 8 7 = 0 from rfl, show nxt2 8 7 = 1 from rfl, x7, x0, x1, y7, y0, y1]
    refine ⟨?_, fun j hj k1 k2 => ?_⟩
    · simp only [Int.sub_mul, Int.mul_sub, Int.add_mul, Int.mul_add, Int.neg_mul, Int.mul_neg, Int.zero_mul, Int.mul_zero, Int.mul_comm M h, Int.neg_neg, ab]
      (repeat' split) <;> omega
    · match j, hj, k1, k2 with
      | 0, _, k1, k2 => exact absurd rfl k2
      | 1, _, _, _ =>
        rw [x1, y1]
        simp only [Int.sub_mul, Int.mul_sub, Int.add_mul, Int.mul_add, Int.neg_mul, Int.mul_neg, Int.zero_mul, Int.mul_zero, Int.mul_comm M h, Int.neg_neg, ab]
        omega
      | 2, _, _, _ =>
        rw [x2, y2]
        simp only [Int.sub_mul, Int.mul_sub, Int.add_mul, Int.mul_add, Int.neg_mul, Int.mul_neg, Int.zero_mul, Int.mul_zero, Int.mul_comm M h, Int.neg_neg, ab]
        omega
      | 3, _, _, _ =>
        rw [x3, y3]
        simp only [Int.sub_mul, Int.mul_sub, Int.add_mul, Int.mul_add, Int.neg_mul, Int.mul_neg, Int.zero_mul, Int.mul_zero, Int.mul_comm M h, Int.neg_neg, ab]
        omega
      | 4, _, _, _ =>
        rw [x4, y4]
        simp only [Int.sub_mul, Int.mul_sub, Int.add_mul, Int.mul_add, Int.neg_mul, Int.mul_neg, Int.zero_mul, Int.mul_zero, Int.mul_comm M h, Int.neg_neg, ab]
        omega
      | 5, _, _, _ =>
        rw [x5, y5]
        simp only [Int.sub_mul, Int.mul_sub, Int.add_mul, Int.mul_add, Int.neg_mul, Int.mul_neg, Int.zero_mul, Int.mul_zero, Int.mul_comm M h, Int.neg_neg, ab]
        omega
      | 6, _, _, _ =>
        rw [x6, y6]
        simp only [Int.sub_mul, Int.mul_sub, Int.add_mul, Int.mul_add, Int.neg_mul, Int.mul_neg, Int.zero_mul, Int.mul_zero, Int.mul_comm M h, Int.neg_neg, ab]
        omega
      | 7, _, k1, k2 => exact absurd rfl k1
      | j + 8, h, _, _ => omega
  | i + 8, h => omega
end Go.Ax
end

section
/-
  Made shapes are sound.
-/
set_option linter.unusedVariables false
set_option linter.unusedSimpArgs false
set_option maxHeartbeats 4000000
set_option maxRecDepth 100000
namespace Go.Ax
open Go.Proofs
theorem mk_lo {a b c : Int} (i : Nat) (hi : i < mkN a) : lo (mkX a b c i) ∧ lo (mkY a b c i) := by
  have b1 := @mkM_bd b b
  have b2 := @mkM_bd b c
  have t1 : (mkM b b).tdiv 2 = mkM b b / 2 := Int.tdiv_eq_ediv_of_nonneg (by omega)
  have t2 : (-mkM b b).tdiv 2 = -(mkM b b / 2) := by rw [Int.neg_tdiv, t1]
  unfold mkX mkY mkP
  unfold mkN at hi
  by_cases k0 : modS a 5 = 0
  · rw [if_pos k0] at hi; omega
  rw [if_neg k0] at hi
  by_cases k1 : modS a 5 = 1
  · rw [if_pos k1] at hi; omega
  rw [if_neg k1] at hi
  rw [t1, t2]
  generalize mkM b b = M at *
  generalize mkM b c = T at *
  by_cases k2 : modS a 5 = 2
  · rw [if_pos k2] at hi
    rw [if_pos k2]
    match i with
    | 0 => show lo (-M) ∧ lo (-T); unfold lo; omega
    | 1 => show lo M ∧ lo (-T); unfold lo; omega
    | 2 => show lo 0 ∧ lo T; unfold lo; omega
    | q + 3 => omega
  rw [if_neg k2] at hi
  rw [if_neg k2]
  by_cases k3 : modS a 5 = 3
  · rw [if_pos k3] at hi
    rw [if_pos k3]
    match i with
    | 0 => show lo (-(M / 2)) ∧ lo (-T); unfold lo; omega
    | 1 => show lo (M / 2) ∧ lo (-T); unfold lo; omega
    | 2 => show lo M ∧ lo 0; unfold lo; omega
    | 3 => show lo 0 ∧ lo T; unfold lo; omega
    | 4 => show lo (-M) ∧ lo 0; unfold lo; omega
    | q + 5 => omega
  rw [if_neg k3] at hi
  rw [if_neg k3]
  match i with
  | 0 => show lo M ∧ lo (-(M / 2)); unfold lo; omega
  | 1 => show lo M ∧ lo (M / 2); unfold lo; omega
  | 2 => show lo (M / 2) ∧ lo M; unfold lo; omega
  | 3 => show lo (-(M / 2)) ∧ lo M; unfold lo; omega
  | 4 => show lo (-M) ∧ lo (M / 2); unfold lo; omega
  | 5 => show lo (-M) ∧ lo (-(M / 2)); unfold lo; omega
  | 6 => show lo (-(M / 2)) ∧ lo (-M); unfold lo; omega
  | 7 => show lo (M / 2) ∧ lo (-M); unfold lo; omega
  | q + 8 => omega
theorem mk_cvx {a b c : Int} (k0 : modS a 5 ≠ 0) (k1 : modS a 5 ≠ 1) : cvxS (mkN a) (mkX a b c) (mkY a b c) = true := by
  have b1 := @mkM_bd b b
  have b2 := @mkM_bd b c
  have t1 : (mkM b b).tdiv 2 = mkM b b / 2 := Int.tdiv_eq_ediv_of_nonneg (by omega)
  have t2 : (-mkM b b).tdiv 2 = -(mkM b b / 2) := by rw [Int.neg_tdiv, t1]
  by_cases k2 : modS a 5 = 2
  · rw [show mkN a = 3 from by unfold mkN; rw [if_neg k0, if_neg k1, if_pos k2]]
    refine tri_cvx (M := mkM b b) (T := mkM b c) (by omega) (by omega) ?_ ?_ ?_ ?_ ?_ ?_ <;> (first | unfold mkX | unfold mkY) <;> unfold mkP <;> rw [if_pos k2] <;> rfl
  by_cases k3 : modS a 5 = 3
  · rw [show mkN a = 5 from by unfold mkN; rw [if_neg k0, if_neg k1, if_neg k2, if_pos k3]]
    refine pen_cvx (M := mkM b b) (T := mkM b c) (h := mkM b b / 2) (by omega) (by omega) (by omega) (by omega) ?_ ?_ ?_ ?_ ?_ ?_ ?_ ?_ ?_ ?_ <;> (first | unfold mkX | unfold mkY) <;> unfold mkP <;> rw [if_neg k2, if_pos k3, t1, t2] <;> rfl
  · rw [show mkN a = 8 from by unfold mkN; rw [if_neg k0, if_neg k1, if_neg k2, if_neg k3]]
    refine oct_cvx (M := mkM b b) (h := mkM b b / 2) (by omega) (by omega) (by omega) ?_ ?_ ?_ ?_ ?_ ?_ ?_ ?_ ?_ ?_ ?_ ?_ ?_ ?_ ?_ ?_ <;> (first | unfold mkX | unfold mkY) <;> unfold mkP <;> rw [if_neg k2, if_neg k3, t1, t2] <;> rfl
theorem mk_chk {a b c : Int} : chkS (mkK a) (mkR a b) (mkH a b b) (mkH a b c) (mkN a) (mkX a b c) (mkY a b c) = 0 := by
  have w1 := @mkW_bd b b
  have w2 := @mkW_bd b c
  by_cases k0 : modS a 5 = 0
  · unfold chkS mkK mkR mkH mkN
    rw [if_pos k0, if_pos k0, if_pos k0, if_pos k0, if_pos k0, if_pos rfl, if_neg (by simp), if_pos w1]
  by_cases k1 : modS a 5 = 1
  · unfold chkS mkK mkR mkH mkN
    rw [if_neg k0, if_neg k0, if_neg k0, if_neg k0, if_neg k0, if_pos k1, if_pos k1, if_pos k1, if_pos k1, if_neg (by decide), if_pos rfl, if_neg (by simp), if_pos ⟨w1, w2⟩]
  have hN : 3 ≤ mkN a ∧ mkN a ≤ 8 := by
    unfold mkN
    rw [if_neg k0, if_neg k1]
    (repeat' split) <;> omega
  have e1 : mkK a = 3 := by unfold mkK; rw [if_neg k0, if_neg k1]
  have e2 : mkR a b = 0 := if_neg k0
  have e3 : ∀ v, mkH a b v = 0 := fun v => by unfold mkH; rw [if_neg k0, if_neg k1]
  unfold chkS
  rw [e1, e2, e3, e3, if_neg (by decide), if_neg (by decide), if_pos rfl, if_neg (by omega), if_pos mk_lo, if_pos (mk_cvx k0 k1)]
end Go.Ax
end

section
/-
  Made bodies: their weights.
-/
set_option linter.unusedVariables false
set_option linter.unusedSimpArgs false
set_option maxHeartbeats 4000000
set_option maxRecDepth 100000
namespace Go.Ax
open Go.Proofs
theorem foAt_bd {x s : Int} (h : 1 ≤ s ∧ s ≤ 4000) : -17179869184000 ≤ x.tmod (s * 4294967296) ∧ x.tmod (s * 4294967296) ≤ 17179869184000 := by
  have h1 : x.tmod (s * 4294967296) < s * 4294967296 := Int.tmod_lt_of_pos x (by omega)
  have h2 : -(s * 4294967296) < x.tmod (s * 4294967296) := Int.lt_tmod_of_pos x (by omega)
  omega
end Go.Ax
end

section
/-
  Turns made of numbers are on the circle.
-/
set_option linter.unusedVariables false
set_option linter.unusedSimpArgs false
set_option maxHeartbeats 4000000
set_option maxRecDepth 100000
namespace Go.Ax
open Go.Proofs
def abZ (x : Int) : Int := if x < 0 then -x else x
theorem qt_pair {p : Int} (h : -13493037704 ≤ p ∧ p ≤ 13493037704) : ∃ q, (q = 6746518852 ∨ q = 6746518851) ∧ (-6746518852 ≤ qtV p ∧ qtV p ≤ 6746518852) ∧ abZ (qtV p) ≤ q ∧ (-6746518852 ≤ qtV (if 13493037704 < p + 6746518852 then p + 6746518852 - 26986075409 else p + 6746518852) ∧ qtV (if 13493037704 < p + 6746518852 then p + 6746518852 - 26986075409 else p + 6746518852) ≤ 6746518852) ∧ abZ (qtV (if 13493037704 < p + 6746518852 then p + 6746518852 - 26986075409 else p + 6746518852)) = q - abZ (qtV p) := by
  by_cases h1 : 6746518852 < p
  · refine ⟨6746518851, .inr rfl, ?_⟩
    rw [if_pos (by omega)]
    unfold qtV abZ
    (repeat' split) <;> omega
  · refine ⟨6746518852, .inl rfl, ?_⟩
    rw [if_neg (by omega)]
    unfold qtV abZ
    (repeat' split) <;> omega
theorem wpV_sh {p : Int} (h : -13493037704 ≤ p ∧ p ≤ 13493037704) : wpV (p + 6746518852) = if 13493037704 < p + 6746518852 then p + 6746518852 - 26986075409 else p + 6746518852 := by
  have e : (p + 6746518852).tmod 26986075409 = p + 6746518852 := by
    rcases Int.le_total 0 (p + 6746518852) with k | k
    · rw [Int.tmod_eq_emod_of_nonneg k, Int.emod_eq_of_lt k (by omega)]
    · have e2 : p + 6746518852 = -(-(p + 6746518852)) := by omega
      rw [e2, Int.neg_tmod, Int.tmod_eq_emod_of_nonneg (by omega), Int.emod_eq_of_lt (by omega) (by omega)]
  unfold wpV
  rw [e]
  split
  · rfl
  · rw [if_neg (by omega)]
def cl1 (x : Int) : Int := max (-4294967296) (min x 4294967296)
theorem snV_q {v : Int} (h : -1000000000000000 ≤ v ∧ v ≤ 1000000000000000) : snV v false = cl1 (sq (qtV (wpV v)) 8) ∧ snF v false = false := by
  have hp := @wpV_le v
  have hy : -6746518852 ≤ qtV (wpV v) ∧ qtV (wpV v) ≤ 6746518852 := by
    obtain ⟨q, h1, h2, h3, h4, h5⟩ := qt_pair hp
    exact h2
  have hs := sqj_le hy 8 (by omega)
  have e : snY v false = (qtV (wpV v), false) := by
    unfold snY
    rw [whV_in (by omega) (by omega), whF_in (by omega)]
  unfold snV snF
  rw [e, snS_eq hy 8 (by omega)]
  dsimp only
  rw [whV_in (by omega) (by omega), whF_in (by omega)]
  exact ⟨rfl, rfl⟩
theorem csV_q {v : Int} (h : -1000000000000000 ≤ v ∧ v ≤ 1000000000000000) : csV v false = cl1 (sq (qtV (if 13493037704 < wpV v + 6746518852 then wpV v + 6746518852 - 26986075409 else wpV v + 6746518852)) 8) ∧ csF v false = false := by
  have hp := @wpV_le v
  have e : nAdd (wpV (whV v), whF v false) (6746518852, false) = (wpV v + 6746518852, false) := by
    rw [whV_in (by omega) (by omega), whF_in (by omega)]
    unfold nAdd
    dsimp only
    rw [whV_in (by omega) (by omega), whV_in (by omega) (by omega), ftV_in (by omega) (by omega), ftF_in (by omega) (by omega), whF_in (by omega), whF_in (by omega)]
    rfl
  have k := @snV_q (wpV v + 6746518852) (by omega)
  rw [wpV_sh hp] at k
  unfold csV csF
  rw [e]
  exact k
theorem big_sq {x : Int} (h : 4294967296 ≤ x ∨ x ≤ -4294967296) : 18446744073709551616 ≤ x * x := by
  rcases h with h | h
  · have := Int.mul_le_mul h h (by omega) (by omega)
    omega
  · have := Int.mul_le_mul (a := 4294967296) (b := 4294967296) (c := -x) (d := -x) (by omega) (by omega) (by omega) (by omega)
    rw [Int.neg_mul_neg] at this
    omega
theorem cl1_sq {x : Int} : (cl1 x * cl1 x = x * x ∧ x * x ≤ 18446744073709551616) ∨ (cl1 x * cl1 x = 18446744073709551616 ∧ 18446744073709551616 ≤ x * x) := by
  by_cases h1 : 4294967296 < x
  · refine .inr ⟨?_, big_sq (.inl (by omega))⟩
    rw [show cl1 x = 4294967296 from by unfold cl1; omega]
    rfl
  by_cases h2 : x < -4294967296
  · refine .inr ⟨?_, big_sq (.inr (by omega))⟩
    rw [show cl1 x = -4294967296 from by unfold cl1; omega]
    rfl
  · refine .inl ⟨by rw [show cl1 x = x from by unfold cl1; omega], ?_⟩
    have := ab_mul (a := x) (b := x) (A := 4294967296) (B := 4294967296) (by omega) (by omega)
    omega
theorem sq_nn (x : Int) : 0 ≤ x * x := by
  rcases Int.le_total 0 x with h | h
  · exact Int.mul_nonneg h h
  · have := Int.mul_nonneg (a := -x) (b := -x) (by omega) (by omega)
    rw [Int.neg_mul_neg] at this
    exact this
theorem cl1_bd {x : Int} : -4294967296 ≤ cl1 x ∧ cl1 x ≤ 4294967296 := by unfold cl1; omega
theorem cl_circle {a b : Int} (h : -35184372088832 ≤ a * a + b * b - 18446744073709551616 ∧ a * a + b * b - 18446744073709551616 ≤ 35184372088832) :
    -35184372088832 ≤ cl1 a * cl1 a + cl1 b * cl1 b - 18446744073709551616 ∧ cl1 a * cl1 a + cl1 b * cl1 b - 18446744073709551616 ≤ 35184372088832 := by
  have ha := sq_nn a
  have hb := sq_nn b
  generalize ea : a * a = A at *
  generalize eb : b * b = B at *
  have ca := @cl1_sq a
  have cb := @cl1_sq b
  rw [ea] at ca
  rw [eb] at cb
  generalize cl1 a * cl1 a = P at *
  generalize cl1 b * cl1 b = Q at *
  omega
theorem foRot_ok (u : Int) : rotS (foRot u).1.1 (foRot u).1.2 (foRot u).2.1 (foRot u).2.2 = 0 := by
  have hv : -1000000000000000 ≤ u.tmod (8 * 4294967296) ∧ u.tmod (8 * 4294967296) ≤ 1000000000000000 := by
    have h1 : u.tmod (8 * 4294967296) < 8 * 4294967296 := Int.tmod_lt_of_pos u (by omega)
    have h2 : -(8 * 4294967296) < u.tmod (8 * 4294967296) := Int.lt_tmod_of_pos u (by omega)
    omega
  unfold foRot
  dsimp only
  generalize u.tmod (8 * 4294967296) = v at *
  have hp := @wpV_le v
  obtain ⟨q, q1, q2, q3, q4, q5⟩ := qt_pair hp
  have hc := sq_circle q2 q1 q3 q5
  obtain ⟨s1, s2⟩ := snV_q hv
  obtain ⟨c1, c2⟩ := csV_q hv
  rw [s1, s2, c1, c2]
  generalize sq (qtV (wpV v)) 8 = S at *
  generalize sq (qtV (if 13493037704 < wpV v + 6746518852 then wpV v + 6746518852 - 26986075409 else wpV v + 6746518852)) 8 = C at *
  have hk := cl_circle hc
  have k1 := @cl1_bd S
  have k2 := @cl1_bd C
  have e : (nDot (cl1 C, false) (cl1 C, false) (cl1 S, false) (cl1 S, false)).1 = (cl1 C * cl1 C + cl1 S * cl1 S).tdiv 4294967296 := by
    unfold nDot
    dsimp only
    rw [whV_in (by omega) (by omega), whV_in (by omega) (by omega)]
    have := @td_err (cl1 C * cl1 C + cl1 S * cl1 S) 4294967296 (by omega)
    exact ftV_in (by omega) (by omega)
  have hd := @td_err (cl1 C * cl1 C + cl1 S * cl1 S) 4294967296 (by omega)
  unfold rotS
  rw [e, whF_in (by omega), whF_in (by omega)]
  refine if_neg ?_
  simp
  omega
end Go.Ax
end

section
/-
  Made bodies are sound, and have a mass.
-/
set_option linter.unusedVariables false
set_option linter.unusedSimpArgs false
set_option maxHeartbeats 4000000
set_option maxRecDepth 100000
namespace Go.Ax
open Go.Proofs
theorem far_no {x : Int} (h : -17592186044416 ≤ x ∧ x ≤ 17592186044416) : farB (x, false) = false := by
  unfold farB
  dsimp only
  rw [whF_in (by omega), whV_in (by omega) (by omega)]
  have : ¬ 17592186044416 < ab x := by unfold ab; split <;> omega
  rw [decide_eq_false this]
  rfl
theorem mk_place {a b c x y u s : Int} (hs : 1 ≤ s ∧ s ≤ 4000) : plErr (mkK a) (mkR a b) (mkH a b b) (mkH a b c) (mkN a) (mkX a b c) (mkY a b c) (foAt x y s) (foRot u) = 0 := by
  have h1 := @foAt_bd x s hs
  have h2 := @foAt_bd y s hs
  unfold plErr
  rw [if_neg (by rw [mk_chk]; simp), if_neg (by rw [foRot_ok]; simp)]
  unfold foAt
  dsimp only
  rw [far_no (by omega), far_no (by omega)]
  rfl
theorem cor_lo {a b c : Int} (i : Nat) (hi : i < corN (mkK a) (mkR a b) (mkH a b b) (mkH a b c) (mkN a) (mkX a b c) (mkY a b c)) : lo (corX (mkK a) (mkH a b b) (mkH a b c) (mkX a b c) i) ∧ lo (corY (mkK a) (mkH a b b) (mkH a b c) (mkY a b c) i) := by
  have w1 := @mkW_bd b b
  have w2 := @mkW_bd b c
  have h1 : ∀ v, 0 ≤ mkH a b v ∧ mkH a b v ≤ 4096 := fun v => by
    have := @mkW_bd b v
    unfold mkH
    (repeat' split) <;> omega
  have h2 := h1 b
  have h3 := h1 c
  unfold corN at hi
  rw [if_pos mk_chk] at hi
  unfold corX corY
  split at hi
  · rename_i hk
    rw [if_pos hk, if_pos hk]
    match i with
    | 0 => show lo (-mkH a b b) ∧ lo (-mkH a b c); unfold lo; omega
    | 1 => show lo (mkH a b b) ∧ lo (-mkH a b c); unfold lo; omega
    | 2 => show lo (mkH a b b) ∧ lo (mkH a b c); unfold lo; omega
    | 3 => show lo (-mkH a b b) ∧ lo (mkH a b c); unfold lo; omega
    | i + 4 => omega
  · rename_i hk
    rw [if_neg hk, if_neg hk]
    exact mk_lo i hi
end Go.Ax
end

section
/-
  Corners with a margin stay convex when they are turned and rounded.
-/
set_option linter.unusedVariables false
set_option linter.unusedSimpArgs false
set_option maxHeartbeats 4000000
set_option maxRecDepth 100000
namespace Go.Ax
open Go.Proofs
/-- A corner lies far enough to the left of an edge. -/
def mg (ax ay bx byy cx cy : Int) : Prop := 2 * (ab (bx - ax) + ab (byy - ay) + (ab (cx - ax) + ab (cy - ay))) + 8 ≤ (bx - ax) * (cy - ay) - (byy - ay) * (cx - ax)
def mrg (n : Nat) (X Y : Nat → Int) : Prop := ∀ i, i < n → ∀ j, j < n → j ≠ i → j ≠ nxt n i → mg (X i) (Y i) (X (nxt n i)) (Y (nxt n i)) (X j) (Y j)
theorem abs_mul (x y : Int) : ab (x * y) = ab x * ab y := by rw [ab_natAbs, ab_natAbs, ab_natAbs, Int.natAbs_mul]; rfl
theorem abs_le (x : Int) : x ≤ ab x ∧ -x ≤ ab x := by unfold ab; split <;> omega
theorem abs_add (x y : Int) : ab (x + y) ≤ ab x + ab y := by unfold ab; (repeat' split) <;> omega
theorem abs_sub (x y : Int) : ab (x - y) ≤ ab x + ab y := by unfold ab; (repeat' split) <;> omega
theorem abs_bil {p q g h H K : Int} (hg : ab g ≤ H) (hh : ab h ≤ H) (hp : ab p + ab q ≤ K) : ab (p * h - q * g) ≤ H * K := by
  have h1 := abs_sub (p * h) (q * g)
  rw [abs_mul, abs_mul] at h1
  have k1 : ab p * ab h ≤ ab p * H := Int.mul_le_mul_of_nonneg_left hh (ab_nonneg _)
  have k2 : ab q * ab g ≤ ab q * H := Int.mul_le_mul_of_nonneg_left hg (ab_nonneg _)
  have k3 : (ab p + ab q) * H ≤ K * H := Int.mul_le_mul_of_nonneg_right hp (by have := ab_nonneg g; omega)
  rw [Int.add_mul] at k3
  rw [Int.mul_comm H K]
  omega
theorem abs_lin {c s x y S : Int} (hS : ab c + ab s ≤ S) : ab (c * x - s * y) + ab (s * x + c * y) ≤ S * (ab x + ab y) := by
  have h1 := abs_sub (c * x) (s * y)
  have h2 := abs_add (s * x) (c * y)
  rw [abs_mul, abs_mul] at h1 h2
  have k : (ab c + ab s) * (ab x + ab y) ≤ S * (ab x + ab y) := Int.mul_le_mul_of_nonneg_right hS (by have := ab_nonneg x; have := ab_nonneg y; omega)
  have e : (ab c + ab s) * (ab x + ab y) = ab c * ab x + ab s * ab y + (ab s * ab x + ab c * ab y) := by
    rw [Int.add_mul, Int.mul_add, Int.mul_add]; omega
  omega
theorem rot_cross {c s ex ey fx fy d1 d2 g1 g2 : Int} (hc : 18446462598732840960 ≤ c * c + s * s) (hS : ab c + ab s ≤ 6442450944)
    (h1 : ab d1 ≤ 4294967808) (h2 : ab d2 ≤ 4294967808) (h3 : ab g1 ≤ 4294967808) (h4 : ab g2 ≤ 4294967808)
    (hm : 2 * (ab ex + ab ey + (ab fx + ab fy)) + 8 ≤ ex * fy - ey * fx) :
    0 < (c * ex - s * ey + d1) * (s * fx + c * fy + g2) - (s * ex + c * ey + d2) * (c * fx - s * fy + g1) := by
  have e : (c * ex - s * ey + d1) * (s * fx + c * fy + g2) - (s * ex + c * ey + d2) * (c * fx - s * fy + g1)
      = (c * c + s * s) * (ex * fy - ey * fx) + ((c * ex - s * ey) * g2 - (s * ex + c * ey) * g1) - ((c * fx - s * fy) * d2 - (s * fx + c * fy) * d1) + (d1 * g2 - d2 * g1) := by grind
  have b1 := abs_bil (p := c * ex - s * ey) (q := s * ex + c * ey) h3 h4 (abs_lin hS)
  have b2 := abs_bil (p := c * fx - s * fy) (q := s * fx + c * fy) h1 h2 (abs_lin hS)
  have b3 := abs_bil (p := d1) (q := d2) (K := 8589935616) h3 h4 (by omega)
  have m := Int.mul_le_mul_of_nonneg_right hc (show 0 ≤ ex * fy - ey * fx by have := ab_nonneg ex; have := ab_nonneg ey; have := ab_nonneg fx; have := ab_nonneg fy; omega)
  rw [e]
  have l1 := abs_le ((c * ex - s * ey) * g2 - (s * ex + c * ey) * g1)
  have l2 := abs_le ((c * fx - s * fy) * d2 - (s * fx + c * fy) * d1)
  have l3 := abs_le (d1 * g2 - d2 * g1)
  have n1 := ab_nonneg ex
  have n2 := ab_nonneg ey
  have n3 := ab_nonneg fx
  have n4 := ab_nonneg fy
  generalize ab ex + ab ey = E at *
  generalize ab fx + ab fy = F at *
  generalize ex * fy - ey * fx = M at *
  generalize (c * c + s * s) * M = Q at *
  generalize (c * ex - s * ey) * g2 - (s * ex + c * ey) * g1 = r1 at *
  generalize (c * fx - s * fy) * d2 - (s * fx + c * fy) * d1 = r2 at *
  generalize d1 * g2 - d2 * g1 = r3 at *
  have hE : 0 ≤ E := by omega
  have hF : 0 ≤ F := by omega
  clear n1 n2 n3 n4 e h1 h2 h3 h4 hS hc
  omega
/-- The size of both numbers of a turn. -/
theorem rot_sum {c s : Int} (h : c * c + s * s ≤ 18447025548686262272) : ab c + ab s ≤ 6442450944 := by
  refine Int.not_lt.1 fun hn => ?_
  have a1 := ab_nonneg c
  have a2 := ab_nonneg s
  have e1 : ab c * ab c = c * c := by rw [← abs_mul]; have := sq0 c; unfold ab; rw [if_neg (by omega)]
  have e2 : ab s * ab s = s * s := by rw [← abs_mul]; have := sq0 s; unfold ab; rw [if_neg (by omega)]
  have q := sq0 (ab c - ab s)
  have w : 6442450945 * 6442450945 ≤ (ab c + ab s) * (ab c + ab s) := Int.mul_le_mul hn hn (by omega) (by omega)
  have e3 : (ab c - ab s) * (ab c - ab s) = ab c * ab c - 2 * (ab c * ab s) + ab s * ab s := by grind
  have e4 : (ab c + ab s) * (ab c + ab s) = ab c * ab c + 2 * (ab c * ab s) + ab s * ab s := by grind
  rw [e3] at q
  rw [e4] at w
  omega
/-- The turns that are made. -/
theorem foRot_bd (u : Int) : (foRot u).1.2 = false ∧ (foRot u).2.2 = false ∧ (-4294967296 ≤ (foRot u).1.1 ∧ (foRot u).1.1 ≤ 4294967296) ∧ (-4294967296 ≤ (foRot u).2.1 ∧ (foRot u).2.1 ≤ 4294967296) ∧
    18446708889337462784 ≤ (foRot u).1.1 * (foRot u).1.1 + (foRot u).2.1 * (foRot u).2.1 ∧ (foRot u).1.1 * (foRot u).1.1 + (foRot u).2.1 * (foRot u).2.1 ≤ 18446779258081640448 := by
  have hv : -1000000000000000 ≤ u.tmod (8 * 4294967296) ∧ u.tmod (8 * 4294967296) ≤ 1000000000000000 := by
    have h1 : u.tmod (8 * 4294967296) < 8 * 4294967296 := Int.tmod_lt_of_pos u (by omega)
    have h2 : -(8 * 4294967296) < u.tmod (8 * 4294967296) := Int.lt_tmod_of_pos u (by omega)
    omega
  unfold foRot
  dsimp only
  generalize u.tmod (8 * 4294967296) = v at *
  have hp := @wpV_le v
  obtain ⟨q, q1, q2, q3, q4, q5⟩ := qt_pair hp
  have hc := sq_circle q2 q1 q3 q5
  obtain ⟨s1, s2⟩ := snV_q hv
  obtain ⟨c1, c2⟩ := csV_q hv
  rw [s1, s2, c1, c2]
  generalize sq (qtV (wpV v)) 8 = S at *
  generalize sq (qtV (if 13493037704 < wpV v + 6746518852 then wpV v + 6746518852 - 26986075409 else wpV v + 6746518852)) 8 = C at *
  have hk := cl_circle hc
  exact ⟨rfl, rfl, cl1_bd, cl1_bd, by omega, by omega⟩
theorem nRat_loc {x : Int} (h : lo x) : nRat x 256 = (x * 16777216, false) := by
  unfold lo at h
  have e : (x * 4294967296).tdiv 256 = x * 16777216 := by
    rw [show x * 4294967296 = x * 16777216 * 256 by omega]
    exact Int.mul_tdiv_cancel _ (by decide)
  unfold nRat raV raF
  rw [if_neg (by decide), if_neg (by decide), e, ftV_of (by unfold rg; omega), ftF_of (by unfold rg; omega)]
  rfl
theorem nAdd_in {a b : Int} (ha : -4611686018427387903 ≤ a ∧ a ≤ 4611686018427387903) (hb : -4611686018427387903 ≤ b ∧ b ≤ 4611686018427387903) : nAdd (a, false) (b, false) = (a + b, false) := by
  unfold nAdd
  dsimp only
  rw [whV_of (by unfold rg; omega), whV_of (by unfold rg; omega), whF_of (by unfold rg; omega), whF_of (by unfold rg; omega), ftV_of (by unfold rg; omega), ftF_of (by unfold rg; omega)]
  rfl
theorem nNeg_in {a : Int} (ha : -4611686018427387903 ≤ a ∧ a ≤ 4611686018427387903) : nNeg (a, false) = (-a, false) := by
  unfold nNeg
  dsimp only
  rw [whV_of (by unfold rg; omega), whF_of (by unfold rg; omega)]
/-- A coordinate of a corner, turned. -/
theorem nDot_loc {c s x y : Int} (hc : -4294967296 ≤ c ∧ c ≤ 4294967296) (hs : -4294967296 ≤ s ∧ s ≤ 4294967296) (hx : lo x) (hy : lo y) :
    ∃ t, nDot (c, false) (x * 16777216, false) (s, false) (y * 16777216, false) = (t, false) ∧ -256 ≤ 256 * t - (c * x + s * y) ∧ 256 * t - (c * x + s * y) ≤ 256 ∧ -35184372088832 ≤ c * x + s * y ∧ c * x + s * y ≤ 35184372088832 := by
  have m1 := mul_bd (A := 4294967296) (B := 4096) (by omega) hc hx
  have m2 := mul_bd (A := 4294967296) (B := 4096) (by omega) hs hy
  have e : c * (x * 16777216) + s * (y * 16777216) = (c * x + s * y) * 16777216 := by rw [← Int.mul_assoc, ← Int.mul_assoc, ← Int.add_mul]
  have d := td_err (x := (c * x + s * y) * 16777216) (k := 4294967296) (by decide)
  refine ⟨((c * x + s * y) * 16777216).tdiv 4294967296, ?_, by omega, by omega, by omega, by omega⟩
  unfold nDot
  dsimp only
  unfold lo at hx hy
  rw [whV_of (by unfold rg; omega), whV_of (by unfold rg; omega), whV_of (by unfold rg; omega), whV_of (by unfold rg; omega), whF_of (by unfold rg; omega), whF_of (by unfold rg; omega), whF_of (by unfold rg; omega), whF_of (by unfold rg; omega), e,
    ftV_of (by unfold rg; omega), ftF_of (by unfold rg; omega)]
  rfl
theorem spV_in {a : Int} (h : -18014398509481984 ≤ a ∧ a ≤ 18014398509481984) : spV (a, false) = (a * 256 + 2147483648) / 4294967296 := by
  have e : nInt 256 = (1099511627776, false) := by decide
  have e2 : (a * 1099511627776).tdiv 4294967296 = a * 256 := by
    rw [show a * 1099511627776 = a * 256 * 4294967296 by omega]
    exact Int.mul_tdiv_cancel _ (by decide)
  unfold spV nMul
  rw [e]
  dsimp only
  rw [whV_of (v := a) (by unfold rg; omega), whV_of (v := 1099511627776) (by unfold rg; omega), e2, ftV_of (by unfold rg; omega), whV_of (by unfold rg; omega)]
/-- Where a corner comes to lie. -/
theorem pl_err {ax ay c s x y : Int} (ha : -17592186044416 ≤ ax ∧ ax ≤ 17592186044416) (ha2 : -17592186044416 ≤ ay ∧ ay ≤ 17592186044416) (hc : -4294967296 ≤ c ∧ c ≤ 4294967296) (hs : -4294967296 ≤ s ∧ s ≤ 4294967296) (hx : lo x) (hy : lo y) :
    (∃ d, 4294967296 * spV (plPt ((ax, false), (ay, false)) ((c, false), (s, false)) x y).1 = 256 * ax + (c * x - s * y) + d ∧ ab d ≤ 2147483904) ∧
    (∃ d, 4294967296 * spV (plPt ((ax, false), (ay, false)) ((c, false), (s, false)) x y).2 = 256 * ay + (s * x + c * y) + d ∧ ab d ≤ 2147483904) := by
  obtain ⟨t, h1, h2, h3, h4, h5⟩ := nDot_loc hc (s := -s) (by omega) hx hy
  obtain ⟨t', k1, k2, k3, k4, k5⟩ := nDot_loc hs (s := c) hc hx hy
  rw [Int.neg_mul] at h2 h3 h4 h5
  have e : plPt ((ax, false), (ay, false)) ((c, false), (s, false)) x y = ((ax + t, false), (ay + t', false)) := by
    unfold plPt vAdd vApply vLoc
    dsimp only
    rw [nRat_loc hx, nRat_loc hy, nNeg_in (by omega), h1, k1, nAdd_in (by omega) (by omega), nAdd_in (by omega) (by omega)]
  rw [e]
  dsimp only
  rw [spV_in (by omega), spV_in (by omega)]
  refine ⟨⟨4294967296 * (((ax + t) * 256 + 2147483648) / 4294967296) - (256 * ax + (c * x - s * y)), by omega, ?_⟩, ⟨4294967296 * (((ay + t') * 256 + 2147483648) / 4294967296) - (256 * ay + (s * x + c * y)), by omega, ?_⟩⟩
  · have := Int.emod_nonneg ((ax + t) * 256 + 2147483648) (show (4294967296 : Int) ≠ 0 by decide)
    have := Int.emod_lt_of_pos ((ax + t) * 256 + 2147483648) (show (0 : Int) < 4294967296 by decide)
    have := Int.emod_add_mul_ediv ((ax + t) * 256 + 2147483648) 4294967296
    unfold ab
    split <;> omega
  · have := Int.emod_nonneg ((ay + t') * 256 + 2147483648) (show (4294967296 : Int) ≠ 0 by decide)
    have := Int.emod_lt_of_pos ((ay + t') * 256 + 2147483648) (show (0 : Int) < 4294967296 by decide)
    have := Int.emod_add_mul_ediv ((ay + t') * 256 + 2147483648) 4294967296
    unfold ab
    split <;> omega
theorem turn_of {ax ay bx byy cx cy D1 D2 F1 F2 : Int} (h1 : 4294967296 * (bx - ax) = D1) (h2 : 4294967296 * (byy - ay) = D2) (h3 : 4294967296 * (cx - ax) = F1) (h4 : 4294967296 * (cy - ay) = F2) (h : 0 < D1 * F2 - D2 * F1) : 0 < turnS ax ay bx byy cx cy := by
  unfold turnS
  have e : D1 * F2 - D2 * F1 = 18446744073709551616 * ((bx - ax) * (cy - ay) - (byy - ay) * (cx - ax)) := by
    rw [← h1, ← h2, ← h3, ← h4]; grind
  omega
/-- A polygon with a margin, turned and rounded, is convex. -/
theorem pl_cvx {n : Nat} {X Y : Nat → Int} {ax ay c s : Int} (hn : 3 ≤ n) (hl : ∀ i, i < n → lo (X i) ∧ lo (Y i)) (hm : mrg n X Y) (ha : -17179869184000 ≤ ax ∧ ax ≤ 17179869184000) (ha2 : -17179869184000 ≤ ay ∧ ay ≤ 17179869184000)
    (hc : -4294967296 ≤ c ∧ c ≤ 4294967296) (hs : -4294967296 ≤ s ∧ s ≤ 4294967296) (h1 : 18446462598732840960 ≤ c * c + s * s) (h2 : c * c + s * s ≤ 18447025548686262272) {Z T : Nat → Int}
    (hZ : ∀ i, i < n → Z i = spV (plPt ((ax, false), (ay, false)) ((c, false), (s, false)) (X i) (Y i)).1) (hT : ∀ i, i < n → T i = spV (plPt ((ax, false), (ay, false)) ((c, false), (s, false)) (X i) (Y i)).2) : convexS n Z T = true := by
  have hE : ∀ i, i < n → (∃ d, 4294967296 * Z i = 256 * ax + (c * X i - s * Y i) + d ∧ ab d ≤ 2147483904) ∧ (∃ d, 4294967296 * T i = 256 * ay + (s * X i + c * Y i) + d ∧ ab d ≤ 2147483904) := fun i hi => by
    rw [hZ i hi, hT i hi]
    exact pl_err (by omega) (by omega) hc hs (hl i hi).1 (hl i hi).2
  refine convexS_iff.2 ⟨hn, fun i hi => ?_, fun i hi j hj k1 k2 => ?_⟩
  · obtain ⟨⟨d, q1, q2⟩, ⟨g, q3, q4⟩⟩ := hE i hi
    have m1 := mul_bd (A := 4294967296) (B := 4096) (by omega) hc (hl i hi).1
    have m2 := mul_bd (A := 4294967296) (B := 4096) (by omega) hs (hl i hi).2
    have m3 := mul_bd (A := 4294967296) (B := 4096) (by omega) hs (hl i hi).1
    have m4 := mul_bd (A := 4294967296) (B := 4096) (by omega) hc (hl i hi).2
    have a1 := abs_le d
    have a2 := abs_le g
    rw [validS_iff]
    omega
  · have hx := nxt_lt hi
    obtain ⟨⟨d, q1, q2⟩, ⟨g, q3, q4⟩⟩ := hE i hi
    obtain ⟨⟨d', q5, q6⟩, ⟨g', q7, q8⟩⟩ := hE _ hx
    obtain ⟨⟨d'', q9, q10⟩, ⟨g'', q11, q12⟩⟩ := hE j hj
    have hmm := hm i hi j hj k1 k2
    have b1 := abs_sub d' d
    have b2 := abs_sub g' g
    have b3 := abs_sub d'' d
    have b4 := abs_sub g'' g
    have r := rot_cross (ex := X (nxt n i) - X i) (ey := Y (nxt n i) - Y i) (fx := X j - X i) (fy := Y j - Y i) (d1 := d' - d) (d2 := g' - g) (g1 := d'' - d) (g2 := g'' - g) h1 (rot_sum h2) (by omega) (by omega) (by omega) (by omega) hmm
    have e : ∀ x y z w : Int, c * (x - y) - s * (z - w) = c * x - s * z - (c * y - s * w) := fun x y z w => by grind
    have e' : ∀ x y z w : Int, s * (x - y) + c * (z - w) = s * x + c * z - (s * y + c * w) := fun x y z w => by grind
    refine turn_of (D1 := c * (X (nxt n i) - X i) - s * (Y (nxt n i) - Y i) + (d' - d)) (D2 := s * (X (nxt n i) - X i) + c * (Y (nxt n i) - Y i) + (g' - g)) (F1 := c * (X j - X i) - s * (Y j - Y i) + (d'' - d)) (F2 := s * (X j - X i) + c * (Y j - Y i) + (g'' - g)) ?_ ?_ ?_ ?_ r
    · rw [e]; omega
    · rw [e']; omega
    · rw [e]; omega
    · rw [e']; omega
end Go.Ax
end
