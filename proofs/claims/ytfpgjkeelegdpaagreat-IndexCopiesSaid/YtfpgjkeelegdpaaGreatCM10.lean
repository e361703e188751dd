/-
  The laws' tables: Copy, Take, Free.
-/
import Derived.Test.YtfpgjkeelegdpaaGreatCM9
set_option linter.unusedVariables false
set_option linter.unusedSimpArgs false
set_option maxHeartbeats 4000000
set_option maxRecDepth 100000
namespace Go.Ax
open Go.Proofs
theorem F42_eq {x : Int} {n : Nat} {g : Nat → List AV} : F42 [.rop [u64 x, .ro n 1 g]] = some ([0 < n, n ≤ 64, ints n g], fun k => .bx k 0, fun k => some (slF k ⟨x, n, gx g 0, noRows⟩)) := (rfl)
theorem c43_eq {a b : AV} : c43 [a, b] = c43f (roP a) (roP b) := (rfl)
theorem c43f_some {o1 o2 : List Prop} {n m : Nat} {X Y : Nat → Int × Int} : c43f (some (o1, n, X)) (some (o2, m, Y)) = some ((n ≤ 100000) :: (o1 ++ o2), bo (decide (lP n X = lP m Y))) := (rfl)
theorem famNK_S' {key : Nat} {x : Int} {n : Nat} {X : Nat → Int} : famNK key (famR [⟨1, 2, 100, fun _ => [u64 x, .own key 1 n 1], none⟩, ⟨n, 1, 3, fun i => [i64 (X i)], none⟩] noRows) = True := famNK_S
theorem famR_n2 {x y z : Row} {l : List Row} {T0 : Fam} : famR [x, y] (famR (z :: l) T0) 2 = z := (rfl)
theorem famR_n3 {x y z u : Row} {l : List Row} {T0 : Fam} : famR [x, y] (famR (z :: u :: l) T0) 3 = u := (rfl)
attribute [go_sem] famR_n2 famR_n3 F42_eq c43_eq c43f_some famNK_S' tlOK_no
theorem tkS_n {s : SlS} : (tkS s).n = s.n := by unfold tkS; split <;> rfl
theorem tkS_t {s : SlS} : (tkS s).tl = s.tl := by unfold tkS; split <;> rfl
theorem frS_n {s : SlS} {a g : Int} : (frS s a g).n = s.n := by unfold frS; split <;> rfl
theorem frS_t {s : SlS} {a g : Int} : (frS s a g).tl = s.tl := by unfold frS; split <;> rfl
theorem slOK_tk {s : SlS} (h : slOK s) : slOK (tkS s) := by
  obtain ⟨⟨h0, h1⟩, ⟨h2, h3⟩, h4⟩ := h
  have hle : tkI s ≤ s.n := lst_le s.n
  unfold tkS
  split
  · rename_i hlt
    refine ⟨⟨?_, ?_⟩, ⟨h2, h3⟩, fun i hi => ?_⟩
    · show 0 ≤ setX _ _
      unfold setX; omega
    · show setX _ _ < _
      unfold setX
      have := setN_lt (a := s.x.toNat) (k := tkI s) (by omega) (by omega)
      rw [Int.toNat_natCast]; omega
    · show 0 ≤ upI _ _ _ i
      unfold upI
      have := h4 i hi
      have := h4 _ hlt
      split <;> omega
  · exact ⟨⟨h0, h1⟩, ⟨h2, h3⟩, h4⟩
theorem slOK_fr {s : SlS} {a g : Int} (h : slOK s) : slOK (frS s a g) := by
  obtain ⟨⟨h0, h1⟩, ⟨h2, h3⟩, h4⟩ := h
  unfold frS
  split
  · refine ⟨⟨?_, ?_⟩, ⟨h2, h3⟩, h4⟩
    · show 0 ≤ clrX _ _
      unfold clrX; omega
    · show clrX _ _ < _
      unfold clrX
      have := clrN_lt (a := s.x.toNat) (k := 2 ^ a.toNat) (by omega)
      omega
  · exact ⟨⟨h0, h1⟩, ⟨h2, h3⟩, h4⟩
end Go.Ax
