/-
  What arguments read as, seen as abstract values.
-/
import Derived.Test.YtdebekhncimenaaAxN
import Derived.OpenShut
import Derived.ProofKit
set_option linter.unusedSimpArgs false
set_option linter.unusedVariables false
namespace Go.Ax

/-- What is in a cell. -/
inductive Sh where
  | int (k : IntKind)
  | bool
  | slice (sz : Nat) (es : List Sh)

mutual
def fitA : Sh → AV → Prop
  | .int k, a => ∃ n, a = .v (.int k n) ∧ (Lit.int k n).wf = true
  | .bool, a => ∃ b, a = .v (.bool b)
  | .slice sz es, a => ∃ (n : Nat) (get : Nat → List AV), a = .ro n sz get ∧ n ≤ maxLen ∧ ∀ i, fitS es (get i)
def fitS : List Sh → List AV → Prop
  | [], l => l = []
  | s :: ss, l => ∃ a r, l = a :: r ∧ fitA s a ∧ fitS ss r
end
mutual
def dfl : Sh → AV
  | .int k => .v (.int k 0)
  | .bool => .v (.bool false)
  | .slice sz es => .ro 0 sz (fun _ => dfls es)
def dfls : List Sh → List AV
  | [] => []
  | s :: ss => dfl s :: dfls ss
end
theorem wf_zero (k : IntKind) : (Lit.int k 0).wf = true := by cases k <;> decide
mutual
theorem fit_dfl : ∀ s, fitA s (dfl s)
  | .int k => by rw [fitA, dfl]; exact ⟨0, rfl, wf_zero k⟩
  | .bool => by rw [fitA, dfl]; exact ⟨false, rfl⟩
  | .slice sz es => by rw [fitA, dfl]; exact ⟨0, _, rfl, Nat.zero_le _, fun _ => fit_dfls es⟩
theorem fit_dfls : ∀ ss, fitS ss (dfls ss)
  | [] => by rw [fitS, dfls]
  | s :: ss => by rw [fitS, dfls]; exact ⟨_, _, rfl, fit_dfl s, fit_dfls ss⟩
end
theorem fitS_length : ∀ {ss : List Sh} {l : List AV}, fitS ss l → l.length = ss.length
  | [], l, h => by rw [fitS] at h; rw [h]; rfl
  | s :: ss, l, h => by
    rw [fitS] at h
    obtain ⟨a, r, rfl, _, h⟩ := h
    simp [fitS_length h]
theorem fitS_append : ∀ {ss ts : List Sh} {l m : List AV}, fitS ss l → fitS ts m → fitS (ss ++ ts) (l ++ m)
  | [], ts, l, m, h, k => by rw [fitS] at h; subst h; exact k
  | s :: ss, ts, l, m, h, k => by
    rw [fitS] at h
    obtain ⟨a, r, rfl, h1, h2⟩ := h
    show fitS (s :: (ss ++ ts)) (a :: (r ++ m))
    rw [fitS]
    exact ⟨a, r ++ m, rfl, h1, fitS_append h2 k⟩

def shFs (P : Program) (sh : TypeId → Option (List Sh)) : List Field → Nat → Option (List Sh)
  | [], _ => some []
  | f :: fs, off => if f.offset = off then match sh f.type with
      | some es => if es.length = P.cellsOf f.type then match shFs P sh fs (off + es.length) with
          | some r => some (es ++ r)
          | none => none
        else none
      | none => none
    else none
/-- What is in the cells of a type. -/
def shT (P : Program) : Nat → TypeId → Option (List Sh)
  | 0, _ => none
  | d + 1, t => match P.underlying t with
    | some .bool => some [.bool]
    | some (.int k) => some [.int k]
    | some (.slice e) => match shT P d e with
      | some es => if es.length = P.cellsOf e ∧ 0 < es.length then some [.slice (P.cellsOf e) es] else none
      | none => none
    | some (.struct fs) => match shFs P (shT P d) fs.toList 0 with
      | some r => if r.length = P.cellsOf t then some r else none
      | none => none
    | some (.array n e) => match shT P d e with
      | some es => if es.length = P.cellsOf e ∧ n * es.length = P.cellsOf t then some (List.replicate n es).flatten else none
      | none => none
    | _ => none

section
variable {H : Type} {enc : TypeId × Value → H} {P : Program} {w : World} {spare : Nat → Bool} {held : Bool}

theorem take_drop_add {α : Type} (l : List α) (o a b : Nat) : (l.drop o).take (a + b) = (l.drop o).take a ++ (l.drop (o + a)).take b := by
  rw [List.take_add, List.drop_drop]

theorem fields_read {sh : TypeId → Option (List Sh)} {n : Nat} {cs : List Value} (ih : ∀ t ss cs x, sh t = some ss → DataW.trod enc P w 0 spare held n t cs = some x → ∃ l, fitS ss l ∧ Rs w (.ext (All w)) l cs) :
    ∀ (fs : List Field) (off : Nat) (ss : List Sh), shFs P sh fs off = some ss → (∀ f ∈ fs, ∃ x, DataW.trod enc P w 0 spare held n f.type ((cs.drop f.offset).take (P.cellsOf f.type)) = some x) →
      ∃ l, fitS ss l ∧ Rs w (.ext (All w)) l ((cs.drop off).take ss.length)
  | [], off, ss, h, _ => by
    simp only [shFs, Option.some.injEq] at h
    subst h
    exact ⟨[], by rw [fitS], by simpa using Rs.nil⟩
  | f :: fs, off, ss, h, hf => by
    simp only [shFs] at h
    split at h
    · rename_i ho
      split at h
      · rename_i es hes
        split at h
        · rename_i hl
          split at h
          · rename_i r hr
            cases h
            obtain ⟨x, hx⟩ := hf f (by simp)
            obtain ⟨l1, a1, a2⟩ := ih _ _ _ _ hes hx
            obtain ⟨l2, b1, b2⟩ := fields_read ih fs _ r hr (fun g hg => hf g (by simp [hg]))
            refine ⟨l1 ++ l2, fitS_append a1 b1, ?_⟩
            rw [List.length_append, take_drop_add]
            rw [ho, ← hl] at a2
            exact a2.append b2
          · cases h
        · cases h
      · cases h
    · cases h

theorem array_read {n : Nat} {cs : List Value} {es : List Sh} {k : Nat} (hk : es.length = k) : ∀ (len off : Nat), (∀ i, i < len → ∃ l, fitS es l ∧ Rs w (.ext (All w)) l ((cs.drop (off + i * k)).take k)) →
      ∃ l, fitS (List.replicate len es).flatten l ∧ Rs w (.ext (All w)) l ((cs.drop off).take (len * k))
  | 0, off, _ => ⟨[], by simp [fitS], by simpa using Rs.nil⟩
  | len + 1, off, h => by
    obtain ⟨l1, a1, a2⟩ := h 0 (by omega)
    obtain ⟨l2, b1, b2⟩ := array_read (n := n) hk len (off + k) (fun i hi => by
      obtain ⟨l, c1, c2⟩ := h (i + 1) (by omega)
      refine ⟨l, c1, ?_⟩
      rw [show off + k + i * k = off + (i + 1) * k by rw [Nat.add_mul]; omega]
      exact c2)
    refine ⟨l1 ++ l2, ?_, ?_⟩
    · rw [List.replicate_succ, List.flatten_cons]
      exact fitS_append a1 b1
    · rw [show (len + 1) * k = k + len * k by rw [Nat.add_mul]; omega, take_drop_add]
      simp only [Nat.zero_mul, Nat.add_zero] at a2
      exact a2.append b2

/-- Cells that read as data of a type are as its shape says. -/
theorem cells_read : ∀ (d : Nat) (t : TypeId) (ss : List Sh) (fuel : Nat) (cs : List Value) (x : DataW H × List MemPlace), shT P d t = some ss → DataW.trod enc P w 0 spare held fuel t cs = some x → ∃ l, fitS ss l ∧ Rs w (.ext (All w)) l cs
  | 0, t, ss, fuel, cs, x, h, _ => by simp [shT] at h
  | d + 1, t, ss, fuel, cs, x, h, hx => by
    simp only [shT] at h
    split at h
    · rename_i hu
      cases h
      obtain ⟨b, rfl, _⟩ := DataW.trod_bool hu hx
      exact ⟨[.v (.bool b)], by simp [fitS, fitA], Rs.cons .v .nil⟩
    · rename_i k hu
      cases h
      obtain ⟨n, rfl, _, hw⟩ := DataW.trod_int hu hx
      exact ⟨[.v (.int k n)], by simp [fitS, fitA, hw], Rs.cons .v .nil⟩
    · rename_i e hu
      split at h
      · rename_i es hes
        split at h
        · rename_i hl
          cases h
          rcases DataW.trod_slice hu hx with ⟨rfl, _⟩ | ⟨a, len, cap, elems, rest, n, rfl, rfl, _, hb, hlc, hm, hel, hread, _⟩
          · refine ⟨[.ro 0 (P.cellsOf e) (fun _ => dfls es)], by simp only [fitS, fitA]; exact ⟨_, [], rfl, ⟨0, _, rfl, Nat.zero_le _, fun _ => fit_dfls es⟩, rfl⟩, Rs.cons ?_ .nil⟩
            exact .ro 0 0 (Nat.zero_le _) (fun h => by omega) (fun h => by omega) (fun i h => by omega) (fun i k h => by omega) (fun i k c x h => by omega)
          · have elem : ∀ i, i < len → ∃ c l, w.cells? 0 (a.add (i * P.cellsOf e)) (P.cellsOf e) = some c ∧ fitS es l ∧ Rs w (.ext (All w)) l c := fun i hi => by
              have h1 := hread i hi
              have h2 : i < elems.length := by omega
              rw [List.getElem?_eq_getElem h2] at h1
              obtain ⟨c, h3, h4⟩ := Option.bind_eq_some_iff.1 h1
              obtain ⟨l, h5, h6⟩ := cells_read d e es n c _ hes h4
              exact ⟨c, l, h3, h5, h6⟩
            obtain ⟨b, o, spot⟩ := a
            have spot0 : 0 < len → spot = none := fun h0 => by
              obtain ⟨c, l, h1, h2, h3⟩ := elem 0 h0
              obtain ⟨_, h5, h6⟩ := World.cells?_some h1
              have h7 := h6 0 (by omega)
              have h8 : ∃ v, c[0]? = some v := ⟨_, List.getElem?_eq_getElem (by rw [h5]; omega)⟩
              obtain ⟨v, h8⟩ := h8
              rw [h8] at h7
              simpa [Addr.add] using World.cell?_spot h7
            have pick : ∀ i, ∃ l, fitS es l ∧ (i < len → ∃ c, w.cells? 0 ((⟨b, o, spot⟩ : Addr).add (i * P.cellsOf e)) (P.cellsOf e) = some c ∧ Rs w (.ext (All w)) l c) := fun i => by
              by_cases hi : i < len
              · obtain ⟨c, l, h1, h2, h3⟩ := elem i hi
                exact ⟨l, h2, fun _ => ⟨c, h1, h3⟩⟩
              · exact ⟨dfls es, fit_dfls es, fun h => absurd h hi⟩
            obtain ⟨get, hget⟩ := Classical.axiomOfChoice pick
            refine ⟨[.ro len (P.cellsOf e) get], ?_, Rs.cons ?_ .nil⟩
            · simp only [fitS, fitA]
              exact ⟨_, [], rfl, ⟨len, get, rfl, by omega, fun i => (hget i).1⟩, rfl⟩
            · have cell : ∀ i k, i < len → k < P.cellsOf e → ∃ c v, w.cell? ⟨b, o + i * P.cellsOf e + k, none⟩ = some v ∧ c[k]? = some v ∧ Rs w (.ext (All w)) (get i) c := fun i k hi hk => by
                obtain ⟨c, h1, h2⟩ := (hget i).2 hi
                obtain ⟨_, h5, h6⟩ := World.cells?_some h1
                have h8 : c[k]? = some c[k] := List.getElem?_eq_getElem (by rw [h5]; exact hk)
                have h7 := h6 k hk
                rw [h8] at h7
                refine ⟨c, _, ?_, h8, h2⟩
                rw [spot0 (by omega), add_eq, add_eq] at h7
                exact h7
              refine .ro b o hlc (fun h => by rw [spot0 h]) (fun h => ?_) (fun i hi => ?_) (fun i k hi hk => ?_) (fun i k c v hi hc hv => ?_)
              · obtain ⟨c, v, h1, _⟩ := cell 0 0 h (by omega)
                exact World.block_lt_of_cell? w _ h1
              · rw [fitS_length (hget i).1]; exact hl.1
              · obtain ⟨c, v, h1, _⟩ := cell i k hi hk
                exact ⟨v, h1⟩
              · have hk : k < P.cellsOf e := by
                  have := (List.getElem?_eq_some_iff.1 hc).1
                  rw [fitS_length (hget i).1, hl.1] at this
                  exact this
                obtain ⟨c', v', h1, h2, h3⟩ := cell i k hi hk
                have hv : w.cell? ⟨b, o + i * P.cellsOf e + k, none⟩ = some v := hv
                rw [h1] at hv
                cases hv
                exact h3.2 k c _ hc h2
        · cases h
      · cases h
    · rename_i fs hu
      split at h
      · rename_i r hr
        split at h
        · rename_i hl
          cases h
          obtain ⟨xs, n, rfl, _, hlen, hxl, hread⟩ := DataW.trod_struct hu hx
          obtain ⟨l, h1, h2⟩ := fields_read (enc := enc) (spare := spare) (held := held) (n := n) (cs := cs) (fun t ss cs x h1 h2 => cells_read d t ss n cs x h1 h2) fs.toList 0 _ hr (fun f hf => by
            obtain ⟨i, hi, he⟩ := List.mem_iff_getElem.1 hf
            have h1 := hread i f (by rw [← he]; simp)
            have hi' : i < xs.length := by rw [hxl]; simpa using hi
            rw [List.getElem?_eq_getElem hi'] at h1
            exact ⟨_, h1⟩)
          refine ⟨l, h1, ?_⟩
          rw [List.drop_zero, hl, ← hlen, List.take_length] at h2
          exact h2
        · cases h
      · cases h
    · rename_i n e hu
      split at h
      · rename_i es hes
        split at h
        · rename_i hl
          cases h
          obtain ⟨xs, q, rfl, _, hlen, hxl, hread⟩ := DataW.trod_array hu hx
          obtain ⟨l, h1, h2⟩ := array_read (w := w) (n := 0) (cs := cs) hl.1 n 0 (fun i hi => by
            have h1 := hread i hi
            rw [List.getElem?_eq_getElem (by omega)] at h1
            rw [Nat.zero_add]
            exact cells_read d e es q _ _ hes h1)
          refine ⟨l, h1, ?_⟩
          rw [List.drop_zero, ← hl.1, hl.2, ← hlen, List.take_length] at h2
          exact h2
        · cases h
      · cases h
    · cases h

/-- A struct or an array that came in. -/
theorem agg_read {d : Nat} {t : TypeId} {ss : List Sh} {x : DataW H} {ps : List MemPlace} {cs : Array Value} (hs : shT P d t = some ss) (h : DataW.Trod enc P w 0 spare held t (.agg cs) x ps) : ∃ l, fitS ss l ∧ R w (.ext (All w)) (.agg l) (.agg cs) := by
  obtain ⟨fuel, h⟩ := h
  obtain ⟨l, h1, h2⟩ := cells_read d t ss fuel _ _ hs h
  exact ⟨l, h1, .agg (vs := cs.toList) h2.1 h2.2⟩
/-- A slice that came in. -/
theorem slice_read {d : Nat} {t : TypeId} {sz : Nat} {es : List Sh} {x : DataW H} {ps : List MemPlace} {a : Option Addr} {len cap : Nat} (hs : shT P d t = some [.slice sz es]) (h : DataW.Trod enc P w 0 spare held t (.slice a len cap) x ps) :
    ∃ n get, n ≤ maxLen ∧ (∀ i, fitS es (get i)) ∧ R w (.ext (All w)) (.ro n sz get) (.slice a len cap) := by
  obtain ⟨fuel, h⟩ := h
  obtain ⟨l, h1, h2⟩ := cells_read d t _ fuel _ _ hs h
  simp only [fitS, fitA] at h1
  obtain ⟨_, _, rfl, ⟨n, get, rfl, h3, h4⟩, rfl⟩ := h1
  exact ⟨n, get, h3, h4, h2.2 0 _ _ rfl rfl⟩

theorem wf_i64 {n : Int} (h : (Lit.int .i64 n).wf = true) : -9223372036854775808 ≤ n ∧ n ≤ 9223372036854775807 := by
  have e1 : IntKind.min .i64 = -9223372036854775808 := by decide
  have e2 : IntKind.max .i64 = 9223372036854775807 := by decide
  simp [Lit.wf] at h
  rw [e1] at h
  first | exact h | (rw [e2] at h; exact h)
end
end Go.Ax
