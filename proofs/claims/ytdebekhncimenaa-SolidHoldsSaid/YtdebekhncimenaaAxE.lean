/-
  Values that are put together; new slices; equality; the rest of the operations.
-/
import Derived.Test.YtdebekhncimenaaAxD
set_option linter.unusedSimpArgs false
namespace Go.Ax
open Go.RowKit

section
variable {P : Program} {w0 : Base} {w : World} {ρ : Env} {m : Mem} {D : Nat → Prop} {key : Nat} {ev : Operand → Value} {ρ0 : Operand → AV} {o : Oper}

theorem foldl_put (off : Nat) : ∀ (l : List Value) (k : Nat) (cells : Array Value), off + k + l.length ≤ cells.size →
    ((l.zipIdx k).foldl (fun cs (x : Value × Nat) => cs.setIfInBounds (off + x.2) x.1) cells).toList = cells.toList.take (off + k) ++ l ++ cells.toList.drop (off + k + l.length)
  | [], k, cells, _ => by simp
  | v :: rest, k, cells, h => by
    simp only [List.zipIdx_cons, List.foldl_cons]
    rw [foldl_put off rest (k + 1) _ (by simp at h ⊢; omega)]
    have e := list_seg_step cells.toList (off + k) v rest (by simp at h ⊢; omega)
    simpa [Array.toList_setIfInBounds, Nat.add_assoc] using e

theorem fill_one (off : Nat) (new cells : Array Value) (h : off + new.size ≤ cells.size) :
    (new.zipIdx.foldl (fun cs (x : Value × Nat) => cs.setIfInBounds (off + x.2) x.1) cells).toList = cells.toList.take off ++ new.toList ++ cells.toList.drop (off + new.size) := by
  rw [← Array.foldl_toList, Array.toList_zipIdx]
  have := foldl_put off new.toList 0 cells (by simpa using h)
  simpa using this

theorem Rs.put {cs new : List AV} {vs us : List Value} {off : Nat} (h : Rs w ρ cs vs) (k : Rs w ρ new us) (hf : off + new.length ≤ cs.length) : Rs w ρ (putCells cs off new) (vs.take off ++ us ++ vs.drop (off + us.length)) := by
  have h1 : (putCells cs off new).length = cs.length := putCells_length hf
  have h2 : (vs.take off ++ us ++ vs.drop (off + us.length)).length = vs.length := putCells_length (by rw [k.1, h.1]; exact hf)
  refine ⟨by rw [h1, h2, h.1], fun i a x e1 e2 => ?_⟩
  unfold putCells at e1
  rw [putCells_get hf] at e1
  rw [putCells_get (by rw [k.1, h.1]; exact hf), k.1] at e2
  split at e1
  · rename_i hc; rw [if_pos hc] at e2; exact k.2 _ a x e1 e2
  · rename_i hc; rw [if_neg hc] at e2; exact h.2 _ a x e1 e2

/-- Parts beside parts. -/
def PRs (w : World) (ρ : Env) : List (Nat × AV) → List (Nat × Value) → Prop
  | [], [] => True
  | (i, a) :: as, (j, x) :: xs => i = j ∧ R w ρ a x ∧ PRs w ρ as xs
  | _, _ => False

theorem fillA_sound {place : Nat → Option (Nat × Nat)} : ∀ {parts : List (Nat × AV)} {pvs : List (Nat × Value)} {cs cs' : List AV} {vs : List Value}, fillA place cs parts = some cs' → Rs w ρ cs vs → PRs w ρ parts pvs →
    ∃ vs', Instr.fill place vs.toArray pvs = some vs'.toArray ∧ Rs w ρ cs' vs'
  | [], [], cs, cs', vs, h, hs, _ => by simp [fillA] at h; subst h; exact ⟨vs, by simp [Instr.fill], hs⟩
  | (i, a) :: as, (j, x) :: xs, cs, cs', vs, h, hs, hp => by
    obtain ⟨rfl, hax, hrest⟩ := hp
    simp only [fillA] at h
    split at h
    · cases h
    · rename_i off size hpl
      split at h
      · rename_i ds hds
        split at h
        · rename_i hc
          obtain ⟨hd, _⟩ := cellsOf_sound hax hds
          have hsz : x.cells.size = size := by have := hd.1; simp at this; omega
          have hfit : ¬ (off + x.cells.size > vs.toArray.size) := by have := hs.1; simp; omega
          have hput := hs.put hd hc.2
          obtain ⟨vs', h1, h2⟩ := fillA_sound h hput hrest
          refine ⟨vs', ?_, h2⟩
          have hfold : (x.cells.zipIdx.foldl (fun cs (y : Value × Nat) => cs.setIfInBounds (off + y.2) y.1) vs.toArray) = (vs.take off ++ x.cells.toList ++ vs.drop (off + x.cells.toList.length)).toArray := by
            apply Array.ext'
            rw [fill_one off x.cells vs.toArray (by have := hs.1; simp; omega)]
            simp
          simp only [Instr.fill, hpl, hsz]
          simp only [hsz] at hfit
          simp only [ne_eq, not_true_eq_false, decide_false, Bool.false_or, hfit, Bool.false_eq_true, if_false]
          rw [← h1, ← hfold]
        · cases h
      · cases h
  | [], (_, _) :: _, _, _, _, _, _, hp => hp.elim
  | (_, _) :: _, [], _, _, _, _, _, hp => hp.elim

theorem PRs_map {f : Operand → AV} : ∀ (parts : List (Nat × Operand)), (∀ p ∈ parts, R w ρ (f p.2) (ev p.2)) → PRs w ρ (parts.map fun (i, x) => (i, f x)) (parts.map fun (i, x) => (i, ev x))
  | [], _ => trivial
  | (i, x) :: rest, h => ⟨rfl, h (i, x) (by simp), PRs_map rest fun p hp => h p (by simp [hp])⟩

theorem mapM_places (fs : List Field) (h : ∀ f ∈ fs, (P.info? f.type).isSome = true) : (fs.mapM fun f => Functor.map (Prod.mk f.offset) (sizeOf f.type)).run P w = .ok (fs.map fun f => (f.offset, sizeT P f.type)) w := by
  induction fs with
  | nil => simp
  | cons f fs ih =>
    have h1 := sizeT_info (w := w) (h f (by simp))
    simp [List.mapM_cons, h1, ih fun g hg => h g (by simp [hg])]

theorem aBuild_sound {f : Operand → AV} {t : TypeId} {parts : Array (Nat × Operand)} {a : AV} (h : aBuild P f t parts.toList = some a) (hv : ∀ p ∈ parts.toList, R w ρ (f p.2) (ev p.2)) :
    ∃ x, (Instr.build t (parts.map fun (i, x) => (i, ev x))).run P w = .ok x w ∧ R w ρ a x := by
  unfold aBuild at h
  split at h
  · rename_i z hz
    split at h
    · rename_i pl hpl
      split at h
      · rename_i cs hcs
        cases h
        obtain ⟨vs', h1, h2⟩ := fillA_sound hcs (R_list (w := w) (ρ := ρ) z.cells.toList) (PRs_map (ev := ev) parts.toList hv)
        have hz' := zeroT_run (w := w) hz
        have harr : (parts.map fun (i, x) => (i, ev x)).toList = parts.toList.map fun (i, x) => (i, ev x) := by simp
        refine ⟨.agg vs'.toArray, ?_, .agg h2.1 h2.2⟩
        unfold bPlaces at hpl
        split at hpl
        · rename_i fs hu
          split at hpl
          · rename_i hall
            cases hpl
            have hm := mapM_places (P := P) (w := w) fs.toList (fun f hf => by rw [Array.all_eq_true_iff_forall_mem] at hall; exact hall f (by simpa using hf))
            simp only [Instr.build, Sem.run_bind, hz', Result.andThen_ok, run_underlying hu]
            rw [Array.mapM_eq_mapM_toList]
            have h1' : Instr.fill (fun i => (fs.toList.map fun f => (f.offset, sizeT P f.type)).toArray[i]?) z.cells (parts.map fun (i, x) => (i, ev x)).toList = some vs'.toArray := by
              rw [harr]; simpa using h1
            simp at h1'
            simp [hm, h1']
          · cases hpl
        · rename_i n e hu
          split at hpl
          · rename_i hinfo
            cases hpl
            have hsz := sizeT_info (w := w) hinfo
            simp only [Instr.build, Sem.run_bind, hz', Result.andThen_ok, run_underlying hu, hsz]
            have hplace : ∀ (parts : List (Nat × AV)) (pvs : List (Nat × Value)) (cs : List AV) (cs' : List AV) (vs vs' : Array Value), fillA (fun i => ((List.range n).map fun i => (i * sizeT P e, sizeT P e))[i]?) cs parts = some cs' → PRs w ρ parts pvs →
                Instr.fill (fun i => ((List.range n).map fun i => (i * sizeT P e, sizeT P e))[i]?) vs pvs = some vs' → Instr.fill (fun i => some (i * sizeT P e, sizeT P e)) vs pvs = some vs' := by
              intro parts
              induction parts with
              | nil => intro pvs cs cs' vs vs' _ hp h; cases pvs with | nil => simpa [Instr.fill] using h | cons _ _ => exact hp.elim
              | cons p parts ih =>
                intro pvs cs cs' vs vs' hA hp h
                cases pvs with
                | nil => exact hp.elim
                | cons q pvs =>
                  obtain ⟨i, a⟩ := p
                  obtain ⟨j, x⟩ := q
                  obtain ⟨rfl, _, hrest⟩ := hp
                  simp only [fillA] at hA
                  by_cases hi : i < n
                  · have e1 : ((List.range n).map fun i => (i * sizeT P e, sizeT P e))[i]? = some (i * sizeT P e, sizeT P e) := by simp [hi]
                    simp only [e1] at hA
                    simp only [Instr.fill, e1] at h ⊢
                    split at hA
                    · split at hA
                      · split at h
                        · cases h
                        · rename_i hc
                          rw [if_neg hc]
                          exact ih _ _ _ _ _ hA hrest h
                      · cases hA
                    · cases hA
                  · have e1 : ((List.range n).map fun i => (i * sizeT P e, sizeT P e))[i]? = none := by simp; omega
                    simp [e1] at hA
            have h1' := hplace _ _ _ _ _ _ hcs (PRs_map (ev := ev) (w := w) (ρ := ρ) parts.toList hv) (by simpa using h1)
            rw [← harr] at h1'
            simp at h1'
            simp [h1']
          · cases hpl
        · cases hpl
      · cases h
    · cases h
  · cases h

theorem flatten_replicate_get {α : Type} (l : List α) : ∀ (n j : Nat), j < n * l.length → (List.replicate n l).flatten[j]? = l[j % l.length]?
  | 0, j, h => by simp at h
  | n + 1, j, h => by
    simp only [List.replicate_succ, List.flatten_cons]
    by_cases hj : j < l.length
    · rw [List.getElem?_append_left hj, Nat.mod_eq_of_lt hj]
    · rw [List.getElem?_append_right (by omega), flatten_replicate_get l n _ (by rw [Nat.add_mul] at h; omega)]
      congr 1
      rw [← Nat.mod_eq_sub_mod (by omega)]

theorem zeros_length (z : Value) (n : Nat) : (zeros z n).length = n * z.cells.size := by
  simp [zeros]

theorem zeros_sound (z : Value) (n : Nat) : Rs w ρ (zeros z n) ((Array.range (n * z.cells.size)).map (z.cells[· % z.cells.size]!)).toList := by
  refine ⟨by simp [zeros_length], fun i a x h1 h2 => ?_⟩
  have hi : i < n * z.cells.size := by have := (List.getElem?_eq_some_iff.1 h1).1; rwa [zeros_length] at this
  have hsz : 0 < z.cells.size := by
    rcases Nat.eq_zero_or_pos z.cells.size with h0 | h0
    · rw [h0] at hi; omega
    · exact h0
  have hmod := Nat.mod_lt i hsz
  unfold zeros at h1
  rw [flatten_replicate_get _ _ _ (by simpa using hi)] at h1
  simp [hmod] at h1
  simp [hi] at h2
  rw [getElem!_pos z.cells (i % z.cells.size) hmod] at h2
  subst h1 h2
  exact .v

theorem rowsOf_length {sz n : Nat} {cs : List AV} (h : cs.length = n * sz) {i : Nat} (hi : i < n) : (rowsOf sz cs i).length = sz := by
  unfold rowsOf
  have h1 : (i + 1) * sz ≤ n * sz := Nat.mul_le_mul_right _ hi
  rw [Nat.add_mul] at h1
  simp; omega

/-- A new slice that is a row of its own. -/
theorem newSlice_post (hR : Rel w0 ρ m D w) (hk : ¬ D key) {e : TypeId} {n sz cap : Nat} {get : Nat → List AV} {vs : List Value} (hn : n ≤ cap) (hsz : vs.length = cap * sz) (hlen : ∀ i, i < n → (get i).length = sz)
    (hrel : ∀ (i k : Nat) (a : AV) (v : Value), i < n → (get i)[k]? = some a → vs[i * sz + k]? = some v → R w ρ a v) (g : Option Bool) {ob : List Prop} :
    Post w0 ρ m D key ⟨ob, .own key 0 n sz, .new (fun f => if f = 0 then ⟨n, sz, e, get, g⟩ else ⟨0, sz, e, fun _ => [], g⟩)⟩ w (.slice (some ⟨w.heap.size, 0, none⟩) n cap) (w.alloc (.cells vs.toArray e)) := by
  obtain ⟨h1, h2, h3⟩ := hR.new hk (x := fun f => if f = 0 then ⟨n, sz, e, get, g⟩ else ⟨0, sz, e, fun _ => [], g⟩) (c := vs.toArray) (cap := cap)
    (by simpa using hsz) (by simpa using hn) (fun f hf => by simp [hf]) (fun i hi => by simp at hi; simpa using hlen i hi)
    (fun i k a v hi ha hv => by
      simp at hi ha hv
      exact hrel i k a v hi ha hv)
  simp only [if_true] at h1 h3
  refine ⟨_, ?_, h1, h2, h3⟩
  have hc : (ρ.add key w.heap.size cap).cap key 0 = cap := by simp [Env.add]
  have hb : (ρ.add key w.heap.size cap).blk key 0 = w.heap.size := by simp [Env.add]
  have := R.own (w := w.alloc (.cells vs.toArray e)) (ρ := ρ.add key w.heap.size cap) (r := key) (f := 0) (n := n) (sz := sz) (a := some ⟨w.heap.size, 0, none⟩) (.inr rfl) (by rw [hc]; exact hn) (fun _ => by rw [hb])
  rw [hc] at this
  exact this

theorem run_newRow (t : TypeId) (cs : Array Value) : (newRow t cs).run P w = .ok ⟨w.heap.size, 0, none⟩ (w.alloc (.cells cs t)) := by
  simp [newRow]

theorem aBuildSlice_sound (hR : Rel w0 ρ m D w) (hk : ¬ D key) {f : Operand → AV} {t : TypeId} {len : Nat} {parts : Array (Nat × Operand)} {g : Option Bool} {e : Eff} (h : aBuildSlice P f key t len parts.toList g = some e) (hv : ∀ p ∈ parts.toList, R w ρ (f p.2) (ev p.2)) :
    ∃ x w', (Instr.buildSlice t len (parts.map fun (i, x) => (i, ev x))).run P w = .ok x w' ∧ Post w0 ρ m D key e w x w' := by
  unfold aBuildSlice at h
  split at h
  · rename_i el hel
    split at h
    · rename_i z hz
      split at h
      · rename_i hc
        split at h
        · rename_i cs hcs
          cases h
          have hinfo : (P.info? el).isSome = true := by unfold zeroT at hz; split at hz <;> simp_all
          obtain ⟨vs', h1, h2⟩ := fillA_sound hcs (zeros_sound (w := w) (ρ := ρ) z len) (PRs_map (ev := ev) parts.toList hv)
          have hl0 : cs.length = len * sizeT P el := by
            have := h2.1
            have hA : ∀ (parts : List (Nat × AV)) (cs cs' : List AV), fillA (fun i => some (i * sizeT P el, sizeT P el)) cs parts = some cs' → cs'.length = cs.length := by
              intro parts
              induction parts with
              | nil => intro cs cs' h; simp [fillA] at h; subst h; rfl
              | cons p parts ih =>
                intro cs cs' h
                obtain ⟨i, a⟩ := p
                simp only [fillA] at h
                split at h
                · split at h
                  · rename_i hc2
                    rw [ih _ _ h]
                    unfold putCells
                    rw [putCells_length hc2.2]
                  · cases h
                · cases h
            rw [hA _ _ _ hcs, zeros_length, hc.2]
          refine ⟨_, _, ?_, newSlice_post hR hk (cap := len) (Nat.le_refl _) (by rw [h2.1, hl0]) (fun i hi => rowsOf_length hl0 hi) (fun i k a v hi ha hx => ?_) g⟩
          · have hsz := sizeT_info (w := w) hinfo
            have hz' := zeroT_run (w := w) hz
            have hbig : ¬ (len * sizeT P el > 2 ^ 24) := by have := hc.1; omega
            simp only [Instr.buildSlice, Sem.run_bind, run_underlying (sElem_run hel), Result.andThen_ok, hsz, hbig, if_false, Sem.run_pure]
            have harr : (parts.map fun (i, x) => (i, ev x)).toList = parts.toList.map fun (i, x) => (i, ev x) := by simp
            by_cases h0 : len * sizeT P el = 0
            · simp only [h0, if_true, Sem.run_pure, Result.andThen_ok]
              have e1 : ((Array.range (len * z.cells.size)).map (z.cells[· % z.cells.size]!)).toList.toArray = ((Array.range 0).map fun x => (#[] : Array Value)[x % 0]!) := by
                rw [hc.2, h0]; simp
              rw [e1] at h1
              rw [← harr] at h1
              simp at h1
              simp [h1, run_newRow]
            · simp only [h0, if_false, Sem.run_bind, hz', Result.andThen_ok, Sem.run_pure]
              have e1 : ((Array.range (len * z.cells.size)).map (z.cells[· % z.cells.size]!)).toList.toArray = ((Array.range (len * sizeT P el)).map fun x => z.cells[x % z.cells.size]!) := by
                rw [hc.2]
              rw [e1, ← harr] at h1
              simp at h1
              simp [h1, run_newRow]
          · unfold rowsOf at ha
            rw [List.getElem?_take] at ha
            split at ha
            · exact h2.2 _ a v (list_drop_get ha) hx
            · cases ha
        · cases h
      · cases h
    · cases h
  · cases h

end
end Go.Ax
