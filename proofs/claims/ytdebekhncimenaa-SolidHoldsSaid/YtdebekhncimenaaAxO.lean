/-
  Slices that are made, cut and appended to: what the model does is what the evaluator says.
-/
import Derived.Test.YtdebekhncimenaaAxF
import Derived.Laws.AppendOwn
import Derived.Laws.MakeOwn
import Derived.Laws.CopyRow
set_option linter.unusedSimpArgs false
set_option linter.unusedVariables false
namespace Go.Ax
open Go.RowKit

section
variable {P : Program} {w0 : Base} {w : World} {ρ : Env} {m : Mem} {D : Nat → Prop} {key : Nat} {ev : Operand → Value} {ρ0 : Operand → AV} {o : Oper}

/-! ### Making -/

theorem madeCells_get {z : Array Value} {N j : Nat} {v : Value} (h : (madeCells z N).toList[j]? = some v) : z[j % z.size]! = v := by
  unfold madeCells at h
  simp only [Array.toList_map, List.getElem?_map, Array.toList_range] at h
  by_cases hj : j < N
  · rw [List.getElem?_range hj] at h
    simpa using h
  · rw [List.getElem?_eq_none (by simpa using hj)] at h
    simp at h

theorem aMake_sound (hR : Rel w0 ρ m D w) (hk : ¬ D key) {g : Option Bool} {t : TypeId} {l c : AV} {lv cv : Value} {e : Eff} (h : aMake P key g t l c = some e) (hob : ∀ p ∈ e.ob, p) (hl : R w ρ l lv) (hc : R w ρ c cv) :
    ∃ x w', (Instr.makeSlice t lv cv).run P w = .ok x w' ∧ Post w0 ρ m D key e w x w' := by
  unfold aMake at h
  split at h
  · rename_i el hel
    split at h
    · rename_i z hz
      split at h
      · rename_i n hn
        split at h
        · rename_i q hq
          split at h
          · rename_i hzs
            cases h
            obtain ⟨kl, rfl⟩ := intOfA_sound hl hn
            obtain ⟨kc, rfl⟩ := intOfA_sound hc hq
            have h0 : 0 ≤ n := hob _ (by simp)
            have h1 : n ≤ q := hob _ (by simp)
            have h2 : q ≤ 9223372036854775807 := hob _ (by simp)
            have h3 : (bytesT P el : Int) * q ≤ 281474976710656 := hob _ (by simp)
            obtain ⟨i, hi⟩ : ∃ i, P.info? el = some i := by
              unfold zeroT at hz
              split at hz
              · rename_i i hi; exact ⟨i, hi⟩
              · cases hz
            have hz' : i.zero = some z := by unfold zeroT at hz; rw [hi] at hz; exact hz
            have hsz : sizeT P el = i.size := by unfold sizeT; rw [hi]
            have hby : bytesT P el = i.bytes := by unfold bytesT; rw [hi]
            rw [hby] at h3
            refine ⟨_, _, run_make w t el i z (sElem_run hel) hi hz' kl kc n q h0 h1 h3 h2, ?_⟩
            have hp := newSlice_post hR hk (e := el) (n := n.toNat) (sz := sizeT P el) (cap := q.toNat) (get := fun _ => z.cells.toList.map .v) (vs := (madeCells z.cells (q.toNat * i.size)).toList) (by omega)
              (by rw [Array.length_toList, size_madeCells, hsz]) (fun j _ => by simp [hzs]) (fun j k a v hj ha hv => by
                have hk2 : k < z.cells.size := by
                  have := (List.getElem?_eq_some_iff.1 ha).1
                  simpa using this
                have := madeCells_get hv
                rw [← hzs, Nat.mul_comm, Nat.mul_add_mod, Nat.mod_eq_of_lt hk2] at this
                simp [List.getElem?_map, hk2] at ha
                subst ha
                have e2 : z.cells[k]! = z.cells[k] := by simp [hk2]
                rw [e2] at this
                subst this
                exact .v) g (ob := [0 ≤ n, n ≤ q, q ≤ 9223372036854775807, (bytesT P el : Int) * q ≤ 281474976710656])
            exact hp
          · cases h
        · cases h
      · cases h
    · cases h
  · cases h

/-! ### Cutting -/

theorem cutBound_sound {d n : Nat} {x : Option AV} {v : Option Value} {l : Int} (hx : match x, v with
    | none, none => True
    | some a, some v => R w ρ a v
    | _, _ => False) (h : cutBound d x = some l) : match v with
    | none => l = d
    | some v => ∃ k, v = .int k l := by
  cases x with
  | none => cases v with
    | none => simp [cutBound] at h; exact h.symm
    | some _ => exact hx.elim
  | some a => cases v with
    | none => exact hx.elim
    | some v => exact intOfA_sound hx h


theorem run_bound {v : Value} {k : IntKind} {x : Int} {y : Nat} {code : BoundsCode} (hv : v = .int k x) (h0 : 0 ≤ x) (h1 : x ≤ (y : Int)) : (Instr.sliceBound v y code).run P w = .ok x.toNat w := by
  subst hv
  simp [Instr.sliceBound, asIntOf, h0, h1]
theorem run_bounds {len cap : Nat} {lo hi : Option Value} {l h : Int}
    (hl : match lo with
      | none => l = 0
      | some v => ∃ k, v = .int k l)
    (hh : match hi with
      | none => h = len
      | some v => ∃ k, v = .int k h) (h0 : 0 ≤ l) (h1 : l ≤ h) (h2 : h ≤ (len : Int)) (h3 : len ≤ cap) :
    (Instr.sliceBounds true len cap lo hi none).run P w = .ok (l.toNat, h.toNat, cap) w := by
  have hc : h ≤ (cap : Int) := by omega
  have hh0 : 0 ≤ h := by omega
  have hl2 : l ≤ (h.toNat : Int) := by omega
  unfold Instr.sliceBounds
  cases lo with
  | none =>
    dsimp only at hl
    subst hl
    cases hi with
    | none =>
      dsimp only at hh
      subst hh
      simp
    | some v =>
      obtain ⟨k, hv⟩ := hh
      simp [run_bound (P := P) (w := w) hv hh0 hc]
  | some u =>
    obtain ⟨k', hu⟩ := hl
    cases hi with
    | none =>
      dsimp only at hh
      subst hh
      have hl3 : l ≤ (len : Int) := by omega
      simp [run_bound (P := P) (w := w) hu h0 hl3]
    | some v =>
      obtain ⟨k, hv⟩ := hh
      simp [run_bound (P := P) (w := w) hv hh0 hc, run_bound (P := P) (w := w) hu h0 hl2]
theorem run_cut {t e : TypeId} {a : Option Addr} {len cap : Nat} {lo hi : Option Value} {l h : Int} (ht : P.underlying t = some (.slice e)) (hi' : (P.info? e).isSome = true)
    (hl : match lo with
      | none => l = 0
      | some v => ∃ k, v = .int k l)
    (hh : match hi with
      | none => h = len
      | some v => ∃ k, v = .int k h) (h0 : 0 ≤ l) (h1 : l ≤ h) (h2 : h ≤ (len : Int)) (h3 : len ≤ cap) :
    (Instr.sliceAt t (.slice a len cap) lo hi none).run P w = .ok (.slice (if cap = l.toNat then a else a.map (·.add (l.toNat * sizeT P e))) (h - l).toNat (cap - l.toNat)) w := by
  have e1 : h.toNat - l.toNat = (h - l).toNat := by omega
  have hs := sizeT_info (w := w) hi'
  have hb := run_bounds (P := P) (w := w) hl hh h0 h1 h2 h3
  rw [← e1]
  simp only [Instr.sliceAt, Sem.run_bind, run_underlying ht, Result.andThen_ok, Instr.slice, hb, hs, Sem.run_pure]

def optR (w : World) (ρ : Env) (x : Option AV) (v : Option Value) : Prop := match x, v with
  | none, none => True
  | some a, some v => R w ρ a v
  | _, _ => False
theorem cutB {d : Nat} {x : Option AV} {v : Option Value} {l : Int} (hx : optR w ρ x v) (h : cutBound d x = some l) : match v with
    | none => l = d
    | some v => ∃ k, v = .int k l := by
  cases x with
  | none => cases v with
    | none => simp [cutBound] at h; exact h.symm
    | some _ => exact hx.elim
  | some a => cases v with
    | none => exact hx.elim
    | some v => exact intOfA_sound hx h

theorem aCut_sound {t : TypeId} {x : AV} {lo hi : Option AV} {e : Eff} {xv : Value} {lv hv : Option Value} (h : aCut P t x lo hi = some e) (hob : ∀ p ∈ e.ob, p) (hx : R w ρ x xv) (hl : optR w ρ lo lv) (hh : optR w ρ hi hv) :
    ∃ v, (Instr.sliceAt t xv lv hv none).run P w = .ok v w ∧ R w ρ e.val v ∧ e.u = .none := by
  unfold aCut at h
  split at h
  · rename_i el hel
    split at h
    · rename_i hinfo
      split at h
      · rename_i n hn
        split at h
        · rename_i l hb el' eh'
          have bl := cutB hl el'
          have bh := cutB hh eh'
          have key : ∀ (a : Option Addr) (cap : Nat), xv = .slice a n cap → n ≤ cap → 0 ≤ l → l ≤ hb → hb ≤ (n : Int) → (Instr.sliceAt t xv lv hv none).run P w = .ok (.slice (if cap = l.toNat then a else a.map (·.add (l.toNat * sizeT P el))) (hb - l).toNat (cap - l.toNat)) w := by
            intro a cap hxv hc h0 h1 h2
            subst hxv
            exact run_cut (sElem_run hel) hinfo (by cases lv <;> simpa using bl) (by cases hv <;> simpa using bh) h0 h1 h2 hc
          split at h
          · rename_i _ sz get
            split at h
            · rename_i hsz
              cases h
              have o1 : 0 ≤ l := hob _ (by simp)
              have o2 : l ≤ hb := hob _ (by simp)
              have o3 : hb ≤ (n : Int) := by
                have := hob (hb ≤ (n : Int)) (by simp)
                exact this
              simp only [lenA, Option.some.injEq] at hn
              subst hn
              cases hx with
              | @ro _ _ _ _ a cap b o hnc ha hi2 hlen hex hr =>
                refine ⟨_, key a cap rfl hnc o1 o2 o3, ?_, rfl⟩
                by_cases hz : (hb - l).toNat = 0
                · exact .ro b (o + l.toNat * sz) (by omega) (fun h => by omega) (fun h => by omega) (fun i h => by omega) (fun i k h => by omega) (fun i k c x h => by omega)
                · have hne : ¬ cap = l.toNat := by omega
                  rw [if_neg hne, ha (by omega)]
                  refine .ro b (o + l.toNat * sz) (by omega) (fun _ => by rw [hsz]; simp [add_eq]) (fun _ => hi2 (by omega)) (fun i h => hlen _ (by omega)) (fun i k h1 h2 => ?_) (fun i k c x h1 h2 h3 => ?_)
                  · have := hex (l.toNat + i) k (by omega) h2
                    rw [Nat.add_mul] at this
                    rw [show o + l.toNat * sz + i * sz + k = o + (l.toNat * sz + i * sz) + k by omega]
                    exact this
                  · refine hr (l.toNat + i) k c x (by omega) h2 ?_
                    rw [Nat.add_mul]
                    rw [show o + l.toNat * sz + i * sz + k = o + (l.toNat * sz + i * sz) + k by omega] at h3
                    exact h3
            · cases h
          · rename_i r f _ sz
            split at h
            · rename_i hsz
              cases h
              have o1 : 0 ≤ l := hob _ (by simp)
              have o2 : l ≤ hb := hob _ (by simp)
              have o3 : hb ≤ (n : Int) := by
                have := hob (hb ≤ (n : Int)) (by simp)
                exact this
              simp only [lenA, Option.some.injEq] at hn
              subst hn
              cases hx with
              | @own _ _ _ _ _ a hd hnc ha =>
                refine ⟨_, key a _ rfl hnc o1 o2 o3, ?_, rfl⟩
                refine .vw hd (by omega) (fun hp => ?_)
                have hne : ¬ ρ.cap r f = l.toNat := by omega
                rw [if_neg hne, ha (by omega), hsz]
                simp [add_eq]
            · cases h
          · rename_i r f q _ sz
            split at h
            · rename_i hsz
              cases h
              have o1 : 0 ≤ l := hob _ (by simp)
              have o2 : l ≤ hb := hob _ (by simp)
              have o3 : hb ≤ (n : Int) := by
                have := hob (hb ≤ (n : Int)) (by simp)
                exact this
              simp only [lenA, Option.some.injEq] at hn
              subst hn
              cases hx with
              | @vw _ _ _ _ _ _ a cap hd hnc ha =>
                refine ⟨_, key a _ rfl hnc o1 o2 o3, ?_, rfl⟩
                refine .vw hd (by omega) (fun hp => ?_)
                have hne : ¬ cap = l.toNat := by omega
                rw [if_neg hne, ha (by omega), hsz]
                simp [add_eq, Nat.add_mul]
            · cases h
          · cases h
        · cases h
      · cases h
    · cases h
  · cases h

/-! ### Appending -/

/-- A row's new content: more elements than it had. -/
theorem Rel.put (hR : Rel w0 ρ m D w) {r : Nat} {fam : Fam} (hl : look m r = some fam) (hg : (fam 0).g ≠ some false) {c c' : Array Value} {ty : TypeId} (hcap : 0 < ρ.cap r 0) (hc : w.heap[ρ.blk r 0]? = some (.cells c ty (0, 0))) (hsz : c'.size = c.size) {x : Row} (hty : x.ty = ty) (hs : x.sz = (fam 0).sz) (hxg : x.g = (fam 0).g) (hn : x.n ≤ ρ.cap r 0)
    (hlen : ∀ i, i < x.n → (x.get i).length = x.sz) (hrel : ∀ (i k : Nat) (a : AV) (v : Value), i < x.n → (x.get i)[k]? = some a → c'[i * x.sz + k]? = some v → R w ρ a v) :
    Rel w0 ρ (setRow r (fun f => if f = 0 then x else fam f) m) D (w.setRow (ρ.blk r 0) c') ∧ Same ρ.imm w (w.setRow (ρ.blk r 0) c') := by
  obtain ⟨hd, hr⟩ := hR.row r fam 0 hl hg
  obtain ⟨b1, b2, c2, b3, b4⟩ := hr.blk hcap
  rw [hc] at b3
  cases b3
  have hsame : Same ρ.imm w (w.setRow (ρ.blk r 0) c') := fun b hb => setRow_other _ _ _ _ (fun e => b2 (e ▸ hb))
  have hnew := setRow_heap w (ρ.blk r 0) c c' _ _ hc
  have hlook : ∀ q y, look (setRow r (fun f => if f = 0 then x else fam f) m) q = some y → (q = r ∧ y = fun f => if f = 0 then x else fam f) ∨ (q ≠ r ∧ look m q = some y) := fun q y hy => by
    rw [look_set] at hy
    by_cases e : r = q
    · subst e; simp [hl] at hy; exact .inl ⟨rfl, hy.symm⟩
    · simp [e] at hy; exact .inr ⟨Ne.symm e, hy⟩
  have hother : ∀ q y g', look m q = some y → (y g').g ≠ some false → 0 < ρ.cap q g' → ¬ (q = r ∧ g' = 0) → ρ.blk q g' ≠ ρ.blk r 0 := fun q y g' hy hgy hcq hne he => by
    have := hR.sep q y g' r fam 0 hy hl hgy hg hcq hcap he
    exact hne this
  have hgg : ∀ g', ((fun f => if f = 0 then x else fam f : Fam) g').g = (fam g').g := fun g' => by
    by_cases e : g' = 0
    · subst e; simpa using hxg
    · simp [e]
  refine ⟨⟨hR.below.trans ⟨rfl, rfl, rfl, by simp, fun k hk => setRow_other _ _ _ _ (by omega)⟩, fun b hb => by simpa using hR.imm2 b hb, hR.dom, fun q y hy => ?_, fun q y g' hy hgy => ?_, fun q y g' q' y' g'' hy hy' hgy hgy' hcq hcq' he => ?_, hR.fixed fun p hp => setRow_other _ _ _ _ (hR.fix_ne hc hp), hR.keeps hsame⟩, hsame⟩
  · rcases hlook q y hy with ⟨e, _⟩ | ⟨_, h⟩
    · subst e; exact hR.key _ _ hl
    · exact hR.key _ _ h
  · rcases hlook q y hy with ⟨e, e2⟩ | ⟨hne, h⟩
    · subst e e2
      rw [hgg] at hgy
      by_cases hf : g' = 0
      · subst hf
        refine ⟨hd, ?_⟩
        show RowOK w0 ρ _ q 0 x
        refine ⟨hn, fun _ => ⟨b1, b2, _, by rw [hty]; exact hnew, by rw [hsz, b4, hs]⟩, hlen, fun j q' a v hj h1 h2 => ?_⟩
        have h2' : c'[j * x.sz + q']? = some v := by
          unfold Has World.cell? at h2
          rw [hnew] at h2
          simpa using h2
        exact (hrel j q' a v hj h1 h2').mono (.refl _) hsame
      · obtain ⟨hd', hr'⟩ := hR.row q fam g' hl hgy
        simp only [hf, if_false]
        exact ⟨hd', hr'.mono hd' (.refl _) (fun _ _ h => h) hsame (fun hcq => setRow_other _ _ _ _ (hother q fam g' hl hgy hcq (fun e => hf e.2)))⟩
    · obtain ⟨hd', hr'⟩ := hR.row q y g' h hgy
      exact ⟨hd', hr'.mono hd' (.refl _) (fun _ _ h => h) hsame (fun hcq => setRow_other _ _ _ _ (hother q y g' h hgy hcq (fun e => hne e.1)))⟩
  · have key : ∀ q y g', look (setRow r (fun f => if f = 0 then x else fam f) m) q = some y → (y g').g ≠ some false → ∃ y', look m q = some y' ∧ (y' g').g ≠ some false := fun q y g' hy hgy => by
      rcases hlook q y hy with ⟨e, e2⟩ | ⟨_, h⟩
      · subst e e2; rw [hgg] at hgy; exact ⟨fam, hl, hgy⟩
      · exact ⟨y, h, hgy⟩
    obtain ⟨z, hz, hgz⟩ := key q y g' hy hgy
    obtain ⟨z', hz', hgz'⟩ := key q' y' g'' hy' hgy'
    exact hR.sep q z g' q' z' g'' hz hz' hgz hgz' hcq hcq' he

/-- A row under another key. -/
def Env.also (ρ : Env) (key r : Nat) : Env :=
  { dom := fun q => ρ.dom q ∨ q = key, blk := fun q f => if q = key then ρ.blk r 0 else ρ.blk q f, cap := fun q f => if q = key then (if f = 0 then ρ.cap r 0 else 0) else ρ.cap q f, imm := ρ.imm }
theorem Env.le_also {ρ : Env} {key r : Nat} (h : ¬ ρ.dom key) : ρ.le (ρ.also key r) :=
  ⟨fun _ h => .inl h, fun q f hq => by have : q ≠ key := fun e => h (e ▸ hq); simp [Env.also, this], fun q f hq => by have : q ≠ key := fun e => h (e ▸ hq); simp [Env.also, this], fun _ h => h⟩
theorem Rel.rename (hR : Rel w0 ρ m D w) (hk : ¬ D key) {r : Nat} {fam y : Fam} (hl : look m r = some fam) (hg : (fam 0).g ≠ some false) (hy0 : RowOK w0 ρ w r 0 (y 0)) (hyf : ∀ f, f ≠ 0 → (y f).n = 0) :
    Rel w0 (ρ.also key r) (insRow key y (dropRow r m)) (fun q => D q ∨ q = key) w := by
  have hkd : ¬ ρ.dom key := fun hd => hk (hR.dom _ hd)
  have hkl : look m key = none := by
    cases hl : look m key with
    | none => rfl
    | some y => exact absurd (hR.key _ _ hl) hk
  have hkr : key ≠ r := fun e => by rw [e, hl] at hkl; cases hkl
  have hkl2 : look (dropRow r m) key = none := by rw [look_drop]; split <;> simp [hkl]
  have hle : ρ.le (ρ.also key r) := Env.le_also hkd
  have cap0 : ∀ q f, ¬ key = q → (ρ.also key r).cap q f = ρ.cap q f ∧ (ρ.also key r).blk q f = ρ.blk q f := fun q f hq => by simp [Env.also, Ne.symm hq]
  have capk : ∀ f, 0 < (ρ.also key r).cap key f → f = 0 ∧ 0 < ρ.cap r 0 := fun f hc => by
    simp only [Env.also, if_true] at hc
    split at hc
    · exact ⟨by assumption, hc⟩
    · omega
  have old : ∀ q z, ¬ key = q → look (insRow key y (dropRow r m)) q = some z → q ≠ r ∧ look m q = some z := fun q z hq hz => by
    rw [look_ins hkl2, if_neg hq, look_drop] at hz
    split at hz
    · cases hz
    · rename_i e; exact ⟨Ne.symm e, hz⟩
  refine ⟨hR.below, hR.imm2, fun q hq => hq.imp (hR.dom q) id, fun q z hz => ?_, fun q z f hz hgz => ?_, fun q z f q' z' f' hz hz' hgz hgz' hc hc' he => ?_, hR.fix, hR.kept⟩
  · by_cases e : key = q
    · exact .inr e.symm
    · exact .inl (hR.key q z (old q z e hz).2)
  · by_cases e : key = q
    · subst e
      rw [look_ins hkl2] at hz
      simp only [if_true, Option.some.injEq] at hz
      subst hz
      refine ⟨.inr rfl, ?_⟩
      by_cases hf0 : f = 0
      · subst hf0
        refine ⟨by simpa [Env.also] using hy0.n_le, fun hc => ?_, hy0.len, fun i k a v h1 h2 h3 => ?_⟩
        · simp only [Env.also, if_true] at hc ⊢
          exact hy0.blk hc
        · simp only [Env.also, if_true] at h3
          exact (hy0.rel i k a v h1 h2 h3).mono hle (.refl _ _)
      · have hn0 := hyf f hf0
        refine ⟨by simp [Env.also, hf0, hn0], fun hc => ?_, fun i hi => by omega, fun i k a v hi => by omega⟩
        simp [Env.also, hf0] at hc
    · obtain ⟨_, hz1⟩ := old q z e hz
      obtain ⟨hd, hr⟩ := hR.row q z f hz1 hgz
      exact ⟨.inl hd, hr.mono hd hle (fun b _ hb => hb) (.refl _ _) (fun hc => rfl)⟩
  · by_cases e1 : key = q <;> by_cases e2 : key = q'
    · subst e1 e2
      exact ⟨rfl, (capk f hc).1.trans (capk f' hc').1.symm⟩
    · subst e1
      obtain ⟨n2, hz2⟩ := old q' z' e2 hz'
      rw [(cap0 q' f' e2).1] at hc'
      rw [(cap0 q' f' e2).2] at he
      have h3 := hR.sep r fam 0 q' z' f' hl hz2 hg hgz' (capk f hc).2 hc' (by simpa [Env.also] using he)
      exact absurd h3.1.symm n2
    · subst e2
      obtain ⟨n2, hz2⟩ := old q z e1 hz
      rw [(cap0 q f e1).1] at hc
      rw [(cap0 q f e1).2] at he
      have h3 := hR.sep q z f r fam 0 hz2 hl hgz hg hc (capk f' hc').2 (by simpa [Env.also] using he)
      exact absurd h3.1 n2
    · obtain ⟨n1, hz1⟩ := old q z e1 hz
      obtain ⟨n2, hz2⟩ := old q' z' e2 hz'
      rw [(cap0 q f e1).1] at hc
      rw [(cap0 q' f' e2).1] at hc'
      rw [(cap0 q f e1).2, (cap0 q' f' e2).2] at he
      exact hR.sep q z f q' z' f' hz1 hz2 hgz hgz' hc hc' he

/-- A draw. -/
theorem Rel.drew1 (h : Rel w0 ρ m D w) : Rel w0 ρ m D w.drew := by
  refine ⟨h.below.drew, h.imm2, h.dom, h.key, fun r x f hx hg => ?_, h.sep, h.fix, h.kept⟩
  obtain ⟨hd, hr⟩ := h.row r x f hx hg
  exact ⟨hd, hr.mono hd (.refl _) (fun _ _ h => h) (fun _ _ => rfl) (fun _ => rfl)⟩
/-- A row without elements. -/
theorem Rel.empty (hR : Rel w0 ρ m D w) (hk : ¬ D key) {y : Fam} (hy : ∀ f, (y f).n = 0) :
    Rel w0 (ρ.add key 0 0) (insRow key y m) (fun q => D q ∨ q = key) w := by
  have hkd : ¬ ρ.dom key := fun hd => hk (hR.dom _ hd)
  have hkl : look m key = none := by
    cases hl : look m key with
    | none => rfl
    | some y => exact absurd (hR.key _ _ hl) hk
  have hle : ρ.le (ρ.add key 0 0) := Env.le_add hkd
  have cap0 : ∀ q f, ¬ key = q → (ρ.add key 0 0).cap q f = ρ.cap q f ∧ (ρ.add key 0 0).blk q f = ρ.blk q f := fun q f hq => by simp [Env.add, Ne.symm hq]
  have capk : ∀ f, ¬ 0 < (ρ.add key 0 0).cap key f := fun f hc => by simp [Env.add] at hc
  refine ⟨hR.below, hR.imm2, fun q hq => hq.imp (hR.dom q) id, fun q z hz => ?_, fun q z f hz hgz => ?_, fun q z f q' z' f' hz hz' hgz hgz' hc hc' he => ?_, hR.fix, hR.kept⟩
  · by_cases e : key = q
    · exact .inr e.symm
    · rw [look_ins hkl, if_neg e] at hz
      exact .inl (hR.key q z hz)
  · by_cases e : key = q
    · subst e
      rw [look_ins hkl] at hz
      simp only [if_true, Option.some.injEq] at hz
      subst hz
      refine ⟨.inr rfl, ⟨by rw [hy]; exact Nat.zero_le _, fun hc => absurd hc (capk f), fun i hi => ?_, fun i k a v hi => ?_⟩⟩
      · rw [hy] at hi; omega
      · rw [hy] at hi; omega
    · rw [look_ins hkl, if_neg e] at hz
      obtain ⟨hd, hr⟩ := hR.row q z f hz hgz
      exact ⟨.inl hd, hr.mono hd hle (fun b _ hb => hb) (.refl _ _) (fun hc => rfl)⟩
  · by_cases e1 : key = q
    · subst e1; exact absurd hc (capk f)
    · by_cases e2 : key = q'
      · subst e2; exact absurd hc' (capk f')
      · rw [look_ins hkl, if_neg e1] at hz
        rw [look_ins hkl, if_neg e2] at hz'
        rw [(cap0 q f e1).1] at hc
        rw [(cap0 q' f' e2).1] at hc'
        rw [(cap0 q f e1).2, (cap0 q' f' e2).2] at he
        exact hR.sep q z f q' z' f' hz hz' hgz hgz' hc hc' he

theorem srcOf_sound (hR : Rel w0 ρ m D w) {m' : Mem} (hm : ∀ r x, look m' r = some x → look m r = some x) {x : AV} {xv : Value} {ob : List Prop} {k sz : Nat} {get : Nat → List AV} (h : srcOf x m' = some (ob, k, sz, get)) (hob : ∀ p ∈ ob, p) (hx : R w ρ x xv) :
    ∃ (a : Option Addr) (cap b o : Nat), xv = .slice a k cap ∧ (0 < k → a = some ⟨b, o, none⟩) ∧ (∀ i, i < k → (get i).length = sz) ∧ ∀ i q, i < k → q < sz → ∃ v, Has w b (o + i * sz + q) v ∧ ∀ c, (get i)[q]? = some c → R w ρ c v := by
  unfold srcOf at h
  split at h
  · cases h
    cases hx with
    | @ro _ _ _ _ a cap b o hnc ha hi2 hlen hex hr =>
      refine ⟨a, cap, b, o, rfl, ha, hlen, fun i q h1 h2 => ?_⟩
      obtain ⟨v, hv⟩ := hex i q h1 h2
      exact ⟨v, hv, fun c hc => (hr i q c v h1 hc hv).of_ext⟩
  · rename_i r f k' sz'
    split at h
    · rename_i fam hl
      cases h
      have g1 : k ≤ (fam f).n := hob _ (by simp)
      have g2 : sz = (fam f).sz := hob _ (by simp)
      have g3 := gOb_true (g := (fam f).g) (fun p hp => hob p (by simp [hp]))
      obtain ⟨hd, hr⟩ := hR.row r fam f (hm _ _ hl) g3
      cases hx with
      | @own _ _ _ _ _ a hd' hnc ha =>
        refine ⟨a, _, ρ.blk r f, 0, rfl, fun h => ha (by have := hr.n_le; omega), fun i hi => by rw [g2]; exact hr.len i (by omega), fun i q h1 h2 => ?_⟩
        obtain ⟨_, hc1, hc2⟩ := row_cells hR (hm _ _ hl) g3 (show i < (fam f).n by omega)
        obtain ⟨v, hv⟩ := hc1 q (by rw [hr.len i (by omega), ← g2]; exact h2)
        refine ⟨v, by rw [Nat.zero_add, g2]; exact hv, fun c hc => hc2 q c v hc hv⟩
    · cases h
  · rename_i r f lo k' sz'
    split at h
    · rename_i fam hl
      cases h
      have g1 : lo + k ≤ (fam f).n := hob _ (by simp)
      have g2 : sz = (fam f).sz := hob _ (by simp)
      have g3 := gOb_true (g := (fam f).g) (fun p hp => hob p (by simp [hp]))
      obtain ⟨hd, hr⟩ := hR.row r fam f (hm _ _ hl) g3
      cases hx with
      | @vw _ _ _ _ _ _ a cap hd' hnc ha =>
        refine ⟨a, _, ρ.blk r f, lo * sz, rfl, ha, fun i hi => by rw [g2]; exact hr.len _ (by omega), fun i q h1 h2 => ?_⟩
        obtain ⟨_, hc1, hc2⟩ := row_cells hR (hm _ _ hl) g3 (show lo + i < (fam f).n by omega)
        obtain ⟨v, hv⟩ := hc1 q (by rw [hr.len _ (by omega), ← g2]; exact h2)
        refine ⟨v, ?_, fun c hc => hc2 q c v hc hv⟩
        rw [← Nat.add_mul, g2]; exact hv
    · cases h
  · cases h

/-- The cells that are appended. -/
theorem news_of {b o k sz : Nat} {get : Nat → List AV} (hsz : 0 < sz) (hlen : ∀ i, i < k → (get i).length = sz) (hall : ∀ i, i < k → allCells (get i) = true)
    (h : ∀ i q, i < k → q < sz → ∃ v, Has w b (o + i * sz + q) v ∧ ∀ c, (get i)[q]? = some c → R w ρ c v) :
    ∃ news : List Value, news.length = k * sz ∧ (∀ j v, news[j]? = some v → w.cell? ((⟨b, o, none⟩ : Addr).add j) = some v) ∧ (∀ v ∈ news, v.oneCell' = true) ∧
      ∀ i q c v, i < k → (get i)[q]? = some c → news[i * sz + q]? = some v → R w ρ c v := by
  have cell : ∀ i q, i < k → q < sz → ∃ v c, (get i)[q]? = some c ∧ w.cell? ⟨b, o + (i * sz + q), none⟩ = some v ∧ R w ρ c v ∧ v.oneCell' = true := fun i q h1 h2 => by
    obtain ⟨v, hv, hr⟩ := h i q h1 h2
    have hq : q < (get i).length := by rw [hlen i h1]; exact h2
    have hc : (get i)[q]? = some (get i)[q] := List.getElem?_eq_getElem hq
    refine ⟨v, _, hc, by rw [← Nat.add_assoc]; exact hv, hr _ hc, (isCell_sound (hr _ hc) (allCells_mem (hall i h1) _ (List.getElem_mem _))).1⟩
  have split : ∀ j, j < k * sz → j / sz < k ∧ j % sz < sz ∧ j / sz * sz + j % sz = j := fun j hj => by
    refine ⟨Nat.div_lt_of_lt_mul (by rw [Nat.mul_comm]; exact hj), Nat.mod_lt _ hsz, ?_⟩
    rw [Nat.mul_comm]; exact Nat.div_add_mod j sz
  have mem : ∀ j v, ((List.range (k * sz)).map fun j => (w.cell? ⟨b, o + j, none⟩).getD undef)[j]? = some v → j < k * sz ∧ (w.cell? ⟨b, o + j, none⟩).getD undef = v := fun j v hv => by
    rw [List.getElem?_map] at hv
    by_cases hj : j < k * sz
    · rw [List.getElem?_range hj] at hv
      exact ⟨hj, by simpa using hv⟩
    · rw [List.getElem?_eq_none (by simpa using hj)] at hv
      simp at hv
  refine ⟨(List.range (k * sz)).map fun j => (w.cell? ⟨b, o + j, none⟩).getD undef, by simp, fun j v hv => ?_, fun v hv => ?_, fun i q c v h1 h2 hv => ?_⟩
  · obtain ⟨hj, e⟩ := mem j v hv
    obtain ⟨s1, s2, s3⟩ := split j hj
    obtain ⟨u, c, _, hu, _, _⟩ := cell _ _ s1 s2
    rw [s3] at hu
    rw [hu] at e
    rw [add_eq, hu, ← e]; rfl
  · obtain ⟨j, hj, e⟩ := List.mem_iff_getElem.1 hv
    have hv' := (List.getElem?_eq_getElem hj).trans (congrArg some e)
    obtain ⟨hj, e⟩ := mem j v hv'
    obtain ⟨s1, s2, s3⟩ := split j hj
    obtain ⟨u, c, _, hu, _, h1⟩ := cell _ _ s1 s2
    rw [s3] at hu
    rw [hu] at e
    have : u = v := e
    rw [← this]; exact h1
  · have hq : q < sz := by have := (List.getElem?_eq_some_iff.1 h2).1; rw [hlen i h1] at this; exact this
    obtain ⟨_, e⟩ := mem _ v hv
    obtain ⟨u, c', hc', hu, hr, _⟩ := cell i q h1 hq
    rw [hu] at e
    have e : u = v := e
    rw [h2] at hc'
    cases hc'
    rw [← e]; exact hr

/-- Nothing is appended. -/
theorem run_append_zero {t e ty : TypeId} {i : TypeInfo} {a b : Option Addr} {n c c' : Nat} (ht : P.underlying t = some (.slice e)) (hi : P.info? e = some i) (hn : n ≤ c) :
    (Builtin.append_ #[t, t] ty #[.slice a n c, .slice b 0 c']).run P w = .ok (.slice a n c) w := by
  cases a <;> cases b <;> simp [Builtin.append_, run_underlying ht, sizeOf, typeInfo, hi, Builtin.lenOf, Builtin.firstCells, loadCells, loadCellsFrom, hn, storeCells]

theorem zeroT_info {e : TypeId} {z : Value} (h : zeroT P e = some z) : ∃ i, P.info? e = some i ∧ i.zero = some z ∧ sizeT P e = i.size ∧ bytesT P e = i.bytes := by
  unfold zeroT at h
  split at h
  · rename_i i hi
    exact ⟨i, hi, h, by simp [sizeT, hi], by simp [bytesT, hi]⟩
  · cases h

/-- What is new behind an append that makes a new row. -/
theorem grown_post (hR : Rel w0 ρ m D w) (hk : ¬ D key) {e : TypeId} {n sz cap : Nat} {get : Nat → List AV} {vs : List Value} (hn : n ≤ cap) (hsz : vs.length = cap * sz) (hlen : ∀ i, i < n → (get i).length = sz)
    (hrel : ∀ (i k : Nat) (a : AV) (v : Value), i < n → (get i)[k]? = some a → vs[i * sz + k]? = some v → R w ρ a v) {ob : List Prop} :
    Post w0 ρ m D key ⟨ob, .own key 0 n sz, .new (famN n sz e get none)⟩ w (.slice (some ⟨w.heap.size, 0, none⟩) n cap) (w.drew.alloc (.cells vs.toArray e)) := by
  have h1 := newSlice_post (w := w.drew) hR.drew1 hk (e := e) (n := n) (sz := sz) (cap := cap) (get := get) (vs := vs) hn hsz hlen (fun i k a v x1 x2 x3 => (hrel i k a v x1 x2 x3).mono (.refl _) (fun _ _ => rfl)) none (ob := ob)
  obtain ⟨ρ', a1, a2, a3, a4⟩ := h1
  exact ⟨ρ', a1, a2, a3, fun b hb => a4 b hb⟩
theorem Post.drop {ob : List Prop} {x : AV} {y : Fam} {v : Value} {w' : World} (h : Post w0 ρ m D key ⟨ob, x, .new y⟩ w v w') {r : Nat} (hk : look m key = none) : Post w0 ρ m D key ⟨ob, x, .swap r y⟩ w v w' := by
  obtain ⟨ρ', a1, a2, a3, a4⟩ := h
  refine ⟨ρ', a1, a2.sub (fun q z hz => ?_) (fun _ h => h), a3, a4⟩
  have hk2 : look (dropRow r m) key = none := by rw [look_drop]; split <;> simp [hk]
  have hz : look (insRow key y (dropRow r m)) q = some z := hz
  show look (insRow key y m) q = some z
  rw [look_ins hk2] at hz
  rw [look_ins hk]
  split
  · rename_i e; rw [if_pos e] at hz; exact hz
  · rename_i e
    rw [if_neg e, look_drop] at hz
    split at hz
    · cases hz
    · exact hz

theorem aAppend_sound (hR : Rel w0 ρ m D w) (hk : ¬ D key) {m' : Mem} (hm : ∀ r x, look m' r = some x → look m r = some x) {t : TypeId} {s x : AV} {e : Eff} {sv xv : Value} {ty : TypeId} (h : aAppend P key t s x m' = some e) (hob : ∀ p ∈ e.ob, p) (hs : R w ρ s sv) (hx : R w ρ x xv) :
    ∃ v w', (Builtin.append_ #[t, t] ty #[sv, xv]).run P w = .ok v w' ∧ Post w0 ρ m D key e w v w' := by
  have hkl : look m key = none := by
    cases hl : look m key with
    | none => rfl
    | some y => exact absurd (hR.key _ _ hl) hk
  unfold aAppend at h
  split at h
  · rename_i el hel
    split at h
    · rename_i z hz
      split at h
      · rename_i hzs
        obtain ⟨i, hi, hiz, hisz, hiby⟩ := zeroT_info hz
        have ht := sElem_run hel
        split at h
        · rename_i ob k sz getx hsrc
          split at h
          · rename_i hsz
            split at h
            · -- nil
              cases h
              have hob1 : ∀ p ∈ ob, p := fun p hp => hob p (by simp [hp])
              have ha : ∀ i, i < k → allCells (getx i) = true := hob _ (by simp)
              have hb : k * bytesT P el ≤ 140737488355328 := hob _ (by simp)
              have h63 : k ≤ 9223372036854775807 := hob _ (by simp)
              obtain ⟨a, cap, b, o, rfl, had, hlen, hcell⟩ := srcOf_sound hR hm hsrc hob1 hx
              cases hs
              by_cases hk0 : k = 0
              · subst hk0
                refine ⟨_, _, run_append_zero ht hi (Nat.le_refl _), ρ.add key 0 0, ?_, hR.empty hk (y := famN 0 sz el getx none) (fun f => by unfold famN; split <;> rfl), Env.le_add (fun hd => hk (hR.dom _ hd)), .refl _ _⟩
                have := R.own (w := w) (ρ := ρ.add key 0 0) (r := key) (f := 0) (n := 0) (sz := sz) (a := none) (.inr rfl) (Nat.zero_le _) (fun hc => by simp [Env.add] at hc)
                simpa [Env.add] using this
              · obtain rfl := had (by omega)
                obtain ⟨news, n1, n2, n3, n4⟩ := news_of (by rw [hsz]; exact hzs.2) hlen ha hcell
                have n1' : news.length = k * i.size := by rw [n1, hsz, hisz]
                have hr := run_append_nil (P := P) w t ty el i z ht hi hiz ⟨b, o, none⟩ k cap news n1' n2 (by omega) (by omega) (by rw [hiby] at hb; omega)
                refine ⟨_, _, hr, ?_⟩
                have hge := grownCap_ge w k 0 el
                have e1 : (news.toArray ++ Builtin.zeroCells z.cells (grownCap w k 0 el - k)) = (news ++ (Builtin.zeroCells z.cells (grownCap w k 0 el - k)).toList).toArray := by simp
                rw [e1]
                refine grown_post hR hk hge ?_ hlen (fun i q c v h1 h2 h3 => ?_)
                · simp only [List.length_append, Array.length_toList, size_zeroCells, n1, hzs.1, hsz]
                  rw [← Nat.add_mul]
                  congr 1
                  omega
                · have hq : q < sz := by have := (List.getElem?_eq_some_iff.1 h2).1; rw [hlen i h1] at this; exact this
                  have hlt : i * sz + q < news.length := by
                    rw [n1]
                    have : (i + 1) * sz ≤ k * sz := Nat.mul_le_mul_right _ h1
                    rw [Nat.add_mul] at this; omega
                  rw [List.getElem?_append_left hlt] at h3
                  exact n4 i q c v h1 h2 h3
            · -- a row of our own
              rename_i r f n sz'
              split at h
              · rename_i hf
                obtain ⟨rfl, rfl⟩ := hf
                split at h
                · rename_i fam hl
                  cases h
                  have hob1 : ∀ p ∈ ob, p := fun p hp => hob p (by simp [hp])
                  have hn : n ≤ (fam 0).n := hob _ (by simp)
                  have hfs : sz' = (fam 0).sz := hob _ (by simp)
                  have hty : (fam 0).ty = el := hob _ (by simp)
                  have hg : (fam 0).g = none := hob _ (by simp)
                  have ha : ∀ i, i < k → allCells (getx i) = true := hob _ (by simp)
                  have hb : (n + k) * bytesT P el ≤ 140737488355328 := hob _ (by simp)
                  have h63 : n + k ≤ 9223372036854775807 := hob _ (by simp)
                  obtain ⟨a, cap, b, o, rfl, had, hlen, hcell⟩ := srcOf_sound hR hm hsrc hob1 hx
                  have hl := hm _ _ hl
                  have hg' : (fam 0).g ≠ some false := by rw [hg]; simp
                  obtain ⟨hd, hr0⟩ := hR.row r fam 0 hl hg'
                  cases hs with
                  | @own _ _ _ _ _ a0 hd' hnc ha0 =>
                    have yf : ∀ get' n', ∀ f, f ≠ 0 → (famN n' sz' el get' none f).n = 0 := fun get' n' f hf => by unfold famN; rw [if_neg hf]
                    have fin : ∀ (w' : World) (n' : Nat) (get' : Nat → List AV), n' ≤ ρ.cap r 0 → ∀ {m2 : Mem} {fam2 : Fam}, (∀ q z, look (dropRow r m) q = some z → look (dropRow r m2) q = some z) → Rel w0 ρ m2 D w' → look m2 r = some fam2 → (fam2 0).g ≠ some false → RowOK w0 ρ w' r 0 (famN n' sz' el get' none 0) → Same ρ.imm w w' → ∀ ob', Post w0 ρ m D key ⟨ob', .own key 0 n' sz', .swap r (famN n' sz' el get' none)⟩ w (.slice a0 n' (ρ.cap r 0)) w' := fun w' n' get' hn' m2 fam2 hdr hR2 hl2 hg2 hok hsame ob' => by
                      refine ⟨ρ.also key r, ?_, (hR2.rename hk hl2 hg2 hok (yf get' n')).sub (fun q z hz => ?_) (fun _ h => h), Env.le_also (fun hd => hk (hR.dom _ hd)), hsame⟩
                      · have := R.own (w := w') (ρ := ρ.also key r) (r := key) (f := 0) (n := n') (sz := sz') (a := a0) (.inr rfl) (by simpa [Env.also] using hn') (fun hc => by simp [Env.also] at hc ⊢; exact ha0 hc)
                        simpa [Env.also] using this
                      · have hz : look (insRow key (famN n' sz' el get' none) (dropRow r m)) q = some z := hz
                        have k1 : look (dropRow r m) key = none := by rw [look_drop]; split <;> simp [hkl]
                        have hkl2 : look m2 key = none := by
                          cases hl : look m2 key with
                          | none => rfl
                          | some y => exact absurd (hR2.key _ _ hl) hk
                        have k2 : look (dropRow r m2) key = none := by rw [look_drop]; split <;> simp [hkl2]
                        rw [look_ins k1] at hz
                        rw [look_ins k2]
                        split
                        · rename_i e; rw [if_pos e] at hz; exact hz
                        · rename_i e; rw [if_neg e] at hz; exact hdr q z hz
                    by_cases hk0 : k = 0
                    · subst hk0
                      refine ⟨_, _, run_append_zero ht hi hnc, ?_⟩
                      refine fin w n _ hnc (fun _ _ h => h) hR hl hg' ?_ (.refl _ _) _
                      refine ⟨hnc, fun hc => ?_, fun i hi => ?_, fun i q c v hi h1 h2 => ?_⟩
                      · have := hr0.blk hc
                        rw [hty, ← hfs] at this
                        exact this
                      · have hi : i < n := hi
                        show (if i < n then (fam 0).get i else getx (i - n)).length = sz'
                        rw [if_pos hi, hfs]; exact hr0.len i (by omega)
                      · have hi : i < n := hi
                        have h1 : (if i < n then (fam 0).get i else getx (i - n))[q]? = some c := h1
                        rw [if_pos hi] at h1
                        have h2 : Has w (ρ.blk r 0) (i * sz' + q) v := h2
                        rw [hfs] at h2
                        exact hr0.rel i q c v (by omega) h1 h2
                    · obtain rfl := had (by omega)
                      obtain ⟨news, n1, n2, n3, n4⟩ := news_of (by rw [hsz]; exact hzs.2) hlen ha hcell
                      have n1' : news.length = k * i.size := by rw [n1, hsz, hisz]
                      have hsi : sz' = i.size := by rw [hsz, hisz]
                      -- the old cells
                      have olds : ∃ old : List Value, old.length = n * sz' ∧ (∀ j v, old[j]? = some v → w.cell? ⟨ρ.blk r 0, j, none⟩ = some v) ∧ ∀ i q c v, i < n → ((fam 0).get i)[q]? = some c → old[i * sz' + q]? = some v → R w ρ c v := by
                        by_cases hn0 : n = 0
                        · subst hn0
                          exact ⟨[], by simp, fun j v h => by simp at h, fun i q c v h => by omega⟩
                        · obtain ⟨_, _, c, hc, hcs⟩ := hr0.blk (by omega)
                          have hle : n * sz' ≤ c.size := by rw [hcs, hfs]; exact Nat.mul_le_mul_right _ (by omega)
                          refine ⟨c.toList.take (n * sz'), by simp; omega, fun j v hj => ?_, fun i q c' v h1 h2 h3 => ?_⟩
                          · rw [List.getElem?_take] at hj
                            split at hj
                            · simp [World.cell?, hc]; simpa using hj
                            · cases hj
                          · rw [List.getElem?_take] at h3
                            split at h3
                            · refine hr0.rel i q c' v (by omega) h2 ?_
                              unfold Has World.cell?
                              rw [hc, ← hfs]; simpa using h3
                            · cases h3
                      obtain ⟨old, o1, o2, o3⟩ := olds
                      have newget : ∀ i q c v (tail : List Value), i < n + k → (if i < n then (fam 0).get i else getx (i - n))[q]? = some c → (old ++ news ++ tail)[i * sz' + q]? = some v → R w ρ c v := fun i q c v tail hi h1 h2 => by
                        split at h1
                        · rename_i hin
                          have hq : q < sz' := by have := (List.getElem?_eq_some_iff.1 h1).1; rw [hr0.len i (by omega), ← hfs] at this; exact this
                          have hlt : i * sz' + q < old.length := by
                            rw [o1]
                            have : (i + 1) * sz' ≤ n * sz' := Nat.mul_le_mul_right _ hin
                            rw [Nat.add_mul] at this; omega
                          rw [List.append_assoc, List.getElem?_append_left hlt] at h2
                          exact o3 i q c v hin h1 h2
                        · rename_i hin
                          have hq : q < sz' := by have := (List.getElem?_eq_some_iff.1 h1).1; rw [hlen _ (by omega)] at this; exact this
                          have e1 : i * sz' + q = old.length + ((i - n) * sz' + q) := by
                            rw [o1, ← Nat.add_assoc, ← Nat.add_mul]; congr 2; omega
                          have hlt : (i - n) * sz' + q < news.length := by
                            rw [n1]
                            have : (i - n + 1) * sz' ≤ k * sz' := Nat.mul_le_mul_right _ (by omega)
                            rw [Nat.add_mul] at this; omega
                          rw [e1, List.append_assoc, List.getElem?_append_right (by omega), Nat.add_sub_cancel_left, List.getElem?_append_left hlt] at h2
                          exact n4 _ q c v (by omega) h1 h2
                      have newlen : ∀ i, i < n + k → (if i < n then (fam 0).get i else getx (i - n)).length = sz' := fun i hi => by
                        split
                        · rw [hfs]; exact hr0.len i (by omega)
                        · exact hlen _ (by omega)
                      by_cases hroom : n + k ≤ ρ.cap r 0
                      · have hcap : 0 < ρ.cap r 0 := by omega
                        obtain ⟨b1, b2, c, hc, hcs⟩ := hr0.blk hcap
                        rw [hty] at hc
                        obtain rfl := ha0 hcap
                        have hfit : n * i.size + news.length ≤ c.size := by
                          rw [n1', ← Nat.add_mul, hcs, ← hfs, hsi]; exact Nat.mul_le_mul_right _ hroom
                        have hrun := run_append_room (P := P) w t ty el i ht hi (ρ.blk r 0) n (ρ.cap r 0) c hc ⟨b, o, none⟩ k cap news n1' n2 n3 hroom hfit
                        refine ⟨_, _, hrun, ?_⟩
                        have hold : old = c.toList.take (n * i.size) := by
                          apply List.ext_getElem?
                          intro j
                          by_cases hj : j < n * sz'
                          · have h1 : old[j]? = some old[j] := List.getElem?_eq_getElem (by rw [o1]; exact hj)
                            have h2 := o2 j _ h1
                            simp [World.cell?, hc] at h2
                            rw [h1, List.getElem?_take, if_pos (by rw [← hsi]; exact hj)]
                            rw [← h2]; simp
                          · rw [List.getElem?_eq_none (by omega), List.getElem?_eq_none]
                            simp; rw [← hsi]; omega
                        rw [← hold]
                        have hput := hR.put hl hg' (c := c) (c' := (old ++ news ++ c.toList.drop (n * i.size + news.length)).toArray) (ty := el) hcap hc (by
                            simp only [List.size_toArray, List.length_append, List.length_drop, Array.length_toList, o1]
                            rw [hsi]; omega) (x := ⟨n + k, sz', el, fun i => if i < n then (fam 0).get i else getx (i - n), none⟩) rfl hfs hg.symm hroom newlen (fun i q c v h1 h2 h3 => newget i q c v _ h1 h2 (by simpa using h3))
                        refine fin _ (n + k) _ hroom (m2 := setRow r (fun f => if f = 0 then ⟨n + k, sz', el, fun i => if i < n then (fam 0).get i else getx (i - n), none⟩ else fam f) m) (fam2 := fun f => if f = 0 then ⟨n + k, sz', el, fun i => if i < n then (fam 0).get i else getx (i - n), none⟩ else fam f) ?_ hput.1 (by rw [look_set]; simp [hl]) (by simp) ?_ hput.2 _
                        · intro q z hz
                          rw [look_drop] at hz ⊢
                          split
                          · rename_i e; rw [if_pos e] at hz; exact hz
                          · rename_i e
                            rw [if_neg e] at hz
                            rw [look_set, if_neg (fun h => e h.1)]
                            exact hz
                        · exact (hput.1.row r (fun f => if f = 0 then ⟨n + k, sz', el, fun i => if i < n then (fam 0).get i else getx (i - n), none⟩ else fam f) 0 (by rw [look_set]; simp [hl]) (by simp)).2
                      · have post : ∀ (tail : List Value) (cap' : Nat), n + k ≤ cap' → tail.length = (cap' - (n + k)) * sz' → Post w0 ρ m D key ⟨ob ++ [n ≤ (fam 0).n, sz' = (fam 0).sz, (fam 0).ty = el, (fam 0).g = none, ∀ i, i < k → allCells (getx i) = true, (n + k) * bytesT P el ≤ 140737488355328, n + k ≤ 9223372036854775807], .own key 0 (n + k) sz', .swap r (famN (n + k) sz' el (fun i => if i < n then (fam 0).get i else getx (i - n)) none)⟩ w (.slice (some ⟨w.heap.size, 0, none⟩) (n + k) cap') (w.drew.alloc (.cells (old ++ news ++ tail).toArray el)) := fun tail cap' h1 h2 => by
                          refine Post.drop (grown_post hR hk h1 ?_ newlen (fun i q c v x1 x2 x3 => newget i q c v tail x1 x2 x3)) hkl
                          simp only [List.length_append, o1, n1, h2, ← Nat.add_mul]
                          congr 1
                          omega
                        cases a0 with
                        | none =>
                          have hc0 : ρ.cap r 0 = 0 := by
                            by_cases hc : 0 < ρ.cap r 0
                            · cases ha0 hc
                            · omega
                          have hn0 : n = 0 := by omega
                          subst hn0
                          rw [hc0]
                          have hr := run_append_nil (P := P) w t ty el i z ht hi hiz ⟨b, o, none⟩ k cap news n1' n2 (by omega) (by omega) (by rw [hiby] at hb; simp only [Nat.zero_add] at hb; omega)
                          refine ⟨_, _, hr, ?_⟩
                          have hge := grownCap_ge w k 0 el
                          have old0 : old = [] := List.eq_nil_of_length_eq_zero (by simpa using o1)
                          have hp := post (Builtin.zeroCells z.cells (grownCap w k 0 el - k)).toList (grownCap w k 0 el) (by omega) (by simp only [Array.length_toList, size_zeroCells, hzs.1, hsz, Nat.zero_add])
                          rw [old0] at hp
                          simp only [Nat.zero_add, List.nil_append] at hp ⊢
                          have e1 : (news.toArray ++ Builtin.zeroCells z.cells (grownCap w k 0 el - k)) = (news ++ (Builtin.zeroCells z.cells (grownCap w k 0 el - k)).toList).toArray := by simp
                          rw [e1]
                          exact hp
                        | some b0 =>
                          have hr := run_append_grow (P := P) w t ty el i z ht hi hiz b0 n (ρ.cap r 0) old (by rw [o1, hsi]) (fun j v hj => by
                              have hlt : j < n * sz' := by have := (List.getElem?_eq_some_iff.1 hj).1; rw [o1] at this; exact this
                              have hn0 : 0 < n := by
                                rcases Nat.eq_zero_or_pos n with h | h
                                · subst h; simp at hlt
                                · exact h
                              have := ha0 (by omega)
                              cases this
                              rw [add_eq, Nat.zero_add]
                              exact o2 j v hj) ⟨b, o, none⟩ k cap news n1' n2 (by omega) (by omega) (growslice_fits (by omega) (by rw [hiby] at hb; exact hb))
                          refine ⟨_, _, hr, ?_⟩
                          have hge := grownCap_ge w (n + k) (ρ.cap r 0) el
                          have hp := post (Builtin.zeroCells z.cells (grownCap w (n + k) (ρ.cap r 0) el - (n + k))).toList (grownCap w (n + k) (ρ.cap r 0) el) hge (by simp only [Array.length_toList, size_zeroCells, hzs.1, hsz])
                          have e1 : (old.toArray ++ news.toArray ++ Builtin.zeroCells z.cells (grownCap w (n + k) (ρ.cap r 0) el - (n + k))) = (old ++ news ++ (Builtin.zeroCells z.cells (grownCap w (n + k) (ρ.cap r 0) el - (n + k))).toList).toArray := by simp
                          rw [e1]
                          exact hp
                · cases h
              · cases h
            · cases h
          · cases h
        · cases h
      · cases h
    · cases h
  · cases h

theorem aExt_sound (hR : Rel w0 ρ m D w) (hk : ¬ D key) {m' : Mem} (hm : ∀ r x, look m' r = some x → look m r = some x) {g : Option Bool} {e : Eff} (h : aExt P key g o ρ0 m' = some e) (hob : ∀ q ∈ e.ob, q) (hv : ∀ x ∈ o.op.operands, R w ρ (strip (ρ0 x)) (ev x)) :
    Gives P ev o w fun v w' => Post w0 ρ m D key e w v w' := by
  have val : ∀ {s : Sem Value} {v : Value} {w' : World}, s.run P w = .ok v w' → (do pure (Next.value (← s)) : Sem Next).run P w = .ok (.value v) w' := fun h => run_value h
  unfold aExt at h
  split at h
  · rename_i t l c ho
    obtain ⟨x, w', h1, h2⟩ := aMake_sound hR hk h hob (hv l (by simp [ho, Op.operands])) (hv c (by simp [ho, Op.operands]))
    exact ⟨x, w', .inl (by simp only [execOp, ho]; exact val h1), h2⟩
  · rename_i t x lo hi ho
    obtain ⟨v, h1, h2, h3⟩ := aCut_sound (lv := lo.map ev) (hv := hi.map ev) h hob (hv x (by simp [ho, Op.operands])) (by
        cases lo with
        | none => trivial
        | some y => exact hv y (by simp [ho, Op.operands])) (by
        cases hi with
        | none => trivial
        | some y => exact hv y (by simp [ho, Op.operands]))
    refine ⟨v, w, .inl (by simp only [execOp, ho]; exact val (by simpa using h1)), ?_⟩
    obtain ⟨ob, a, u⟩ := e
    dsimp only at h3
    subst h3
    exact .still hR h2
  · rename_i args ats ho
    split at h
    · rename_i s x t u hargs hats
      split at h
      · rename_i htu
        subst htu
        have m1 : s ∈ args := by have : s ∈ args.toList := by rw [hargs]; simp
                                 simpa using this
        have m2 : x ∈ args := by have : x ∈ args.toList := by rw [hargs]; simp
                                 simpa using this
        obtain ⟨v, w', h1, h2⟩ := aAppend_sound (ty := o.type) hR hk hm h hob (hv s (by simp [ho, Op.operands, Call.operands, m1])) (hv x (by simp [ho, Op.operands, Call.operands, m2]))
        refine ⟨v, w', .inl ?_, h2⟩
        have ha : args = #[s, x] := by apply Array.ext'; simpa using hargs
        have hb : ats = #[t, t] := by apply Array.ext'; simpa using hats
        subst ha hb
        simp [execOp, ho, resolve, invoke, builtin, h1]
      · cases h
    · cases h
  · cases h
end
end Go.Ax
