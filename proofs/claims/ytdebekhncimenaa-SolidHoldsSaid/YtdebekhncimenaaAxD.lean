/-
  Stores, addresses, values that are put together.
-/
import Derived.Test.YtdebekhncimenaaAxC
namespace Go.Ax
open Go.RowKit

theorem putCells_length {α : Type} {cs : List α} {k : Nat} {new : List α} (h : k + new.length ≤ cs.length) : (cs.take k ++ new ++ cs.drop (k + new.length)).length = cs.length := by
  simp; omega
theorem putCells_get {α : Type} {cs : List α} {k : Nat} {new : List α} (h : k + new.length ≤ cs.length) (j : Nat) :
    (cs.take k ++ new ++ cs.drop (k + new.length))[j]? = if k ≤ j ∧ j < k + new.length then new[j - k]? else cs[j]? := by
  have hm : (cs.take k).length = k := by simp; omega
  by_cases h1 : j < k
  · rw [List.append_assoc, List.getElem?_append_left (by omega), List.getElem?_take, if_pos h1, if_neg (by omega)]
  · by_cases h2 : j < k + new.length
    · rw [List.append_assoc, List.getElem?_append_right (by omega), List.getElem?_append_left (by omega), if_pos ⟨by omega, h2⟩, hm]
    · rw [List.getElem?_append_right (by simp; omega), if_neg (by omega), List.getElem?_drop]
      congr 1
      simp
      omega

section
variable {P : Program} {w0 : Base} {w : World} {ρ : Env} {m : Mem} {D : Nat → Prop} {key : Nat} {ev : Operand → Value} {ρ0 : Operand → AV} {o : Oper}

theorem mul_add_inj {sz i j p q : Nat} (hp : p < sz) (hq : q < sz) (h : i * sz + p = j * sz + q) : i = j ∧ p = q := by
  have hsz : 0 < sz := by omega
  have h1 : (i * sz + p) / sz = i := by rw [Nat.mul_comm, Nat.mul_add_div hsz, Nat.div_eq_of_lt hp]; rfl
  have h2 : (j * sz + q) / sz = j := by rw [Nat.mul_comm, Nat.mul_add_div hsz, Nat.div_eq_of_lt hq]; rfl
  have h3 : i = j := by rw [← h1, ← h2, h]
  subst h3
  exact ⟨rfl, by omega⟩

theorem Rel.set (hR : Rel w0 ρ m D w) {r f : Nat} {fam : Fam} (hl : look m r = some fam) (hg : (fam f).g ≠ some false) {i k : Nat} (hi : i < (fam f).n) {cs : List AV} {vs : List Value} (hk : k + cs.length ≤ (fam f).sz) (hs : Rs w ρ cs vs)
    {c : Array Value} (hc : w.heap[ρ.blk r f]? = some (.cells c (fam f).ty (0, 0))) :
    Rel w0 ρ (setRow r (updAt fam f i k cs) m) D (w.setRow (ρ.blk r f) (c.toList.take (i * (fam f).sz + k) ++ vs ++ c.toList.drop (i * (fam f).sz + k + vs.length)).toArray) ∧
    Same ρ.imm w (w.setRow (ρ.blk r f) (c.toList.take (i * (fam f).sz + k) ++ vs ++ c.toList.drop (i * (fam f).sz + k + vs.length)).toArray) := by
  obtain ⟨hd, hr⟩ := hR.row r fam f hl hg
  have hcap : 0 < ρ.cap r f := by have := hr.n_le; omega
  obtain ⟨b1, b2, c', b3, b4⟩ := hr.blk hcap
  rw [hc] at b3
  cases b3
  have hfit : i * (fam f).sz + k + vs.length ≤ c.toList.length := by
    rw [hs.1, show c.toList.length = c.size from rfl, b4]
    have h1 : (i + 1) * (fam f).sz ≤ ρ.cap r f * (fam f).sz := Nat.mul_le_mul_right _ (by have := hr.n_le; omega)
    rw [Nat.add_mul] at h1
    omega
  have hsame : Same ρ.imm w (w.setRow (ρ.blk r f) (c.toList.take (i * (fam f).sz + k) ++ vs ++ c.toList.drop (i * (fam f).sz + k + vs.length)).toArray) :=
    fun b hb => setRow_other _ _ _ _ (fun e => b2 (e ▸ hb))
  have hnew := setRow_heap w (ρ.blk r f) c (c.toList.take (i * (fam f).sz + k) ++ vs ++ c.toList.drop (i * (fam f).sz + k + vs.length)).toArray _ _ hc
  have hlook : ∀ q y, look (setRow r (updAt fam f i k cs) m) q = some y → (q = r ∧ y = updAt fam f i k cs) ∨ (q ≠ r ∧ look m q = some y) := fun q y hy => by
    rw [look_set] at hy
    by_cases e : r = q
    · subst e; simp [hl] at hy; exact .inl ⟨rfl, hy.symm⟩
    · simp [e] at hy; exact .inr ⟨Ne.symm e, hy⟩
  have hother : ∀ q y g', look m q = some y → (y g').g ≠ some false → 0 < ρ.cap q g' → ¬ (q = r ∧ g' = f) → ρ.blk q g' ≠ ρ.blk r f := fun q y g' hy hgy hcq hne he => by
    have := hR.sep q y g' r fam f hy hl hgy hg hcq hcap he
    exact hne this
  have hgg : ∀ g', (updAt fam f i k cs g').g = (fam g').g := fun g' => by unfold updAt; split <;> simp_all
  refine ⟨⟨hR.below.trans ⟨rfl, rfl, rfl, by simp, fun k hk => setRow_other _ _ _ _ (by omega)⟩, fun b hb => by simpa using hR.imm2 b hb, hR.dom, fun q y hy => ?_, fun q y g' hy hgy => ?_, fun q y g' q' y' g'' hy hy' hgy hgy' hcq hcq' he => ?_, hR.fixed fun p hp => setRow_other _ _ _ _ (hR.fix_ne hc hp), hR.keeps hsame⟩, hsame⟩
  · rcases hlook q y hy with ⟨e, _⟩ | ⟨_, h⟩
    · subst e; exact hR.key _ _ hl
    · exact hR.key _ _ h
  · rcases hlook q y hy with ⟨e, e2⟩ | ⟨hne, h⟩
    · subst e e2
      rw [hgg] at hgy
      by_cases hf : g' = f
      · subst hf
        refine ⟨hd, ?_⟩
        have hget : (updAt fam g' i k cs g') = { fam g' with get := fun j => if j = i then putCells ((fam g').get i) k cs else (fam g').get j } := by simp [updAt]
        rw [hget]
        refine ⟨hr.n_le, fun _ => ⟨b1, b2, _, hnew, ?_⟩, fun j hj => ?_, fun j q' a x hj h1 h2 => ?_⟩
        · rw [← b4]
          have := putCells_length hfit
          simpa using this
        · dsimp only
          split
          · rename_i e; subst e
            unfold putCells
            rw [putCells_length (by rw [hr.len j hi]; exact hk)]
            exact hr.len j hi
          · exact hr.len j hj
        · dsimp only at h1 h2 hj
          have hlen : q' < (fam g').sz := by
            have hlt := (List.getElem?_eq_some_iff.1 h1).1
            split at hlt
            · unfold putCells at hlt
              rw [putCells_length (by rw [hr.len i hi]; exact hk), hr.len i hi] at hlt
              exact hlt
            · rw [hr.len j hj] at hlt; exact hlt
          have h2' : (c.toList.take (i * (fam g').sz + k) ++ vs ++ c.toList.drop (i * (fam g').sz + k + vs.length))[j * (fam g').sz + q']? = some x := by
            unfold Has World.cell? at h2
            rw [hnew] at h2
            simpa using h2
          rw [putCells_get hfit] at h2'
          have hold : c[j * (fam g').sz + q']? = some x → Has w (ρ.blk q g') (j * (fam g').sz + q') x := fun h => by
            unfold Has World.cell?; simp [hc, h]
          by_cases hji : j = i
          · subst hji
            simp only [if_true] at h1
            unfold putCells at h1
            rw [putCells_get (by rw [hr.len j hi]; exact hk)] at h1
            by_cases hin : k ≤ q' ∧ q' < k + cs.length
            · have : j * (fam g').sz + k ≤ j * (fam g').sz + q' ∧ j * (fam g').sz + q' < j * (fam g').sz + k + vs.length := by rw [hs.1]; omega
              simp only [this, and_self, if_true] at h2'
              simp only [hin, and_self, if_true] at h1
              have e : j * (fam g').sz + q' - (j * (fam g').sz + k) = q' - k := by omega
              rw [e] at h2'
              exact (hs.2 _ a x h1 h2').mono (.refl _) hsame
            · have : ¬ (j * (fam g').sz + k ≤ j * (fam g').sz + q' ∧ j * (fam g').sz + q' < j * (fam g').sz + k + vs.length) := by rw [hs.1]; omega
              simp only [this, if_false] at h2'
              simp only [hin, if_false] at h1
              exact (hr.rel j q' a x hi h1 (hold (by simpa using h2'))).mono (.refl _) hsame
          · simp only [hji, if_false] at h1
            have : ¬ (i * (fam g').sz + k ≤ j * (fam g').sz + q' ∧ j * (fam g').sz + q' < i * (fam g').sz + k + vs.length) := by
              rw [hs.1]
              rintro ⟨a1, a2⟩
              have : i * (fam g').sz + (k + (j * (fam g').sz + q' - (i * (fam g').sz + k))) = j * (fam g').sz + q' := by omega
              exact hji (mul_add_inj (by omega) hlen this).1.symm
            simp only [this, if_false] at h2'
            exact (hr.rel j q' a x hj h1 (hold (by simpa using h2'))).mono (.refl _) hsame
      · have hget : updAt fam f i k cs g' = fam g' := by simp [updAt, hf]
        rw [hget]
        obtain ⟨hd', hr'⟩ := hR.row q fam g' hl hgy
        exact ⟨hd', hr'.mono hd' (.refl _) (fun _ _ h => h) hsame (fun hcq => setRow_other _ _ _ _ (hother q fam g' hl hgy hcq (fun e => hf e.2)))⟩
    · obtain ⟨hd', hr'⟩ := hR.row q y g' h hgy
      exact ⟨hd', hr'.mono hd' (.refl _) (fun _ _ h => h) hsame (fun hcq => setRow_other _ _ _ _ (hother q y g' h hgy hcq (fun e => hne e.1)))⟩
  · have key : ∀ q y g', look (setRow r (updAt fam f i k cs) m) q = some y → (y g').g ≠ some false → ∃ y', look m q = some y' ∧ (y' g').g ≠ some false := fun q y g' hy hgy => by
      rcases hlook q y hy with ⟨e, e2⟩ | ⟨_, h⟩
      · subst e e2; rw [hgg] at hgy; exact ⟨fam, hl, hgy⟩
      · exact ⟨y, h, hgy⟩
    obtain ⟨z, hz, hgz⟩ := key q y g' hy hgy
    obtain ⟨z', hz', hgz'⟩ := key q' y' g'' hy' hgy'
    exact hR.sep q z g' q' z' g'' hz hz' hgz hgz' hcq hcq' he

/-- A row's content counts up to its length alone. -/
theorem Rel.alike {r : Nat} {x y : Fam} (h : Rel w0 ρ (setRow r x m) D w) (ha : ∀ f, (y f).n = (x f).n ∧ (y f).sz = (x f).sz ∧ (y f).ty = (x f).ty ∧ (y f).g = (x f).g ∧ ∀ i, i < (x f).n → (y f).get i = (x f).get i) : Rel w0 ρ (setRow r y m) D w := by
  have key : ∀ q z, look (setRow r y m) q = some z → ∃ z', look (setRow r x m) q = some z' ∧ ∀ f, (z f).n = (z' f).n ∧ (z f).sz = (z' f).sz ∧ (z f).ty = (z' f).ty ∧ (z f).g = (z' f).g ∧ ∀ i, i < (z' f).n → (z f).get i = (z' f).get i := fun q z hz => by
    rw [look_set] at hz ⊢
    by_cases e : r = q
    · subst e
      cases hl : look m r with
      | none => simp [hl] at hz
      | some o => simp [hl] at hz; subst hz; exact ⟨x, by simp, ha⟩
    · simp [e] at hz ⊢
      exact ⟨z, hz, fun f => ⟨rfl, rfl, rfl, rfl, fun _ _ => rfl⟩⟩
  refine ⟨h.below, h.imm2, h.dom, fun q z hz => ?_, fun q z f hz hg => ?_, fun q z f q' z' f' hz hz' hg hg' => ?_, h.fix, h.kept⟩
  · obtain ⟨z', h1, _⟩ := key q z hz
    exact h.key q z' h1
  · obtain ⟨z', h1, h2⟩ := key q z hz
    obtain ⟨a1, a2, a3, a4, a5⟩ := h2 f
    obtain ⟨b1, b2⟩ := h.row q z' f h1 (by rw [← a4]; exact hg)
    refine ⟨b1, ⟨by rw [a1]; exact b2.n_le, fun hc => ?_, fun i hi => ?_, fun i k c v hi => ?_⟩⟩
    · rw [a2, a3]; exact b2.blk hc
    · rw [a1] at hi; rw [a5 i hi, a2]; exact b2.len i hi
    · rw [a1] at hi; rw [a5 i hi, a2]; exact b2.rel i k c v hi
  · obtain ⟨y1, h1, h2⟩ := key q z hz
    obtain ⟨y2, h3, h4⟩ := key q' z' hz'
    exact h.sep q y1 f q' y2 f' h1 h3 (by rw [← (h2 f).2.2.2.1]; exact hg) (by rw [← (h4 f').2.2.2.1]; exact hg')

theorem storeVar_row {t : TypeId} {b o : Nat} {n : Nat} {ag : Bool} {v : Value} {c : Array Value} {ty : TypeId} (hlay : layT P t = some (ag, n)) (hv : v.cells.size = n) (hc : w.heap[b]? = some (.cells c ty (0, 0))) (hfit : o + n ≤ c.size) (h1 : ∀ x ∈ v.cells.toList, x.oneCell' = true) :
    (storeVar t ⟨b, o, none⟩ v).run P w = .ok () (w.setRow b (c.toList.take o ++ v.cells.toList ++ c.toList.drop (o + v.cells.toList.length)).toArray) := by
  have h2 := (layT_run (P := P) (w := w) hlay).2
  have hst := run_storeCells_at P b o ty v.cells.toList 0 c w hc (by simp; omega) h1
  simp only [storeVar, Sem.run_bind, h2, Result.andThen_ok, hv, ne_eq, not_true_eq_false, if_false, Nat.add_zero] at hst ⊢
  exact hst

theorem aStore_sound (hR : Rel w0 ρ m D w) {m' : Mem} (hm : ∀ r x, look m' r = some x → look m r = some x) {t : TypeId} {p x : AV} {e : Eff} {pv xv : Value} (h : aStore P t p x m' = some e) (hob : ∀ q ∈ e.ob, q) (hp : R w ρ p pv) (hx : R w ρ x xv) :
    ∃ w', (Instr.storeAt t pv xv).run P w = .ok () w' ∧ Post w0 ρ m D key e w undef w' := by
  unfold aStore at h
  split at h
  · rename_i cs hcs
    obtain ⟨hs, h1⟩ := cellsOf_sound hx hcs
    split at h
    · rename_i hlay
      obtain ⟨⟨ag, n⟩, hlay, hn⟩ := Option.map_eq_some_iff.1 hlay
      simp only at hn
      have hsz : xv.cells.size = n := by have := hs.1; rw [hn]; simpa using this
      have finish : ∀ (r f i sz k : Nat) (fam : Fam), look m r = some fam → (fam f).g ≠ some false → i < (fam f).n → sz = (fam f).sz → k + cs.length ≤ sz →
          ∃ w', (storeVar t ⟨ρ.blk r f, i * sz + k, none⟩ xv).run P w = .ok () w' ∧ Rel w0 ρ (setRow r (updAt fam f i k cs) m) D w' ∧ Same ρ.imm w w' := by
        intro r f i sz k fam hl hg hi hsz' hk
        subst hsz'
        obtain ⟨hd, hr⟩ := hR.row r fam f hl hg
        have hcap : 0 < ρ.cap r f := by have := hr.n_le; omega
        obtain ⟨b1, b2, c, b3, b4⟩ := hr.blk hcap
        have hfit : i * (fam f).sz + k + n ≤ c.size := by
          rw [b4]
          have h1 : (i + 1) * (fam f).sz ≤ ρ.cap r f * (fam f).sz := Nat.mul_le_mul_right _ (by have := hr.n_le; omega)
          rw [Nat.add_mul] at h1
          omega
        obtain ⟨k1, k2⟩ := hR.set hl hg hi hk hs b3
        exact ⟨_, storeVar_row hlay hsz b3 hfit h1, k1, k2⟩
      have wrap : ∀ w' r y ob, Rel w0 ρ (setRow r y m) D w' → Same ρ.imm w w' → Post w0 ρ m D key ⟨ob, .v undef, .set r y⟩ w undef w' := fun w' r y ob h1 h2 =>
        ⟨ρ, .v, h1.sub (fun _ _ h => h) (fun _ h => .inl h), .refl _, h2⟩
      split at h
      · rename_i r k
        split at h
        · rename_i fam hl
          split at h
          · rename_i hn1
            split at h
            · rename_i hk
              cases h
              obtain ⟨w', a1, a2, a3⟩ := finish r 0 0 (fam 0).sz k fam (hm _ _ hl) (gOb_true hob) (by omega) rfl hk
              cases hp with
              | bx _ =>
                simp only [Nat.zero_mul, Nat.zero_add] at a1
                refine ⟨w', by simp [Instr.storeAt, Instr.sureAddr, a1], wrap _ _ _ _ (a2.alike fun f => ?_) a3⟩
                unfold set1 updAt
                by_cases e : f = 0
                · subst e
                  refine ⟨rfl, rfl, rfl, rfl, fun i hi => ?_⟩
                  have hi : i < (fam 0).n := hi
                  have : i = 0 := by omega
                  subst this
                  rfl
                · rw [if_neg e, if_neg e]
                  exact ⟨rfl, rfl, rfl, rfl, fun _ _ => rfl⟩
            · cases h
          · cases h
        · cases h
      · rename_i r f i sz k
        split at h
        · rename_i fam hl
          split at h
          · rename_i hk
            cases h
            obtain ⟨w', a1, a2, a3⟩ := finish r f i sz k fam (hm _ _ hl) (gOb_true fun q hq => hob q (by simp [hq])) (hob _ (by simp)) (hob _ (by simp)) hk
            cases hp with
            | ptr _ => exact ⟨w', by simp [Instr.storeAt, Instr.sureAddr, a1], wrap _ _ _ _ a2 a3⟩
          · cases h
        · cases h
      · cases h
    · cases h
  · cases h

/-! ### Addresses -/

theorem fOff_run {s : TypeId} {f off : Nat} (h : fOff P s f = some off) : ∃ (fs : Array Field) (fd : Field) (n : Nat), P.underlying s = some (.struct fs) ∧ fs[f]? = some fd ∧ fd.offset = off ∧ n ≠ 0 ∧ sizeT P fd.type = n ∧ (sizeOf fd.type).run P w = .ok n w := by
  unfold fOff at h
  split at h
  · rename_i fs hu
    split at h
    · rename_i fd hfd
      split at h
      · cases h
      · rename_i hn
        cases h
        refine ⟨fs, fd, _, hu, hfd, rfl, hn, rfl, ?_⟩
        unfold sizeT at hn ⊢
        split
        · rename_i i hi
          simp [sizeOf, typeInfo, hi]
        · rename_i hi
          simp [hi] at hn
    · cases h
  · cases h

theorem aFieldAddr_sound {s : TypeId} {f : Nat} {p a : AV} {v : Value} (h : aFieldAddr P s f p = some a) (hp : R w ρ p v) : ∃ x, (Instr.fieldAt s v f).run P w = .ok x w ∧ R w ρ a x := by
  unfold aFieldAddr at h
  split at h
  · rename_i off hoff
    obtain ⟨fs, fd, n, hu, hfd, rfl, hn, _, hsz⟩ := fOff_run (w := w) hoff
    have run : ∀ b o, (Instr.fieldAt s (.pointer (some ⟨b, o, none⟩)) f).run P w = .ok (.pointer (some ⟨b, o + fd.offset, none⟩)) w := fun b o => by
      simp [Instr.fieldAt, run_underlying hu, hfd, Instr.sureAddr, fieldPlace, hsz, hn, add_eq]
    split at h
    · cases h; cases hp with
      | bx hd => exact ⟨_, run _ _, .bx hd⟩
    · cases h; cases hp with
      | ptr hd => exact ⟨_, run _ _, by rw [Nat.add_assoc]; exact .ptr hd⟩
    · rename_i cs
      cases h; cases hp with
      | rop b o hi hex hr =>
        refine ⟨_, run _ _, .rop _ _ hi (fun k hk => ?_) (fun k c x h1 h2 => ?_)⟩
        · simp at hk
          obtain ⟨y, hy⟩ := hex (fd.offset + k) (by omega)
          exact ⟨y, by rw [Nat.add_assoc]; exact hy⟩
        · exact hr (fd.offset + k) c x (list_drop_get h1) (by rw [Nat.add_assoc] at h2; exact h2)
    · cases h
  · cases h

theorem sElem_run {t e : TypeId} (h : sElem P t = some e) : P.underlying t = some (.slice e) := by
  unfold sElem at h; split at h <;> simp_all
theorem aElem_run {t e : TypeId} {n : Nat} (h : aElem P t = some (n, e)) : P.underlying t = some (.array n e) := by
  unfold aElem at h; split at h <;> simp_all
/-- How many cells a type's value has, as the model looks it up. -/
theorem sizeT_info {e : TypeId} (hi : (P.info? e).isSome = true) : (sizeOf e).run P w = .ok (sizeT P e) w := by
  obtain ⟨i, hi⟩ := Option.isSome_iff_exists.1 hi
  simp [sizeOf, typeInfo, sizeT, hi]

theorem run_indexAt_slice {t e : TypeId} (hu : P.underlying t = some (.slice e)) (hi : (P.info? e).isSome = true) {b o len cap : Nat} {k : IntKind} {n : Int} (h0 : 0 ≤ n) (h1 : n < (len : Int)) {a : Option Addr} (ha : 0 < len → a = some ⟨b, o, none⟩) :
    (Instr.indexAt t (.slice a len cap) (.int k n)).run P w = .ok (.pointer (some ⟨b, o + n.toNat * sizeT P e, none⟩)) w := by
  rw [ha (by omega)]
  simp [Instr.indexAt, asIntOf, run_underlying hu, h0, h1, sizeT_info hi, add_eq]

theorem run_indexAt_array {t e : TypeId} {len : Nat} (hu : P.underlying t = some (.array len e)) (hi : (P.info? e).isSome = true) {b o : Nat} {k : IntKind} {n : Int} (h0 : 0 ≤ n) (h1 : n < (len : Int)) :
    (Instr.indexAt t (.pointer (some ⟨b, o, none⟩)) (.int k n)).run P w = .ok (.pointer (some ⟨b, o + n.toNat * sizeT P e, none⟩)) w := by
  simp [Instr.indexAt, asIntOf, run_underlying hu, Instr.sureAddr, h0, h1, sizeT_info hi, add_eq]

theorem aIndexAddr_sound {t : TypeId} {x i a : AV} {ob : List Prop} {xv iv : Value} (h : aIndexAddr P t x i = some (ob, a)) (hob : ∀ q ∈ ob, q) (hx : R w ρ x xv) (hi : R w ρ i iv) : ∃ y, (Instr.indexAt t xv iv).run P w = .ok y w ∧ R w ρ a y := by
  unfold aIndexAddr at h
  split at h
  · rename_i n hn
    obtain ⟨k, rfl⟩ := intOfA_sound hi hn
    split at h
    · rename_i len sz get
      split at h
      · rename_i e he
        split at h
        · rename_i hsz
          cases h
          have h0 : 0 ≤ n := hob _ (by simp)
          have h1 : n < (len : Int) := hob _ (by simp)
          cases hx with
          | ro b o hn ha himm hlen hex hr =>
            refine ⟨_, run_indexAt_slice (sElem_run he) hsz.1 h0 h1 ha, .rop _ _ (himm (by omega)) (fun k hk => ?_) (fun k c x h2 h3 => ?_)⟩
            · rw [hlen _ (by omega)] at hk
              obtain ⟨y, hy⟩ := hex n.toNat k (by omega) hk
              exact ⟨y, by rw [hsz.2]; exact hy⟩
            · rw [hsz.2] at h3
              exact hr _ k c x (by omega) h2 h3
        · cases h
      · cases h
    · rename_i r f len sz
      split at h
      · rename_i e he
        split at h
        · rename_i hsz
          cases h
          have h0 : 0 ≤ n := hob _ (by simp)
          have h1 : n < (len : Int) := hob _ (by simp)
          cases hx with
          | own hd hn ha =>
            have := run_indexAt_slice (w := w) (cap := ρ.cap r f) (k := k) (sElem_run he) hsz.1 h0 h1 (fun hl => ha (by omega))
            refine ⟨_, this, ?_⟩
            rw [hsz.2, show 0 + n.toNat * sz = n.toNat * sz + 0 by omega]
            exact .ptr hd
        · cases h
      · cases h
    · rename_i r f lo len sz
      split at h
      · rename_i e he
        split at h
        · rename_i hsz
          cases h
          have h0 : 0 ≤ n := hob _ (by simp)
          have h1 : n < (len : Int) := hob _ (by simp)
          cases hx with
          | vw hd hn ha =>
            refine ⟨_, run_indexAt_slice (sElem_run he) hsz.1 h0 h1 ha, ?_⟩
            rw [hsz.2, show lo * sz + n.toNat * sz = (lo + n.toNat) * sz + 0 by rw [Nat.add_mul]; omega]
            exact .ptr hd
        · cases h
      · cases h
    · rename_i r k
      split at h
      · rename_i len e he
        split at h
        · rename_i hsz
          cases h
          have h0 : 0 ≤ n := hob _ (by simp)
          have h1 : n < (len : Int) := hob _ (by simp)
          cases hx with
          | bx hd => exact ⟨_, run_indexAt_array (aElem_run he) hsz h0 h1, .bx hd⟩
        · cases h
      · cases h
    · rename_i r f j sz k
      split at h
      · rename_i len e he
        split at h
        · rename_i hsz
          cases h
          have h0 : 0 ≤ n := hob _ (by simp)
          have h1 : n < (len : Int) := hob _ (by simp)
          cases hx with
          | ptr hd =>
            refine ⟨_, run_indexAt_array (aElem_run he) hsz h0 h1, ?_⟩
            rw [Nat.add_assoc]
            exact .ptr hd
        · cases h
      · cases h
    · rename_i cs
      split at h
      · rename_i len e he
        split at h
        · rename_i hsz
          cases h
          have h0 : 0 ≤ n := hob _ (by simp)
          have h1 : n < (len : Int) := hob _ (by simp)
          cases hx with
          | rop b o himm hex hr =>
            refine ⟨_, run_indexAt_array (aElem_run he) hsz h0 h1, .rop _ _ himm (fun k hk => ?_) (fun k c x h2 h3 => ?_)⟩
            · simp at hk
              obtain ⟨y, hy⟩ := hex (n.toNat * sizeT P e + k) (by omega)
              exact ⟨y, by rw [Nat.add_assoc]; exact hy⟩
            · exact hr _ c x (list_drop_get h2) (by rw [Nat.add_assoc] at h3; exact h3)
        · cases h
      · cases h
    · cases h
  · cases h

end
end Go.Ax
