/-
  slices.SortFunc, by the shelf.
-/
import Derived.Test.YtfpgjkeelegdpaaGreatCM6
import Derived.Shelf.SlSortCmp.NoneTotal
import Derived.Ground.SlsfProg
import Derived.ShutString
import Derived.ChangeOld
import Derived.Below
section
set_option linter.unusedVariables false
set_option linter.unusedSimpArgs false
set_option maxHeartbeats 4000000
set_option maxRecDepth 100000
namespace Go.Proofs
open Go.Shelf Go.RowKit Go.Lib Go.Sort
end Go.Proofs
namespace Go.Ax
open Go.Proofs Go.RowKit
theorem below_grow {W w' : World} (h : Go.RowKit.Below W.heap.size W w') (hd : W.drawn ≤ w'.drawn) : ∃ q os', w' = Go.Sort.grow (W.drewN q) os' := by
  refine ⟨w'.drawn - W.drawn, w'.heap.extract W.heap.size w'.heap.size, ?_⟩
  have h1 : w'.heap = W.heap ++ w'.heap.extract W.heap.size w'.heap.size := by
    apply Array.ext_getElem?
    intro k
    have hs := h.size
    by_cases hk : k < W.heap.size
    · rw [Array.getElem?_append_left hk, h.block k hk]
    · rw [Array.getElem?_append_right (by omega), Array.getElem?_extract]
      by_cases hk2 : k < w'.heap.size
      · rw [if_pos (by omega)]
        congr 1
        omega
      · rw [Array.getElem?_eq_none (by omega)]
        split
        · omega
        · rfl
  have h2 : w'.tape = W.tape := h.tape
  have h3 : w'.os = W.os := h.os
  have h4 : w'.output = W.output := h.output
  cases w' with
  | mk hp tp dr os out =>
    simp only at h1 h2 h3 h4 hd
    subst h2 h3 h4
    unfold Go.Sort.grow World.drewN
    dsimp only
    rw [← h1]
    congr 1
    omega
theorem putRow_set {α : Type} [Inhabited α] {enc : α → Value} {w : World} {blk : Nat} {d : Array α} {c : Array Value} {ty : TypeId} (h : w.heap[blk]? = some (.cells c ty (0, 0))) : Go.Sort.putRow enc w blk 0 d = w.setRow blk (Go.Sort.putCells enc 0 d c) := by
  unfold Go.Sort.putRow
  rw [Go.Sort.mapBlock_congr w blk _ (fun _ => Go.Sort.putCells enc 0 d c) (fun c' e fr h' => by rw [h] at h'; cases h'; rfl)]
  unfold Go.Sort.mapBlock World.setRow Go.Sort.onCells
  rfl
/-- The world behind a sort. -/
theorem sort_post {α : Type} [Inhabited α] {enc : α → Value} {d : Array α} {w0 : Base} {ρ : Env} {D : Nat → Prop} {w : World} {r key N sz n : Nat} {ty : TypeId} {get get' : Nat → List AV} {os : Array Go.Obj} {c : Array Value} {ob : List Prop}
    (hR : Rel w0 ρ [(r, famN N sz ty get none)] D w) (hN : 0 < N) (hc : w.heap[ρ.blk r 0]? = some (.cells c ty (0, 0))) (hd : d.size = N * sz) (hlen : ∀ i, i < N → (get' i).length = sz)
    (hget : ∀ i k a, i < N → k < sz → (get' i)[k]? = some a → ∃ v, enc d[i * sz + k]! = v ∧ a = .v v) :
    Post w0 ρ [(r, famN N sz ty get none)] D key ⟨ob, .tup [], .many [(r, famN N sz ty get' none)] none⟩ w (.tuple #[]) (Go.Sort.grow (Go.Sort.putRow enc (Go.Sort.ahead w n) (ρ.blk r 0) 0 d) os) := by
  have hl : look [(r, famN N sz ty get none)] r = some (famN N sz ty get none) := by simp [look]
  have hb1 : Go.RowKit.Below w.heap.size w (Go.Sort.ahead w n) := ⟨rfl, rfl, rfl, Nat.le_refl _, fun _ _ => rfl⟩
  have hR1 := hR.stay hb1
  obtain ⟨hd0, hrow⟩ := hR.row r _ 0 hl (by simp [famN])
  have hNle : N ≤ ρ.cap r 0 := hrow.n_le
  have hcs : c.size = ρ.cap r 0 * sz := by
    obtain ⟨_, _, cc, h1, h2⟩ := hrow.cells hN
    rw [hc] at h1
    cases h1
    exact h2
  have hc1 : (Go.Sort.ahead w n).heap[ρ.blk r 0]? = some (.cells c ty (0, 0)) := hc
  have hle : N * sz ≤ c.size := by rw [hcs]; exact Nat.mul_le_mul_right _ hNle
  obtain ⟨k1, k2⟩ := Rel.put hR1 hl (by simp [famN]) (c := c) (c' := Go.Sort.putCells enc 0 d c) (ty := ty) (by omega) hc1 (by simp [Go.Sort.putCells]) (x := ⟨N, sz, ty, get', none⟩) rfl rfl rfl hNle hlen (fun i k a v hi h1 h2 => by
    have hi : i < N := hi
    have hk : k < sz := by
      have := (List.getElem?_eq_some_iff.1 h1).1
      rw [hlen i hi] at this
      exact this
    obtain ⟨v', h3, rfl⟩ := hget i k a hi hk h1
    have hlt : i * sz + k < N * sz := by
      have := Nat.mul_le_mul_right sz (show i + 1 ≤ N by omega)
      rw [Nat.add_mul] at this
      omega
    have h2 : (Go.Sort.putCells enc 0 d c)[i * sz + k]? = some v := h2
    unfold Go.Sort.putCells at h2
    rw [Array.getElem?_mapIdx, Array.getElem?_eq_getElem (by omega)] at h2
    simp only [Option.map_some, Nat.zero_le, Nat.zero_add, true_and, Nat.sub_zero, Option.some.injEq] at h2
    rw [if_pos (by omega), h3] at h2
    subst h2
    exact .v)
  rw [putRow_set hc1]
  have hb2 : Go.RowKit.Below ((Go.Sort.ahead w n).setRow (ρ.blk r 0) (Go.Sort.putCells enc 0 d c)).heap.size ((Go.Sort.ahead w n).setRow (ρ.blk r 0) (Go.Sort.putCells enc 0 d c)) (Go.Sort.grow ((Go.Sort.ahead w n).setRow (ρ.blk r 0) (Go.Sort.putCells enc 0 d c)) os) :=
    ⟨rfl, rfl, rfl, by simp [Go.Sort.grow], fun k hk => by simp [Go.Sort.grow, Array.getElem?_append_left hk]⟩
  have k3 := k1.stay hb2
  have efam : (fun f => if f = 0 then (⟨N, sz, ty, get', none⟩ : Row) else famN N sz ty get none f) = famN N sz ty get' none := by
    funext f
    by_cases hf : f = 0 <;> simp [famN, hf]
  rw [efam] at k3
  refine ⟨ρ, .tup rfl (fun i a x h => by simp at h), k3.sub (fun _ _ h => h) (fun _ h => .inl h), .refl _, fun b hb => ?_⟩
  have h4 := k2 b hb
  have hlt : b < ((Go.Sort.ahead w n).setRow (ρ.blk r 0) (Go.Sort.putCells enc 0 d c)).heap.size := by
    have := (hR.imm2 b hb).1
    simpa [World.setRow, Go.Sort.ahead] using this
  rw [hb2.block b hlt, h4]
  rfl
/-- A comparator's contract, for the shelf. -/
theorem cmp_calls {P : Program} {g : FuncId} {c : Con} {aas cs' : List AV} {xs : List Value} {cb : Array Value} {z : Int} {ob : List Prop} {J : Nat → Prop} {W : World} (hcon : ConOK P g c) (hc : c (aas ++ cs') = some (ob, i64 z)) (hob : ∀ p ∈ ob, p) (eg : ∀ args w, (callFunc g args).run P w = .ok (.enter g args) w)
    (hJ : ∀ b, J b → b < W.heap.size) (hxs : Rs W (.ext J) aas xs) (hcb : Rs W (.ext J) cs' cb.toList) : Calls P g (xs.toArray ++ cb) W fun e w' => e = .returned (.int .i64 z) ∧ ∃ q os', w' = Go.Sort.grow (W.drewN q) os' := by
  have hrs : Rs W (.ext J) (aas ++ cs') (xs ++ cb.toList) := by
    refine ⟨by rw [List.length_append, List.length_append, hxs.1, hcb.1], fun i a x h1 h2 => ?_⟩
    by_cases hi : i < aas.length
    · rw [List.getElem?_append_left hi] at h1
      rw [List.getElem?_append_left (by rw [hxs.1]; exact hi)] at h2
      exact hxs.2 i a x h1 h2
    · rw [List.getElem?_append_right (by omega)] at h1
      rw [List.getElem?_append_right (by rw [hxs.1]; omega), hxs.1] at h2
      exact hcb.2 _ a x h1 h2
  have harr : (xs ++ cb.toList).toArray = xs.toArray ++ cb := by simp
  have hinv := hcon _ _ _ hc hob J W _ hJ hrs
  rw [Invokes, harr] at hinv
  rcases hinv with ⟨v, w', h1, _⟩ | ⟨_, h2⟩
  · rw [eg] at h1
    cases h1
  · have h3 : Calls P g (xs.toArray ++ cb) W fun e w' => ((∃ v, e = .returned v ∧ R w' (.ext (New J W w')) (i64 z) v ∧ Go.RowKit.Below W.heap.size W w')) ∧ e ≠ .outgrown := h2.mono fun e w' ⟨v, he, hh⟩ => ⟨⟨v, he, hh⟩, by rw [he]; exact fun h => by cases h⟩
    refine (Mono.calls_mono h3).mono fun e w' ⟨⟨v, he, hv, hb⟩, hd⟩ => ?_
    have hv : v = .int .i64 z := by cases hv; rfl
    exact ⟨by rw [he, hv], below_grow hb hd⟩
theorem sw_same {α : Type} [Inhabited α] {enc : α → Value} {w : World} {blk m : Nat} {dk : Array α} {os : Array Go.Obj} {J : Nat → Prop} (hJ : ∀ b, J b → b < w.heap.size ∧ b ≠ blk) : Same J w (Go.Sort.grow (Go.Sort.putRow enc (Go.Sort.ahead w m) blk 0 dk) os) ∧ ∀ b, J b → b < (Go.Sort.grow (Go.Sort.putRow enc (Go.Sort.ahead w m) blk 0 dk) os).heap.size := by
  have hsz : (Go.Sort.putRow enc (Go.Sort.ahead w m) blk 0 dk).heap.size = w.heap.size := by simp [Go.Sort.putRow, Go.Sort.mapBlock, Go.Sort.ahead]
  refine ⟨fun b hb => ?_, fun b hb => ?_⟩
  · obtain ⟨h1, h2⟩ := hJ b hb
    show ((Go.Sort.putRow enc (Go.Sort.ahead w m) blk 0 dk).heap ++ os)[b]? = _
    rw [Array.getElem?_append_left (by omega)]
    unfold Go.Sort.putRow Go.Sort.mapBlock
    show ((Go.Sort.ahead w m).heap.modify blk _)[b]? = _
    rw [Array.getElem?_modify, if_neg (Ne.symm h2)]
    rfl
  · show b < ((Go.Sort.putRow enc (Go.Sort.ahead w m) blk 0 dk).heap ++ os).size
    rw [Array.size_append]
    have := (hJ b hb).1
    omega
/-- The order of ids by the left ends of their boxes. -/
def cfL (L : Ents) (a b : Int) : Int := if cmpS (selAt (memSel L a) 0) (selAt (memSel L b) 0) ≠ 0 then cmpS (selAt (memSel L a) 0) (selAt (memSel L b) 0) else cmpS a b
theorem cmpS_lt {x y : Int} : cmpS x y < 0 ↔ x < y := by
  unfold cmpS
  by_cases h : x < y
  · rw [if_pos h]; omega
  · rw [if_neg h]; split <;> omega
theorem cmpS_ne {x y : Int} : cmpS x y ≠ 0 ↔ x ≠ y := by
  unfold cmpS
  by_cases h : x < y
  · rw [if_pos h]; omega
  · rw [if_neg h]; split <;> omega
theorem cfL_lt {L : Ents} {a b : Int} : Go.Proofs.ltOf (cfL L) a b = decide (selAt (memSel L a) 0 < selAt (memSel L b) 0 ∨ selAt (memSel L a) 0 = selAt (memSel L b) 0 ∧ a < b) := by
  unfold Go.Proofs.ltOf cfL
  rw [decide_eq_decide]
  by_cases h : selAt (memSel L a) 0 = selAt (memSel L b) 0
  · rw [if_neg (by rw [cmpS_ne]; simpa using h), cmpS_lt]; omega
  · rw [if_pos (cmpS_ne.2 h), cmpS_lt]; omega
theorem cfL_swo {L : Ents} : Go.Sort.SWO (Go.Proofs.ltOf (cfL L)) where
  irrefl x := by rw [cfL_lt]; simp
  trans x y z h1 h2 := by rw [cfL_lt] at *; simp at *; omega
  ntrans x y z h1 h2 := by rw [cfL_lt] at *; simp at *; omega
theorem cfL_tot {L : Ents} {x y : Int} (h1 : Go.Proofs.ltOf (cfL L) x y = false) (h2 : Go.Proofs.ltOf (cfL L) y x = false) : x = y := by
  rw [cfL_lt] at *; simp at *; omega
def srtX (L : Ents) (l : List Int) : List Int := l.mergeSort fun x y => !Go.Proofs.ltOf (cfL L) y x
def lX (N : Nat) (X : Nat → Int) : List Int := (List.range N).map X
def F65 : SRF := fun N get rest => match rest with
  | [.fn 66 [.rop [.rop [.rm 4 L]]]] => some ([N ≤ 1000], fun _ => .tup [], N, fun j => [i64 ((srtX L (lX N (gx get 0))).getD j 0)])
  | _ => none
theorem sem65 : SRSem Tryz.prog 65 1 3 canI F65 := by
  intro N get rest ob v N' get' hF hob w0 ρ D w key r vs hR hk hDr k1 k2 hlen
  unfold F65 at hF
  split at hF
  · rename_i L
    cases hF
    have hN : N ≤ 1000 := hob _ (by simp)
    match vs, hlen, k1, k2 with
    | [y, f], _, k1, k2 =>
      obtain ⟨y', ys, e, hy, _⟩ := k1.inv
      cases e
      obtain ⟨f', fs, e, hf, _⟩ := k2.inv
      cases e
      have hl : look [(r, famN N 1 3 (canI get) none)] r = some (famN N 1 3 (canI get) none) := by simp [look]
      obtain ⟨X, hX⟩ : ∃ X : Nat → Int, X = gx get 0 := ⟨_, rfl⟩
      have hcan : canI get = fun i => [i64 (X i)] := by rw [hX]; rfl
      have hgx : gx (canI get) 0 = X := hX.symm
      rw [hgx]
      cases hf with
      | @fn _ _ _ cbl hcl hcv =>
        have hcb : Rs w (.ext ρ.imm) [.rop [.rop [.rm 4 L]]] cbl := ⟨hcl, hcv⟩
        cases hy with
        | @own _ _ _ _ _ ad hd hn ha =>
          refine .inr ⟨enters_of Tryz.func65 (by kernel_rfl) rfl _ _, ?_⟩
          obtain ⟨_, hrow⟩ := hR.row r _ 0 hl (by simp [famN])
          by_cases h0 : N = 0
          · subst h0
            have hc := AnyF.slices_SortFunc_none (P := Tryz.prog) (ρ := Tryz.sortF_ren) { Tryz.sortF with } ad (ρ.cap r 0) (.func (.func 66) #[] cbl.toArray) w
            refine hc.mono fun e w' ⟨h1, h2⟩ => ⟨.tuple #[], h1, ?_⟩
            subst h2
            refine ⟨ρ, .tup rfl (fun i a x h => by simp at h), ?_, .refl _, fun _ _ => rfl⟩
            have e1 : ∀ z z', Ax.setRow r z [(r, z')] = [(r, z)] := fun z z' => by simp [Ax.setRow]
            have h3 : Rel w0 ρ (Ax.setRow r (famN 0 1 3 (canI get) none) [(r, famN 0 1 3 (canI get) none)]) D w' := by rw [e1]; exact hR
            have h4 := h3.alike (y := famN 0 1 3 (fun j => [i64 ((srtX L (lX 0 X)).getD j 0)]) none) (fun f => by
              by_cases hf : f = 0
              · subst hf; exact ⟨rfl, rfl, rfl, rfl, fun i hi => by have hi : i < 0 := hi; omega⟩
              · simp [famN, hf])
            exact h4.sub (fun _ _ h => h) (fun _ h => .inl h)
          · have hN0 : 0 < N := by omega
            have hNle : N ≤ ρ.cap r 0 := hrow.n_le
            obtain ⟨b1, b2, c, b3, b4⟩ := hrow.cells hN0
            have b3 : w.heap[ρ.blk r 0]? = some (.cells c 3 (0, 0)) := b3
            have b4 : c.size = ρ.cap r 0 * 1 := b4
            have hblt : ρ.blk r 0 < w.heap.size := (Array.getElem?_eq_some_iff.1 b3).1
            rw [ha (by omega)]
            have hcell : ∀ j, j < N → w.cell? ⟨ρ.blk r 0, 0 + j, none⟩ = some (.int .i64 (X j)) := fun j hj => by
              have hjc : j < c.size := by omega
              have hHas : Has w (ρ.blk r 0) (j * 1 + 0) c[j] := by
                unfold Has World.cell?
                simp [b3, hjc]
              have := hrow.rel j 0 (i64 (X j)) c[j] hj (by show (canI get j)[0]? = _; rw [hcan]; rfl) hHas
              have e2 : c[j] = .int .i64 (X j) := R_vv this
              unfold World.cell?
              simp [b3, hjc, e2]
            have hH : Go.Sort.Holds (Value.int .i64) w (ρ.blk r 0) 0 (lX N X).toArray := fun j hj => by
              have hj : j < N := by simpa [lX] using hj
              have e3 : (lX N X).toArray[j]! = X j := by simp [lX, hj]
              rw [e3]
              refine ⟨hcell j hj, ?_⟩
              unfold World.frozen?
              simp [b3]
            have eg : ∀ args w, (callFunc 66 args).run Tryz.prog w = .ok (.enter 66 args) w := enters_of Tryz.func66 (by kernel_rfl) rfl
            have hJ : ∀ b, ρ.imm b → b < w.heap.size ∧ b ≠ ρ.blk r 0 := fun b hb => ⟨(hR.imm2 b hb).1, fun e => b2 (e ▸ hb)⟩
            have hcmp : CmpLays1 Tryz.prog 66 cbl.toArray (Value.int .i64) (cfL L) (ρ.blk r 0) 0 (lX N X).toArray.size w := fun m os dk hs x y => by
              obtain ⟨s1, s2⟩ := sw_same (enc := Value.int .i64) (m := m) (dk := dk) (os := os) hJ
              exact cmp_calls (xs := [.int .i64 x, .int .i64 y]) (J := ρ.imm) con66 (aas := [i64 x, i64 y]) (cs' := [.rop [.rop [.rm 4 L]]]) (ob := []) rfl (fun p hp => by simp at hp) eg s2 (.cons .v (.cons .v .nil)) (hcb.mono (.refl _) s1)
            have hsz : (lX N X).toArray.size = N := by simp [lX]
            have hc := Any.slices_SortFunc_total Tryz.sortF (Value.int .i64) (fun _ => rfl) (cfL L) cfL_swo 66 cbl.toArray (ρ.blk r 0) 0 (ρ.cap r 0) (lX N X).toArray w eg hcmp hH hblt (by rw [hsz]; omega) (fun x y => cfL_tot)
            rw [hsz] at hc
            refine hc.mono fun e w' hh => ?_
            obtain ⟨h1, n, os, h2⟩ := hh
            refine ⟨.tuple #[], h1, ?_⟩
            rw [h2]
            refine sort_post (sz := 1) hR hN0 b3 (by simp [lX]) (fun i hi => rfl) fun i k a hi hk h3 => ?_
            obtain rfl : k = 0 := by omega
            cases h3
            refine ⟨_, rfl, ?_⟩
            have hlt : i < (srtX L (lX N X)).length := by simp [srtX, lX, hi]
            simp only [Nat.mul_one, Nat.add_zero]
            congr 2
            rw [List.getD_eq_getElem?_getD, List.getElem?_eq_getElem hlt]
            unfold srtX at hlt ⊢
            simp [hlt]
            rw [List.getElem?_eq_getElem hlt]
            rfl
  · cases hF
end Go.Ax
end

section
/-
  slices.SortFunc at pairs, by the shelf.
-/
set_option linter.unusedVariables false
set_option linter.unusedSimpArgs false
set_option maxHeartbeats 4000000
set_option maxRecDepth 100000
namespace Go.Ax
open Go.Proofs Go.RowKit Go.Sort
def cfP (p q : Int × Int) : Int := if cmpS p.1 q.1 ≠ 0 then cmpS p.1 q.1 else cmpS p.2 q.2
theorem cfP_lt {p q : Int × Int} : Go.Proofs.ltOf cfP p q = decide (p.1 < q.1 ∨ p.1 = q.1 ∧ p.2 < q.2) := by
  unfold Go.Proofs.ltOf cfP
  rw [decide_eq_decide]
  by_cases h : p.1 = q.1
  · rw [if_neg (by rw [cmpS_ne]; simpa using h), cmpS_lt]; omega
  · rw [if_pos (cmpS_ne.2 h), cmpS_lt]; omega
theorem cfP_swo : Go.Sort.SWO (Go.Proofs.ltOf cfP) where
  irrefl x := by rw [cfP_lt]; simp
  trans x y z h1 h2 := by rw [cfP_lt] at *; simp at *; omega
  ntrans x y z h1 h2 := by rw [cfP_lt] at *; simp at *; omega
theorem cfP_tot {x y : Int × Int} (h1 : Go.Proofs.ltOf cfP x y = false) (h2 : Go.Proofs.ltOf cfP y x = false) : x = y := by
  rw [cfP_lt] at *
  obtain ⟨a, b⟩ := x
  obtain ⟨c, d⟩ := y
  simp at *
  omega
def srtP (l : List (Int × Int)) : List (Int × Int) := l.mergeSort fun x y => !Go.Proofs.ltOf cfP y x
def lP (N : Nat) (X : Nat → Int × Int) : List (Int × Int) := (List.range N).map X
def canP (g : Nat → List AV) (i : Nat) : List AV := [i64 (gx g 0 i), i64 (gx g 1 i)]
def gxP (g : Nat → List AV) (i : Nat) : Int × Int := (gx g 0 i, gx g 1 i)
def encP (p : Int × Int) : List Value := [.int .i64 p.1, .int .i64 p.2]
def F73 : SRF := fun N get rest => match rest with
  | [.fn 74 []] => some ([N ≤ 100000], fun _ => .tup [], N, fun j => lsF (srtP (lP N (gxP get))) j)
  | _ => none
theorem R_pair (W : World) (J : Nat → Prop) (p : Int × Int) : R W (.ext J) (.agg [i64 p.1, i64 p.2]) (.agg (encP p).toArray) := .agg rfl fun i a x h1 h2 => by
  match i, h1, h2 with
  | 0, h1, h2 => cases h1; cases h2; exact .v
  | 1, h1, h2 => cases h1; cases h2; exact .v
  | i + 2, h1, h2 => simp at h1
theorem sem73 : SRSem Tryz.prog 73 2 95 canP F73 := by
  intro N get rest ob v N' get' hF hob w0 ρ D w key r vs hR hk hDr k1 k2 hlen
  unfold F73 at hF
  split at hF
  · cases hF
    have hN : N ≤ 100000 := hob _ (by simp)
    match vs, hlen, k1, k2 with
    | [y, f], _, k1, k2 =>
      obtain ⟨y', ys, e, hy, _⟩ := k1.inv
      cases e
      obtain ⟨f', fs, e, hf, _⟩ := k2.inv
      cases e
      have hl : look [(r, famN N 2 95 (canP get) none)] r = some (famN N 2 95 (canP get) none) := by simp [look]
      obtain ⟨X, hX⟩ : ∃ X : Nat → Int × Int, X = gxP get := ⟨_, rfl⟩
      have hcan : canP get = fun i => [i64 (X i).1, i64 (X i).2] := by rw [hX]; rfl
      have hgx : gxP (canP get) = X := hX.symm
      rw [hgx]
      cases hf with
      | @fn _ _ _ cbl hcl hcv =>
        have hcb : Rs w (.ext ρ.imm) [] cbl := ⟨hcl, hcv⟩
        cases hy with
        | @own _ _ _ _ _ ad hd hn ha =>
          refine .inr ⟨enters_of Tryz.func73 (by kernel_rfl) rfl _ _, ?_⟩
          obtain ⟨_, hrow⟩ := hR.row r _ 0 hl (by simp [famN])
          by_cases h0 : N = 0
          · subst h0
            have hc := AnyF.slices_SortFunc_none (P := Tryz.prog) (ρ := Tryz.sortP_ren) { Tryz.sortP with } ad (ρ.cap r 0) (.func (.func 74) #[] cbl.toArray) w
            refine hc.mono fun e w' ⟨h1, h2⟩ => ⟨.tuple #[], h1, ?_⟩
            subst h2
            refine ⟨ρ, .tup rfl (fun i a x h => by simp at h), ?_, .refl _, fun _ _ => rfl⟩
            have e1 : ∀ z z', Ax.setRow r z [(r, z')] = [(r, z)] := fun z z' => by simp [Ax.setRow]
            have h3 : Rel w0 ρ (Ax.setRow r (famN 0 2 95 (canP get) none) [(r, famN 0 2 95 (canP get) none)]) D w' := by rw [e1]; exact hR
            have h4 := h3.alike (y := famN 0 2 95 (fun j => lsF (srtP (lP 0 X)) j) none) (fun f => by
              by_cases hf : f = 0
              · subst hf; exact ⟨rfl, rfl, rfl, rfl, fun i hi => by have hi : i < 0 := hi; omega⟩
              · simp [famN, hf])
            exact h4.sub (fun _ _ h => h) (fun _ h => .inl h)
          · have hN0 : 0 < N := by omega
            have hNle : N ≤ ρ.cap r 0 := hrow.n_le
            obtain ⟨b1, b2, c, b3, b4⟩ := hrow.cells hN0
            have b3 : w.heap[ρ.blk r 0]? = some (.cells c 95 (0, 0)) := b3
            have b4 : c.size = ρ.cap r 0 * 2 := b4
            have hblt : ρ.blk r 0 < w.heap.size := (Array.getElem?_eq_some_iff.1 b3).1
            rw [ha (by omega)]
            have hcell : ∀ j q, j < N → q < 2 → w.cell? ⟨ρ.blk r 0, 0 + (j * 2 + q), none⟩ = (encP (X j))[q]? := fun j q hj hq => by
              have hjc : j * 2 + q < c.size := by omega
              have hHas : Has w (ρ.blk r 0) (j * 2 + q) c[j * 2 + q] := by
                unfold Has World.cell?
                simp [b3, hjc]
              have e2 : (encP (X j))[q]? = some c[j * 2 + q] := by
                match q, hq with
                | 0, _ =>
                  have := hrow.rel j 0 (i64 (X j).1) c[j * 2 + 0] hj (by show (canP get j)[0]? = _; rw [hcan]; rfl) hHas
                  rw [R_vv this]; rfl
                | 1, _ =>
                  have := hrow.rel j 1 (i64 (X j).2) c[j * 2 + 1] hj (by show (canP get j)[1]? = _; rw [hcan]; rfl) hHas
                  rw [R_vv this]; rfl
              rw [e2]
              unfold World.cell?
              simp [b3, hjc]
            have hlen2 : ∀ x : Int × Int, (encP x).length = 2 := fun _ => rfl
            have hsz : (lP N X).toArray.size = N := by simp [lP]
            have hH : HoldsK encP 2 w (ρ.blk r 0) 0 (lP N X).toArray := fun t ht => by
              have ht : t < N * 2 := by rw [size_flatK, hsz] at ht; exact ht
              rw [get_flatK _ _ _ _ (by rw [hsz]; exact ht)]
              have hj : t / 2 < N := by omega
              have e3 : (lP N X).toArray[t / 2]! = X (t / 2) := by simp [lP, hj]
              rw [e3]
              refine ⟨?_, by unfold World.frozen?; simp [b3]⟩
              have h5 := hcell (t / 2) (t % 2) hj (by omega)
              rw [show t / 2 * 2 + t % 2 = t by omega] at h5
              rw [h5, List.getElem?_eq_getElem (by rw [hlen2]; omega), getElem!_pos (encP (X (t / 2))) (t % 2) (by rw [hlen2]; omega)]
              rfl
            have eg : ∀ args w, (callFunc 74 args).run Tryz.prog w = .ok (.enter 74 args) w := enters_of Tryz.func74 (by kernel_rfl) rfl
            have hJ : ∀ b, ρ.imm b → b < w.heap.size ∧ b ≠ ρ.blk r 0 := fun b hb => ⟨(hR.imm2 b hb).1, fun e => b2 (e ▸ hb)⟩
            have hcmp : CmpLays Tryz.prog 74 cbl.toArray encP 2 cfP (ρ.blk r 0) 0 (lP N X).toArray.size w := fun m os dk hs x y => by
              obtain ⟨s1, s2⟩ := sw_same (enc := id) (m := m) (dk := flatK encP 2 dk) (os := os) hJ
              exact cmp_calls (xs := [.agg (encP x).toArray, .agg (encP y).toArray]) (J := ρ.imm) con74 (aas := [.agg [i64 x.1, i64 x.2], .agg [i64 y.1, i64 y.2]]) (cs' := []) (ob := []) rfl (fun p hp => by simp at hp) eg s2 (.cons (R_pair _ _ _) (.cons (R_pair _ _ _) .nil)) (hcb.mono (.refl _) s1)
            have hc := AnyQ.slices_SortFunc_total Tryz.sortP 2 (fun w => (layT_run (P := Tryz.prog) (w := w) Tryz.lay95).1) (fun w => (layT_run (P := Tryz.prog) (w := w) Tryz.lay95).2) encP hlen2 (fun x v hv => by simp [encP] at hv; rcases hv with rfl | rfl <;> rfl) cfP cfP_swo 74 cbl.toArray (ρ.blk r 0) 0 (ρ.cap r 0) (lP N X).toArray w eg hcmp hH hblt (by rw [hsz]; omega) (fun x y => cfP_tot)
            rw [hsz] at hc
            refine hc.mono fun e w' hh => ?_
            obtain ⟨h1, n, os, h2⟩ := hh
            refine ⟨.tuple #[], h1, ?_⟩
            rw [h2]
            have hS : (srtP (lP N X)).length = N := by simp [srtP, lP]
            refine sort_post (enc := id) (d := flatK encP 2 (srtP (lP N X)).toArray) (sz := 2) hR hN0 b3 (by rw [size_flatK]; simp [hS]) (fun i hi => rfl) fun i k a hi hk h3 => ?_
            rw [get_flatK _ _ _ _ (by simp [hS]; omega)]
            have e4 : (i * 2 + k) / 2 = i := by omega
            have e5 : (i * 2 + k) % 2 = k := by omega
            rw [e4, e5]
            have e6 : (srtP (lP N X)).toArray[i]! = (srtP (lP N X)).getD i (0, 0) := by
              rw [List.getD_eq_getElem?_getD, List.getElem?_eq_getElem (by omega)]
              simp [hS, hi]
            rw [e6]
            match k, hk with
            | 0, _ => cases h3; exact ⟨_, rfl, rfl⟩
            | 1, _ => cases h3; exact ⟨_, rfl, rfl⟩
  · cases hF
end Go.Ax
end

section
/-
  The sweep's pairs.
-/
set_option linter.unusedVariables false
set_option linter.unusedSimpArgs false
set_option maxHeartbeats 4000000
set_option maxRecDepth 100000
namespace Go.Ax
open Go.Proofs
noncomputable def m65 : MCon := mcSR 1 3 canI F65
theorem mon65 : MConOK Tryz.prog 65 m65 := MConOK.mcSR sem65
noncomputable def m73 : MCon := mcSR 2 95 canP F73
theorem mon73 : MConOK Tryz.prog 73 m73 := MConOK.mcSR sem73
theorem F65_eq {N : Nat} {X : Nat → Int} {L : Ents} : F65 N (fun i => [i64 (X i)]) [.fn 66 [.rop [.rop [.rm 4 L]]]] = some ([N ≤ 1000], fun _ => .tup [], N, fun j => [i64 ((srtX L (lX N X)).getD j 0)]) := (rfl)
theorem lP_ls {l : List (Int × Int)} : lP l.length (gxP (lsF l)) = l := by
  apply List.ext_getElem
  · simp [lP]
  · intro i h1 h2
    simp [lP, gxP, lsF, gx, h2]
    rfl
theorem F73_eq {l : List (Int × Int)} : F73 l.length (lsF l) [.fn 74 []] = some ([l.length ≤ 100000], fun _ => .tup [], l.length, lsF (srtP l)) := by
  show some ([l.length ≤ 100000], _, l.length, fun j => lsF (srtP (lP l.length (gxP (lsF l)))) j) = _
  rw [lP_ls]
theorem canP_ls {l : List (Int × Int)} : canP (lsF l) = lsF l := (rfl)
theorem nro_tup0 {d : Nat} : nro (d + 1) (.tup []) = True := eq_true fun c hc => by cases hc
theorem famNro_ls {n : Nat} {l : List (Int × Int)} {ty : TypeId} {g : Option Bool} : famNro (famN n 2 ty (lsF l) g) = True := eq_true fun f j hj c hc => by
  match f with
  | 0 =>
    have hc : c ∈ lsF l j := hc
    simp only [lsF, List.mem_cons, List.not_mem_nil, or_false] at hc
    rcases hc with rfl | rfl <;> trivial
  | f + 1 => have hj : j < 0 := hj; omega
attribute [go_sem] F65_eq F73_eq canP_ls nro_tup0 famNro_ls
theorem fitRow_N {N M n n' sz : Nat} {ty : TypeId} {σ : Names} {g g' : Nat → List AV} (hn : n = n') (h : ∀ q, q < n → fitL N M σ (g q) (g' q)) (f : Nat) : fitRow N M σ (famN n sz ty g none f) (famN n' sz ty g' none f) := by
  subst hn
  by_cases hf : f = 0
  · subst hf
    exact ⟨rfl, rfl, rfl, rfl, rfl, h⟩
  · unfold famN
    rw [if_neg hf, if_neg hf]
    exact ⟨rfl, rfl, rfl, rfl, rfl, fun i hi => by have hi : i < 0 := hi; omega⟩
theorem fitRow_0 {sz : Nat} {ty : TypeId} {g : Nat → List AV} (f : Nat) : (famN 0 sz ty g none f).n = 0 ∧ (famN 0 sz ty g none f).g = none := by
  unfold famN
  split <;> exact ⟨rfl, rfl⟩
/-- What the sweep from the left has found, and what has not ended. -/
def pwStep (L : Ents) (s : List (Int × Int) × List Int) (id : Int) : List (Int × Int) × List Int :=
  let live := s.2.filter fun k => !decide (selAt (memSel L k) 2 < selAt (memSel L id) 0)
  (s.1 ++ (live.filter fun k => meetsS (selAt (memSel L k) 0) (selAt (memSel L k) 1) (selAt (memSel L k) 2) (selAt (memSel L k) 3) (selAt (memSel L id) 0) (selAt (memSel L id) 1) (selAt (memSel L id) 2) (selAt (memSel L id) 3)).map fun k => (min id k, max id k), live ++ [id])
def pw (L : Ents) (o : List Int) : List (Int × Int) × List Int := o.foldl (pwStep L) ([], [])
def ordL (L : Ents) : List Int := srtX L (srtK L)
def pairsL (L : Ents) : List (Int × Int) := srtP (pw L (ordL L)).1
theorem lX_srt {L : Ents} : lX L.length (fun i => (srtK L).getD i 0) = srtK L := by
  apply List.ext_getElem
  · simp [lX, srtK_len]
  · intro i h1 h2
    simp [lX, h2]
def pwN (L : Ents) (o : List Int) : Nat → List (Int × Int) × List Int
  | 0 => ([], [])
  | i + 1 => pwStep L (pwN L o i) (o.getD i 0)
theorem pwN_take {L : Ents} {o : List Int} : ∀ i, i ≤ o.length → pwN L o i = pw L (o.take i)
  | 0, _ => rfl
  | i + 1, h => by
    unfold pw
    rw [pwN, pwN_take i (by omega), List.take_add_one, List.foldl_append, List.getElem?_eq_getElem (by omega), List.getD_eq_getElem?_getD, List.getElem?_eq_getElem (by omega)]
    rfl
theorem pwN_all {L : Ents} {o : List Int} : pwN L o o.length = pw L o := by rw [pwN_take _ (Nat.le_refl _), List.take_length]
theorem ordL_len {L : Ents} : (ordL L).length = L.length := by simp [ordL, srtX, srtK_len]
theorem live_le {L : Ents} {o : List Int} : ∀ i, (pwN L o i).2.length ≤ i
  | 0 => Nat.le_refl _
  | i + 1 => by
    have h := live_le (L := L) (o := o) i
    unfold pwN pwStep
    simp only [List.length_append, List.length_singleton]
    have := List.length_filter_le (fun k => !decide (selAt (memSel L k) 2 < selAt (memSel L (o.getD i 0)) 0)) (pwN L o i).2
    omega
theorem out_le {L : Ents} {o : List Int} : ∀ i, (pwN L o i).1.length ≤ i * i
  | 0 => Nat.le_refl _
  | i + 1 => by
    have h := out_le (L := L) (o := o) i
    have h2 := live_le (L := L) (o := o) i
    unfold pwN pwStep
    simp only [List.length_append, List.length_map]
    have h3 := List.length_filter_le (fun k => meetsS (selAt (memSel L k) 0) (selAt (memSel L k) 1) (selAt (memSel L k) 2) (selAt (memSel L k) 3) (selAt (memSel L (o.getD i 0)) 0) (selAt (memSel L (o.getD i 0)) 1) (selAt (memSel L (o.getD i 0)) 2) (selAt (memSel L (o.getD i 0)) 3)) ((pwN L o i).2.filter fun k => !decide (selAt (memSel L k) 2 < selAt (memSel L (o.getD i 0)) 0))
    have h4 := List.length_filter_le (fun k => !decide (selAt (memSel L k) 2 < selAt (memSel L (o.getD i 0)) 0)) (pwN L o i).2
    have h5 : (i + 1) * (i + 1) = i * i + i + i + 1 := by rw [Nat.add_mul, Nat.mul_add]; omega
    omega
def mtK (L : Ents) (a b : Int) : Bool := meetsS (selAt (memSel L a) 0) (selAt (memSel L a) 1) (selAt (memSel L a) 2) (selAt (memSel L a) 3) (selAt (memSel L b) 0) (selAt (memSel L b) 1) (selAt (memSel L b) 2) (selAt (memSel L b) 3)
/-- The pairs of one box with the first of some. -/
def inN (L : Ents) (id : Int) (l : List Int) : Nat → List (Int × Int)
  | 0 => []
  | j + 1 => inN L id l j ++ (if mtK L (l.getD j 0) id = true then [(min id (l.getD j 0), max id (l.getD j 0))] else [])
theorem inN_take {L : Ents} {id : Int} {l : List Int} : ∀ j, j ≤ l.length → inN L id l j = ((l.take j).filter fun k => mtK L k id).map fun k => (min id k, max id k)
  | 0, _ => rfl
  | j + 1, h => by
    rw [inN, inN_take j (by omega), List.take_add_one, List.filter_append, List.map_append, List.getElem?_eq_getElem (by omega), List.getD_eq_getElem?_getD, List.getElem?_eq_getElem (by omega)]
    congr 1
    show (if mtK L l[j] id = true then _ else _) = List.map _ (List.filter _ [l[j]])
    by_cases hm : mtK L l[j] id = true
    · rw [if_pos hm]; simp [hm]
    · rw [if_neg hm]; simp [hm]
theorem inN_all {L : Ents} {id : Int} {l : List Int} : inN L id l l.length = (l.filter fun k => mtK L k id).map fun k => (min id k, max id k) := by rw [inN_take _ (Nat.le_refl _), List.take_length]
theorem inN_le {L : Ents} {id : Int} {l : List Int} : ∀ j, (inN L id l j).length ≤ j
  | 0 => Nat.le_refl _
  | j + 1 => by
    have := inN_le (L := L) (id := id) (l := l) j
    simp only [inN, List.length_append]
    split <;> simp <;> omega
/-- Those that have not ended. -/
def stay (L : Ents) (id : Int) (l : List Int) : List Int := l.filter fun k => !decide (selAt (memSel L k) 2 < selAt (memSel L id) 0)
theorem stay_flt {L : Ents} {id : Int} {l : List Int} : flt (fun k => decide (selAt (memSel L k) 2 < selAt (memSel L id) 0)) (fun j => l.getD j 0) l.length = stay L id l := flt_len
theorem pwN_step {L : Ents} {o : List Int} {i : Nat} : pwN L o (i + 1) = ((pwN L o i).1 ++ inN L (o.getD i 0) (stay L (o.getD i 0) (pwN L o i).2) (stay L (o.getD i 0) (pwN L o i).2).length, stay L (o.getD i 0) (pwN L o i).2 ++ [o.getD i 0]) := by
  rw [inN_all]; rfl
noncomputable def F21 : List AV → Option (List Prop × (Nat → AV) × (Nat → Option Fam))
  | [.rop [.rm 4 L]] => some ([selIn L, L.length ≤ 256], fun k => .own k 0 (pairsL L).length 2, fun k => some (famN (pairsL L).length 2 95 (lsF (pairsL L)) none))
  | _ => none
noncomputable def mN21 : MCon := mcKU F21
theorem mN21_eq : mN21 = mcKU F21 := (rfl)
theorem mon21 : MConOK Tryz.prog 21 mN21 := MConOK.mkU (G := [(59, .wr mN59), (66, c66), (65, .wr m65), (71, c71), (70, .wr m70), (72, c72), (73, .wr m73), (74, c74)]) (H := []) (.mcons mon59 (.cons con66 (.mcons mon65 (.cons con71 (.mcons mon70 (.cons con72 (.mcons mon73 (.cons con74 .nil)))))))) Tryz.func21 fun es ob v nw hF hob => by
  unfold F21 at hF
  split at hF
  · rename_i L
    cases hF
    have h1 : selIn L := hob _ (by simp)
    have h2 : L.length ≤ 256 := hob _ (by simp)
    have h3 : L.length ≤ 1000 := by omega
    refine ⟨_, fun w I vs hR => hR, by simp [clean], by kernel_rfl, fun key => bodyM_go (rs := [.tmp 2]) rfl rfl ?_⟩
    simp only [go_sem, c66, m65, c71, m70, c72, m73, c74, m65, m70, h1, h3]
    rw [lX_srt]
    refine ⟨fun _ _ => trivial, ?_⟩
    refine loopN_go (fun (i : Nat) => i ≤ L.length) (fun i => L.length - i) (fun i => [(18, i64 i), (4, .own 13 0 (pwN L (ordL L) i).1.length 2), (5, .own 14 0 (pwN L (ordL L) i).2.length 1)])
      (fun i => [(13, famN (pwN L (ordL L) i).1.length 2 95 (lsF (pwN L (ordL L) i).1) none), (14, famN (pwN L (ordL L) i).2.length 1 3 (fun j => [i64 ((pwN L (ordL L) i).2.getD j 0)]) none)]) [0, 3] [19, 20, 21, 7, 22, 23, 24, 25, 26, 27, 8, 28, 29, 30, 5, 31, 32, 33, 34, 35, 36, 10, 37, 38, 39, 40, 41, 42, 43, 44, 45, 46, 47, 48, 49, 50, 51, 52, 53, 54, 4, 55, 33, 56, 57, 58, 59, 5, 60, 18] 2 0 (by kernel_rfl) (Nat.zero_le _) ⟨[(13, none), (14, none)], ?_, ?_, ?_, ?_⟩ ?_
    · simp only [go_sem, pwN, List.length_nil]
      simp [fit1, asg]
    · simp only [go_sem, pwN, List.length_nil]
      have e13 : asg [(13, none), (14, none)] 13 = none := by simp [asg]
      have e14 : asg [(13, none), (14, none)] 14 = none := by simp [asg]
      simp only [fitRows, e13, e14]
      exact ⟨fitRow_0, fitRow_0, trivial⟩
    · simp only [go_sem]
    · simp [goodNames, asg]
    intro i hi
    have l1 := live_le (L := L) (o := ordL L) i
    have l2 : (pwN L (ordL L) i).2.length ≤ 1000 := by omega
    simp only [go_sem, c66, m65, c71, m70, c72, m73, c74, m70, h1, h3, l2]
    have l3 := out_le (L := L) (o := ordL L) i
    have hst := pwN_step (L := L) (o := ordL L) (i := i)
    refine ⟨fun h => ⟨by omega, h, by omega, fun _ _ => trivial, ?_⟩, fun h => ?_⟩
    · have eo : srtX L (srtK L) = ordL L := rfl
      simp only [eo, stay_flt, flX]
      generalize (ordL L).getD i 0 = id at hst ⊢
      have i1 : ∀ k, inR (selAt (memSel L id) k) := fun k => h1 id k
      have hSV : (stay L id (pwN L (ordL L) i).2).length ≤ (pwN L (ordL L) i).2.length := List.length_filter_le _ _
      generalize hSd : stay L id (pwN L (ordL L) i).2 = S at hst hSV ⊢
      generalize hOd : (pwN L (ordL L) i).1 = O at hst l3 ⊢
      generalize (pwN L (ordL L) i).2 = V at l1 l2 hSV ⊢
      refine loopN_go (fun (j : Nat) => j ≤ S.length) (fun j => S.length - j) (fun j => [(33, i64 j), (4, .own 34 0 (O ++ inN L id S j).length 2)])
        (fun j => [(34, famN (O ++ inN L id S j).length 2 95 (lsF (O ++ inN L id S j)) none)]) [25, 14, 3, 0] [34, 35, 36, 10, 37, 38, 39, 40, 41, 42, 43, 44, 45, 46, 47, 48, 49, 50, 51, 52, 53, 54, 4, 55, 33] 1 0 (by kernel_rfl) (Nat.zero_le _) ⟨[(34, some 13)], ?_, ?_, ?_, ?_⟩ ?_
      · simp only [go_sem, inN, List.append_nil]
      · simp only [go_sem, inN, List.append_nil]
        intro q hq
        exact fitL_clean rfl
      · simp only [go_sem]
      · simp [goodNames, asg]
      intro j hj
      simp only [go_sem, c66, m65, c71, m70, c72, m73, c74, m70, h1, i1, h1 _ _]
      have hb : bytesT Tryz.prog 95 = 16 := by kernel_rfl
      have n1 := inN_le (L := L) (id := id) (l := S) j
      have hii : i * i ≤ 256 * 256 := Nat.mul_le_mul (by omega) (by omega)
      refine ⟨fun hlt => ⟨by omega, hlt, by omega, fun z hz => ⟨fun ht z1 k1 z2 k2 => ⟨?_, ?_, fun z3 k3 => ⟨j + 1, by omega, by omega, [(34, some 56)], ?_⟩⟩, fun hf z1 k1 => ⟨j + 1, by omega, by omega, [(34, some 34)], ?_⟩⟩⟩, fun hge => ?_⟩
      · rw [hb, List.length_append]; omega
      · rw [List.length_append]; omega
      · have e : O ++ inN L id S (j + 1) = (O ++ inN L id S j) ++ [(min id (S.getD j 0), max id (S.getD j 0))] := by
          rw [inN, if_pos (by unfold mtK; rw [← hz]; exact ht), List.append_assoc]
        rw [e, List.length_append, List.length_singleton]
        subst k1 k2
        simp only [go_sem]
        refine ⟨by rw [k3, wrap_in (by unfold inR; omega)]; omega, fun q hq => ?_, by simp [goodNames, asg]⟩
        rw [lsF_push hq]
        exact fitL_clean rfl
      · have e : O ++ inN L id S (j + 1) = O ++ inN L id S j := by
          rw [inN, if_neg (by unfold mtK; rw [← hz, hf]; decide), List.append_nil]
        rw [e]
        simp only [go_sem]
        exact ⟨by rw [k1, wrap_in (by unfold inR; omega)]; omega, fun q hq => fitL_clean rfl, by simp [goodNames, asg]⟩
      · have ej : j = S.length := by omega
        subst ej
        have hb3 : bytesT Tryz.prog 3 = 8 := by kernel_rfl
        refine ⟨hSV, by rw [hb3]; omega, by omega, fun z hz => ⟨i + 1, by omega, by omega, [(13, some 34), (14, some 39)], ⟨?_, ?_, ?_⟩, ?_, ?_⟩⟩
        · rw [hz, wrap_in (by unfold inR; omega)]; omega
        · rw [hst]; simp [fit1, asg]
        · rw [hst]; simp [fit1, asg]
        · rw [hst]
          have e13 : asg [(13, some 34), (14, some 39)] 13 = some 34 := by simp [asg]
          have e14 : asg [(13, some 34), (14, some 39)] 14 = some 39 := by simp [asg]
          simp only [fitRows, e13, e14]
          refine ⟨⟨_, rfl, fitRow_N rfl fun q hq => fitL_clean rfl⟩, ⟨_, rfl, fitRow_N (by simp) fun q hq => ?_⟩, trivial⟩
          have hq : q < S.length + 1 := by simpa using hq
          have e : (if q < S.length then [i64 (S.getD q 0)] else List.take 1 (List.drop ((q - S.length) * 1) [i64 id])) = [i64 ((S ++ [id]).getD q 0)] := by
            split
            · rename_i hlt
              simp [List.getD_eq_getElem?_getD, List.getElem?_append_left hlt]
            · have : q = S.length := by omega
              subst this
              simp
          rw [e]
          exact fitL_clean rfl
        · rw [hst]; simp [goodNames, asg]
    · have e : i = L.length := by omega
      subst e
      have hO : (pwN L (ordL L) L.length).1 = (pw L (ordL L)).1 := by
        have := pwN_all (L := L) (o := ordL L)
        rw [ordL_len] at this
        rw [this]
      have hP : srtP (pwN L (ordL L) L.length).1 = pairsL L := by rw [hO]; rfl
      have hPl : (pairsL L).length = (pwN L (ordL L) L.length).1.length := by rw [← hP]; simp [srtP]
      have hii : L.length * L.length ≤ 256 * 256 := Nat.mul_le_mul (by omega) (by omega)
      rw [hP, hPl]
      exact ⟨fun _ _ => trivial, by omega, newN rfl (Nat.zero_le _) fun q hq => ⟨rfl, fun c hc => by
        simp only [lsF, List.mem_cons, List.not_mem_nil, or_false] at hc
        rcases hc with rfl | rfl <;> rfl⟩⟩
  · cases hF
end Go.Ax
end

section
/-
  What the laws ask of lists.
-/
set_option linter.unusedVariables false
set_option linter.unusedSimpArgs false
set_option maxHeartbeats 4000000
set_option maxRecDepth 100000
namespace Go.Ax
open Go.Proofs
def c25 : Con
  | [.v (.int .i64 a), .v (.int .i64 b), .v (.int .i64 c), .v (.int .i64 d)] => some ([], .agg [i64 a, i64 b, i64 c, i64 d])
  | _ => none
theorem con25 : ConOK Tryz.prog 25 c25 := ConOK.of (G := []) (H := []) .nil Tryz.func25 fun l ob rr hc hob => by
  unfold c25 at hc
  split at hc
  · rename_i a b c d
    cases hc
    refine ⟨by kernel_rfl, fnVC_go (rs := [.cell 8 32]) rfl rfl ?_⟩
    simp only [go_sem]
    skip
  · cases hc
/-- Whole numbers in a slice, or none. -/
def roI : AV → Option (List Prop × Nat × (Nat → Int))
  | .ro n 1 g => some ([ints n g], n, gx g 0)
  | .v (.slice none 0 0) => some ([], 0, fun _ => 0)
  | _ => none
def roP : AV → Option (List Prop × Nat × (Nat → Int × Int))
  | .ro n 2 g => some ([∀ i, i < n → g i = canP g i], n, gxP g)
  | .v (.slice none 0 0) => some ([], 0, fun _ => (0, 0))
  | _ => none
theorem R_nil {w : World} {ρ : Env} {v : Value} {sz : Nat} {f : Nat → List AV} (h : R w ρ (.v (.slice none 0 0)) v) : R w ρ (.ro 0 sz f) v := by
  cases h
  exact .ro 0 0 (Nat.le_refl _) (fun h => absurd h (by omega)) (fun h => absurd h (by omega)) (fun i h => absurd h (by omega)) (fun i k h => absurd h (by omega)) (fun i k c x h => absurd h (by omega))
theorem roI_sound {a : AV} {ob : List Prop} {n : Nat} {X : Nat → Int} {w : World} {ρ : Env} {v : Value} (h : roI a = some (ob, n, X)) (hob : ∀ p ∈ ob, p) (hR : R w ρ a v) : R w ρ (.ro n 1 fun i => [i64 (X i)]) v := by
  unfold roI at h
  split at h
  · rename_i n g
    cases h
    have h1 : ints n g := hob _ (by simp)
    exact ro_alike (fun i hi => h1 i hi) hR
  · cases h; exact R_nil hR
  · cases h
theorem roP_sound {a : AV} {ob : List Prop} {n : Nat} {X : Nat → Int × Int} {w : World} {ρ : Env} {v : Value} (h : roP a = some (ob, n, X)) (hob : ∀ p ∈ ob, p) (hR : R w ρ a v) : R w ρ (.ro n 2 fun i => [i64 (X i).1, i64 (X i).2]) v := by
  unfold roP at h
  split at h
  · rename_i n g
    cases h
    have h1 : ∀ i, i < n → g i = canP g i := hob _ (by simp)
    exact ro_alike (fun i hi => h1 i hi) hR
  · cases h; exact R_nil hR
  · cases h
theorem roI_ro {n : Nat} {g : Nat → List AV} : roI (.ro n 1 g) = some ([ints n g], n, gx g 0) := (rfl)
theorem roI_nil : roI (.v (.slice none 0 0)) = some ([], 0, fun _ => 0) := (rfl)
theorem roP_ro {n : Nat} {g : Nat → List AV} : roP (.ro n 2 g) = some ([∀ i, i < n → g i = canP g i], n, gxP g) := (rfl)
theorem roP_nil : roP (.v (.slice none 0 0)) = some ([], 0, fun _ => (0, 0)) := (rfl)
def c49f : Option (List Prop × Nat × (Nat → Int)) → Option (List Prop × Nat × (Nat → Int)) → Option (List Prop × AV)
  | some (o1, n, X), some (o2, m, Y) => some ((n ≤ 100000) :: (o1 ++ o2), bo (decide (lX n X = lX m Y)))
  | _, _ => none
def c49 : Con
  | [a, b] => c49f (roI a) (roI b)
  | _ => none
theorem lX_eq {n m : Nat} {X Y : Nat → Int} : lX n X = lX m Y ↔ n = m ∧ ∀ i, i < n → X i = Y i := by
  constructor
  · intro h
    have h1 : n = m := by have := congrArg List.length h; simpa [lX] using this
    subst h1
    refine ⟨rfl, fun i hi => ?_⟩
    have := congrArg (fun l => l[i]?) h
    simpa [lX, hi] using this
  · rintro ⟨rfl, h⟩
    unfold lX
    exact List.map_congr_left fun i hi => h i (by simpa using hi)
theorem con49 : ConOK Tryz.prog 49 c49 := ConOK.go (G := []) (H := []) .nil Tryz.func49 fun l ob rr hc hob => by
  unfold c49 at hc
  split at hc
  · rename_i a b
    unfold c49f at hc
    split at hc
    · rename_i o1 n X o2 m Y ha hb
      cases hc
      have hn : n ≤ 100000 := hob _ (by simp)
      refine ⟨[.ro n 1 fun i => [i64 (X i)], .ro m 1 fun i => [i64 (Y i)]], fun w I vs hR => ?_, by kernel_rfl, fnVC_go (rs := [.tmp 4]) rfl rfl ?_⟩
      · obtain ⟨y, ys, rfl, k1, k2⟩ := hR.inv
        obtain ⟨y2, ys2, rfl, k3, k4⟩ := k2.inv
        exact .cons (roI_sound ha (fun p hp => hob p (by simp [hp])) k1) (.cons (roI_sound hb (fun p hp => hob p (by simp [hp])) k3) k4)
      simp only [go_sem]
      refine ⟨fun h => ?_, fun h => ?_⟩
      · have hne : n ≠ m := fun e => by subst e; simp at h
        symm
        rw [decide_eq_false_iff_not, lX_eq]
        exact fun e => hne e.1
      have hnm' : (n : Int) = m := by simpa using h
      have hnm : n = m := by omega
      clear hnm'
      subst hnm
      refine loopN_go (fun (i : Nat) => i ≤ n ∧ ∀ j, j < i → X j = Y j) (fun i => n - i) (fun i => [(5, i64 i)]) (fun i => []) [] [11, 12, 13, 14, 17, 18, 19, 20, 21, 22, 23, 24, 25, 4, 15, 16, 5] 0 0 (by kernel_rfl) ⟨Nat.zero_le _, fun j hj => by omega⟩ ⟨[], ?_, ?_, ?_, ?_⟩ ?_
      · simp only [go_sem]
      · simp only [go_sem]
      · simp only [go_sem]
      · simp [goodNames, asg]
      rintro i ⟨hi, hj⟩
      simp only [go_sem]
      refine ⟨fun h => ⟨by omega, h, by omega, h, fun hne => ?_, fun he z hz => ⟨i + 1, ⟨by omega, fun j h2 => ?_⟩, by omega, [], by rw [hz, wrap_in (by unfold inR; omega)]; omega, by simp [goodNames, asg]⟩⟩, fun h => ?_⟩
      · symm
        rw [decide_eq_false_iff_not, lX_eq]
        intro e
        rw [e.2 i (by omega)] at hne
        simp at hne
      · by_cases e : j = i
        · subst e; simpa using he
        · exact hj j (by omega)
      · symm
        rw [decide_eq_true_iff, lX_eq]
        exact ⟨rfl, fun j h2 => hj j (by omega)⟩
    · cases hc
  · cases hc
end Go.Ax
end

section
/-
  What the laws ask of lists of pairs.
-/
set_option linter.unusedVariables false
set_option linter.unusedSimpArgs false
set_option maxHeartbeats 4000000
set_option maxRecDepth 100000
namespace Go.Ax
open Go.Proofs
theorem lP_eq {n m : Nat} {X Y : Nat → Int × Int} : lP n X = lP m Y ↔ n = m ∧ ∀ i, i < n → X i = Y i := by
  constructor
  · intro h
    have h1 : n = m := by have := congrArg List.length h; simpa [lP] using this
    subst h1
    refine ⟨rfl, fun i hi => ?_⟩
    have := congrArg (fun l => l[i]?) h
    simpa [lP, hi] using this
  · rintro ⟨rfl, h⟩
    unfold lP
    exact List.map_congr_left fun i hi => h i (by simpa using hi)
def c20f : Option (List Prop × Nat × (Nat → Int × Int)) → Option (List Prop × Nat × (Nat → Int × Int)) → Option (List Prop × AV)
  | some (o1, n, X), some (o2, m, Y) => some ((n ≤ 100000) :: (o1 ++ o2), bo (decide (lP n X = lP m Y)))
  | _, _ => none
def c20 : Con
  | [a, b] => c20f (roP a) (roP b)
  | _ => none
theorem con20 : ConOK Tryz.prog 20 c20 := ConOK.go (G := []) (H := []) .nil Tryz.func20 fun l ob rr hc hob => by
  unfold c20 at hc
  split at hc
  · rename_i a b
    unfold c20f at hc
    split at hc
    · rename_i o1 n X o2 m Y ha hb
      cases hc
      have hn : n ≤ 100000 := hob _ (by simp)
      refine ⟨[.ro n 2 fun i => [i64 (X i).1, i64 (X i).2], .ro m 2 fun i => [i64 (Y i).1, i64 (Y i).2]], fun w I vs hR => ?_, by kernel_rfl, fnVC_go (rs := [.tmp 4]) rfl rfl ?_⟩
      · obtain ⟨y, ys, rfl, k1, k2⟩ := hR.inv
        obtain ⟨y2, ys2, rfl, k3, k4⟩ := k2.inv
        exact .cons (roP_sound ha (fun p hp => hob p (by simp [hp])) k1) (.cons (roP_sound hb (fun p hp => hob p (by simp [hp])) k3) k4)
      simp only [go_sem]
      refine ⟨fun h => ?_, fun h => ?_⟩
      · have hne : n ≠ m := fun e => by subst e; simp at h
        symm
        rw [decide_eq_false_iff_not, lP_eq]
        exact fun e => hne e.1
      have hnm' : (n : Int) = m := by simpa using h
      have hnm : n = m := by omega
      clear hnm'
      subst hnm
      refine loopN_go (fun (i : Nat) => i ≤ n ∧ ∀ j, j < i → X j = Y j) (fun i => n - i) (fun i => [(5, i64 i)]) (fun i => []) [] [11, 12, 13, 14, 17, 18, 19, 20, 21, 22, 23, 24, 25, 4, 15, 16, 5] 0 0 (by kernel_rfl) ⟨Nat.zero_le _, fun j hj => by omega⟩ ⟨[], ?_, ?_, ?_, ?_⟩ ?_
      · simp only [go_sem]
      · simp only [go_sem]
      · simp only [go_sem]
      · simp [goodNames, asg]
      rintro i ⟨hi, hj⟩
      simp only [go_sem]
      refine ⟨fun h => ⟨by omega, h, by omega, h, fun hne => ?_, fun he z hz => ⟨i + 1, ⟨by omega, fun j h2 => ?_⟩, by omega, [], by rw [hz, wrap_in (by unfold inR; omega)]; omega, by simp [goodNames, asg]⟩⟩, fun h => ?_⟩
      · symm
        rw [decide_eq_false_iff_not, lP_eq]
        intro e
        rw [e.2 i (by omega)] at hne
        simp at hne
      · by_cases e : j = i
        · subst e; have h3 : (X j).1 = (Y j).1 ∧ (X j).2 = (Y j).2 := by simpa using he
          exact Prod.ext h3.1 h3.2
        · exact hj j (by omega)
      · symm
        rw [decide_eq_true_iff, lP_eq]
        exact ⟨rfl, fun j h2 => hj j (by omega)⟩
    · cases hc
  · cases hc
end Go.Ax
end

section
/-
  The chapter's examples: a sweep.
-/
set_option linter.unusedVariables false
set_option linter.unusedSimpArgs false
set_option maxHeartbeats 4000000
set_option maxRecDepth 100000
namespace Go.Ax
open Go.Proofs
def shL : Ents := [(5, [0, 0, 10, 10]), (2, [10, 5, 20, 8]), (9, [11, 0, 12, 4])]
noncomputable def F57 : List AV → Option (List Prop × (Nat → AV) × (Nat → Option Fam))
  | [] => some ([], fun k => .bx k 0, fun k => some (swF k ⟨shL, noRows⟩))
  | _ => none
noncomputable def mN57 : MCon := mcKU F57
theorem mN57_eq : mN57 = mcKU F57 := (rfl)
theorem F57_eq : F57 [] = some ([], fun k => .bx k 0, fun k => some (swF k ⟨shL, noRows⟩)) := (rfl)
theorem F28_eq : F28 [] = some ([], fun k => .bx k 0, fun k => some (swF k ⟨[], noRows⟩)) := (rfl)
attribute [go_sem] mN57_eq F57_eq F28_eq
theorem swF_eq {K : Nat} {s : SwS} : swF K s = famR [⟨1, 1, 103, fun _ => [.mp K 1], none⟩, mapR 4 s.L] s.tl := (rfl)
theorem famNK_W' {key : Nat} {L : Ents} : famNK key (famR [⟨1, 1, 103, fun _ => [.mp key 1], none⟩, mapR 4 L] noRows) = True := famNK_W
theorem inR_l {z : Int} (h : -9223372036854775808 ≤ z ∧ z ≤ 9223372036854775807) : inR z = True := eq_true (by unfold inR; omega)
theorem put_1 : putE [] 5 0 0 10 10 = 0 := by decide +kernel
theorem put_2 : putE [(5, [0, 0, 10, 10])] 2 10 5 20 8 = 0 := by decide +kernel
theorem put_3 : putE [(5, [0, 0, 10, 10]), (2, [10, 5, 20, 8])] 9 11 0 12 4 = 0 := by decide +kernel
theorem putw_1 : putW ⟨[], noRows⟩ 5 0 0 10 10 = ⟨[(5, [0, 0, 10, 10])], noRows⟩ := by unfold putW; dsimp only; rw [put_1]; rfl
theorem putw_2 : putW ⟨[(5, [0, 0, 10, 10])], noRows⟩ 2 10 5 20 8 = ⟨[(5, [0, 0, 10, 10]), (2, [10, 5, 20, 8])], noRows⟩ := by unfold putW; dsimp only; rw [put_2]; rfl
theorem putw_3 : putW ⟨[(5, [0, 0, 10, 10]), (2, [10, 5, 20, 8])], noRows⟩ 9 11 0 12 4 = ⟨shL, noRows⟩ := by unfold putW; dsimp only; rw [put_3]; rfl
theorem inR_0 : inR 0 = True := inR_l (by decide)
theorem inR_4 : inR 4 = True := inR_l (by decide)
theorem inR_5 : inR 5 = True := inR_l (by decide)
theorem inR_8 : inR 8 = True := inR_l (by decide)
theorem inR_10 : inR 10 = True := inR_l (by decide)
theorem inR_11 : inR 11 = True := inR_l (by decide)
theorem inR_12 : inR 12 = True := inR_l (by decide)
theorem inR_20 : inR 20 = True := inR_l (by decide)
/-- A sweep that is handed on. -/
theorem newOW {key N r : Nat} {L : Ents} {m1 : Mem} {v : Nat → AV} (hv : ∀ θ r, renA θ 3 (v r) = v (θ r 0).1) (hk : ∀ G B r, B r → kg G B 3 (v r)) (h : look m1 r = some (swF r ⟨L, noRows⟩)) (hN : N ≤ r) : NewP key N (v r) m1 (v key) (some (swF key ⟨L, noRows⟩)) := by
  have ix1 : ixP [(r, 0), (r, 1)] r 0 = 0 := by simp [ixP]
  have ix2 : ixP [(r, 0), (r, 1)] r 1 = 1 := by simp [ixP]
  refine newP_list [(r, 0), (r, 1)] (by simp) (by simp [hN]) (hk _ _ _ (.inr rfl)) (fun ks hks => ?_) (fun ks hks f r' g hf => ?_) (fun f hf => ?_)
  · rw [hv]
    simp only [thL]
    rw [if_neg (by omega)]
  · match f, hf with
    | 0, hf =>
      cases hf
      refine ⟨_, h, ⟨rfl, rfl, rfl, rfl, fun j hj => ⟨?_, fun c hc => ?_⟩⟩, by simp [swF, famR_0]⟩
      · show [AV.mp key 1] = [AV.mp (thL ks key (ixP [(r, 0), (r, 1)]) r 1).1 (thL ks key (ixP [(r, 0), (r, 1)]) r 1).2]
        simp only [thL]
        rw [if_neg (by omega), ix2]
      · have hc : c ∈ [AV.mp r 1] := hc
        simp only [List.mem_cons, List.not_mem_nil, or_false] at hc
        subst hc
        exact .inr (by rw [ix2]; rfl)
    | 1, hf =>
      cases hf
      exact ⟨_, h, ⟨rfl, rfl, rfl, rfl, fun j hj => by have hj : j < 0 := hj; omega⟩, by simp [swF, famR_1, mapR]⟩
    | f + 2, hf => simp at hf
  · match f, hf with
    | f + 2, _ => rfl
theorem mon57 : MConOK Tryz.prog 57 mN57 := MConOK.mkU (G := [(28, .wr mN28), (25, c25), (19, .wr m19)]) (H := []) (.mcons mon28 (.cons con25 (.mcons mon19 .nil))) Tryz.func57 fun es ob v nw hF hob => by
  unfold F57 at hF
  split at hF
  · cases hF
    refine ⟨_, fun w I vs hR => hR, by simp, by kernel_rfl, fun key => bodyM_go (rs := [.tmp 0]) rfl rfl ?_⟩
    simp only [go_sem, c25, m19, swF_eq, F19, put_1, put_2, put_3, putw_1, putw_2, putw_3, famNK_W', inR_0, inR_4, inR_5, inR_8, inR_10, inR_11, inR_12, inR_20]
    have b0 : ((0 : Int) != 0) = false := by decide
    simp only [forall_eq, b0, false_or, or_false, Bool.false_eq_true, false_imp_iff, true_imp_iff, true_and, and_true, not_true, eq_self, not_false_iff, imp_false]
    exact ⟨newOW (v := fun k => .bx k 0) (L := shL) (m1 := [(1, swF 1 ⟨shL, noRows⟩)]) (fun _ _ => rfl) (fun _ _ _ h => h) rfl (Nat.zero_le _), fun h => (by cases h)⟩
  · cases hF
end Go.Ax
end

section
/-
  The chapter's examples hold.
-/
set_option linter.unusedVariables false
set_option linter.unusedSimpArgs false
set_option maxHeartbeats 4000000
set_option maxRecDepth 100000
namespace Go.Ax
open Go.Proofs
theorem slF_eq {K : Nat} {s : SlS} : slF K s = famR [⟨1, 2, 100, fun _ => [u64 s.x, .own K 1 s.n 1], none⟩, ⟨s.n, 1, 3, fun i => [i64 (s.G i)], none⟩] s.tl := (rfl)
def g0 : Nat → Int := fun _ => 0
def g1 : Nat → Int := upI g0 0 1
def g2 : Nat → Int := upI g1 1 1
theorem F45_3' : F45 [i64 3] = some ([], fun k => .tup [.bx k 0, i64 0], fun k => some (slF k ⟨0, 3, g0, noRows⟩)) := (rfl)
theorem tkI_0 : tkI ⟨0, 3, g0, noRows⟩ = 0 := by decide +kernel
theorem tkI_1 : tkI ⟨1, 3, g1, noRows⟩ = 1 := by decide +kernel
theorem tkS_0 : tkS ⟨0, 3, g0, noRows⟩ = ⟨1, 3, g1, noRows⟩ := by
  unfold tkS; rw [tkI_0]; rfl
theorem tkS_1 : tkS ⟨1, 3, g1, noRows⟩ = ⟨3, 3, g2, noRows⟩ := by
  unfold tkS; rw [tkI_1]; rfl
theorem tkE_0 : tkE ⟨0, 3, g0, noRows⟩ = 0 := by decide +kernel
theorem tkE_1 : tkE ⟨1, 3, g1, noRows⟩ = 0 := by decide +kernel
theorem tkH_0 : tkH ⟨0, 3, g0, noRows⟩ = (0, 1) := by decide +kernel
theorem tkH_1 : tkH ⟨1, 3, g1, noRows⟩ = (1, 1) := by decide +kernel
theorem slOK_0 : slOK ⟨0, 3, g0, noRows⟩ = True := eq_true ⟨⟨by decide, by decide⟩, ⟨by decide, by decide⟩, by decide⟩
theorem slOK_1 : slOK ⟨1, 3, g1, noRows⟩ = True := eq_true ⟨⟨by decide, by decide⟩, ⟨by decide, by decide⟩, by decide⟩
theorem slOK_2 : slOK ⟨3, 3, g2, noRows⟩ = True := eq_true ⟨⟨by decide, by decide⟩, ⟨by decide, by decide⟩, by decide⟩
theorem has_2 : hasI ⟨3, 3, g2, noRows⟩ 1 1 = true := by decide +kernel
theorem fr_2 : frS ⟨3, 3, g2, noRows⟩ 1 1 = ⟨1, 3, g2, noRows⟩ := by
  unfold frS; rw [has_2]; rfl
theorem at_3 : atOk 1 3 1 = false := by decide +kernel
theorem at_4 : atOk 1 3 0 = true := by decide +kernel
theorem g2_0 : g2 0 = 1 := (rfl)
theorem g2_0' : g2 (Int.toNat 0) = 1 := (rfl)
theorem selIn_sh : selIn shL = True := eq_true fun k j => by
  have h : memSel shL k = none ∨ memSel shL k = some [0, 0, 10, 10] ∨ memSel shL k = some [10, 5, 20, 8] ∨ memSel shL k = some [11, 0, 12, 4] := by
    unfold shL
    simp only [memSel]
    repeat' split
    all_goals simp
  rcases h with h | h | h | h <;> rw [h] <;> unfold selAt inR <;> dsimp only <;> (try (rcases j with _ | _ | _ | _ | j <;> simp <;> omega)) <;> (try omega)
theorem ms_eq {α : Type} {le : α → α → Bool} (tr : ∀ a b c, le a b = true → le b c = true → le a c = true) (tot : ∀ a b, (le a b || le b a) = true) (anti : ∀ a b, le a b = true → le b a = true → a = b) {l l' : List α} (hp : l.Perm l') (hs : l'.Pairwise fun a b => le a b = true) : l.mergeSort le = l' :=
  List.Perm.eq_of_pairwise (le := fun a b => le a b = true) (fun a b _ _ h1 h2 => anti a b h1 h2) (List.pairwise_mergeSort tr tot l) hs ((List.mergeSort_perm l le).trans hp)
theorem srtK_eq {L : Ents} {l : List Int} (hp : (L.map (·.1)).Perm l) (hs : l.Pairwise fun a b => a ≤ b) : srtK L = l :=
  ms_eq (by simp; omega) (by simp; omega) (by simp; omega) hp (hs.imp fun h => by simpa using h)
theorem srtX_eq {L : Ents} {l l' : List Int} (hp : l.Perm l') (hs : l'.Pairwise fun a b => (!Go.Proofs.ltOf (cfL L) b a) = true) : srtX L l = l' :=
  ms_eq (fun a b c h1 h2 => by rw [cfL_lt] at *; simp at *; omega) (fun a b => by rw [cfL_lt, cfL_lt, Bool.or_eq_true]; simp; omega) (fun a b h1 h2 => by rw [cfL_lt] at *; simp at *; omega) hp hs
theorem srtP_eq {l l' : List (Int × Int)} (hp : l.Perm l') (hs : l'.Pairwise fun a b => (!Go.Proofs.ltOf cfP b a) = true) : srtP l = l' :=
  ms_eq (fun a b c h1 h2 => by rw [cfP_lt] at *; simp at *; omega) (fun a b => by rw [cfP_lt, cfP_lt, Bool.or_eq_true]; simp; omega) (fun a b h1 h2 => cfP_tot (by simpa using h2) (by simpa using h1)) hp hs
theorem srtK_sh : srtK shL = [2, 5, 9] := srtK_eq (by decide) (by decide)
theorem ord_sh : ordL shL = [5, 2, 9] := by
  unfold ordL
  rw [srtK_sh]
  exact srtX_eq (by decide) (by decide +kernel)
theorem pairs_sh : pairsL shL = [(2, 5)] := by
  unfold pairsL
  rw [ord_sh, show (pw shL [5, 2, 9]).1 = [(2, 5)] by decide +kernel]
  exact srtP_eq (List.Perm.refl _) (by decide)
theorem seen_sh : seenL shL (fun x y z t => meetsS x y z t 12 4 13 6) = [2, 9] := by
  unfold seenL
  rw [srtK_sh]
  decide +kernel
theorem shL_len : shL.length = 3 := (rfl)
theorem c20_eq {a b : AV} : c20 [a, b] = c20f (roP a) (roP b) := (rfl)
theorem c20f_some {o1 o2 : List Prop} {n m : Nat} {X Y : Nat → Int × Int} : c20f (some (o1, n, X)) (some (o2, m, Y)) = some ((n ≤ 100000) :: (o1 ++ o2), bo (decide (lP n X = lP m Y))) := (rfl)
theorem c49_eq {a b : AV} : c49 [a, b] = c49f (roI a) (roI b) := (rfl)
theorem c49f_some {o1 o2 : List Prop} {n m : Nat} {X Y : Nat → Int} : c49f (some (o1, n, X)) (some (o2, m, Y)) = some ((n ≤ 100000) :: (o1 ++ o2), bo (decide (lX n X = lX m Y))) := (rfl)
theorem famNK_ls {key n : Nat} {l : List (Int × Int)} {ty : TypeId} {g : Option Bool} : famNK key (famN n 2 ty (lsF l) g) = True := eq_true fun f j hj c hc => by
  match f with
  | 0 =>
    have hc : c ∈ lsF l j := hc
    simp only [lsF, List.mem_cons, List.not_mem_nil, or_false] at hc
    rcases hc with rfl | rfl <;> trivial
  | f + 1 => have hj : j < 0 := hj; omega
theorem purL_ls {d : Nat} {m : Mem} {l : List (Int × Int)} {i : Nat} : purL (d + 1) m (lsF l i) = lsF l i := (rfl)
attribute [go_sem] purL_ls c20_eq c20f_some c49_eq c49f_some famNK_ls roI_ro roI_nil roP_ro roP_nil
def c15 : Con
  | [] => some ([], bo true)
  | _ => none
theorem aw_p : decide (lP 1 (gxP fun i => lsF [(2, 5)] i) = lP 1 (gxP (rowsOf 2 [i64 2, i64 5]))) = true := by decide +kernel
theorem aw_i : decide ((lX 2 fun i => [2, 9].getD i 0) = lX 2 (gx (rowsOf 1 [i64 2, i64 9]) 0)) = true := by decide +kernel
theorem aw_q : (∀ i, i < 1 → List.take 2 (List.drop (i * 2) [i64 2, i64 5]) = canP (rowsOf 2 [i64 2, i64 5]) i) = True := eq_true fun i hi => by
  obtain rfl : i = 0 := by omega
  rfl
theorem aw_j : ints 2 (rowsOf 1 [i64 2, i64 9]) = True := eq_true fun i hi => by
  match i, hi with
  | 0, _ => rfl
  | 1, _ => rfl
theorem inR_13 : inR 13 = True := inR_l (by decide)
theorem inR_6 : inR 6 = True := inR_l (by decide)
theorem con15 : ConOK Tryz.prog 15 c15 := ConOK.of (G := [(45, .wr m45), (57, .wr mN57), (40, .wr m40), (44, .wr m44), (60, k60), (21, .wr mN21), (20, c20), (25, c25), (50, .wr mN50), (49, c49)]) (H := []) (.mcons mon45 (.mcons mon57 (.mcons mon40 (.mcons mon44 (.cons con60 (.mcons mon21 (.cons con20 (.cons con25 (.mcons mon50 (.cons con49 .nil)))))))))) Tryz.func15 fun l ob rr hc hob => by
  unfold c15 at hc
  split at hc
  · cases hc
    refine ⟨by kernel_rfl, fnVC_go (rs := [.tmp 0]) rfl rfl ?_⟩
    simp only [go_sem, mN57_eq, m40, m44, m45, k60, slF_eq, swF_eq, F45_3', F40, F44, F60, tkS_0, tkS_1, tkE_0, tkE_1, tkH_0, tkH_1, slOK_0, slOK_1, slOK_2, has_2, fr_2, at_3, at_4, g2_0, g2_0', famNK_W', selIn_sh, pairs_sh, seen_sh, shL_len, F21, F50, mN21_eq, c25, aw_p, aw_i, aw_q, aw_j, inR_4, inR_12, inR_13, inR_6]
    have b0 : ((0 : Int) != 0) = false := by decide
    have b1 : ((0 : Int) == 0) = true := by decide
    have b2 : ((1 : Int) == 1) = true := by decide
    simp only [forall_eq, b0, b1, b2, false_or, or_false, Bool.false_eq_true, false_imp_iff, true_imp_iff, true_and, and_true, and_self, not_true, eq_self, not_false_iff, imp_self, implies_true, Bool.and_true, Bool.not_false, Bool.and_self, Bool.true_eq_false, false_imp_iff, imp_true_iff, aw_p, aw_i, aw_q, aw_j]
  · cases hc
end Go.Ax
end

section
/-
  What the laws ask of lists of handles, and of what is in a list.
-/
set_option linter.unusedVariables false
set_option linter.unusedSimpArgs false
set_option maxHeartbeats 4000000
set_option maxRecDepth 100000
namespace Go.Ax
open Go.Proofs
def c43f : Option (List Prop × Nat × (Nat → Int × Int)) → Option (List Prop × Nat × (Nat → Int × Int)) → Option (List Prop × AV)
  | some (o1, n, X), some (o2, m, Y) => some ((n ≤ 100000) :: (o1 ++ o2), bo (decide (lP n X = lP m Y)))
  | _, _ => none
def c43 : Con
  | [a, b] => c43f (roP a) (roP b)
  | _ => none
theorem con43 : ConOK Tryz.prog 43 c43 := ConOK.go (G := []) (H := []) .nil Tryz.func43 fun l ob rr hc hob => by
  unfold c43 at hc
  split at hc
  · rename_i a b
    unfold c43f at hc
    split at hc
    · rename_i o1 n X o2 m Y ha hb
      cases hc
      have hn : n ≤ 100000 := hob _ (by simp)
      refine ⟨[.ro n 2 fun i => [i64 (X i).1, i64 (X i).2], .ro m 2 fun i => [i64 (Y i).1, i64 (Y i).2]], fun w I vs hR => ?_, by kernel_rfl, fnVC_go (rs := [.tmp 4]) rfl rfl ?_⟩
      · obtain ⟨y, ys, rfl, k1, k2⟩ := hR.inv
        obtain ⟨y2, ys2, rfl, k3, k4⟩ := k2.inv
        exact .cons (roP_sound ha (fun p hp => hob p (by simp [hp])) k1) (.cons (roP_sound hb (fun p hp => hob p (by simp [hp])) k3) k4)
      simp only [go_sem]
      refine ⟨fun h => ?_, fun h => ?_⟩
      · have hne : n ≠ m := fun e => by subst e; simp at h
        symm
        rw [decide_eq_false_iff_not, lP_eq]
        exact fun e => hne e.1
      have hnm' : (n : Int) = m := by simpa using h
      have hnm : n = m := by omega
      clear hnm'
      subst hnm
      refine loopN_go (fun (i : Nat) => i ≤ n ∧ ∀ j, j < i → X j = Y j) (fun i => n - i) (fun i => [(5, i64 i)]) (fun i => []) [] [11, 12, 13, 14, 17, 18, 19, 20, 21, 22, 23, 24, 25, 4, 15, 16, 5] 0 0 (by kernel_rfl) ⟨Nat.zero_le _, fun j hj => by omega⟩ ⟨[], ?_, ?_, ?_, ?_⟩ ?_
      · simp only [go_sem]
      · simp only [go_sem]
      · simp only [go_sem]
      · simp [goodNames, asg]
      rintro i ⟨hi, hj⟩
      simp only [go_sem]
      refine ⟨fun h => ⟨by omega, h, by omega, h, fun hne => ?_, fun he z hz => ⟨i + 1, ⟨by omega, fun j h2 => ?_⟩, by omega, [], by rw [hz, wrap_in (by unfold inR; omega)]; omega, by simp [goodNames, asg]⟩⟩, fun h => ?_⟩
      · symm
        rw [decide_eq_false_iff_not, lP_eq]
        intro e
        rw [e.2 i (by omega)] at hne
        simp at hne
      · by_cases e : j = i
        · subst e; have h3 : (X j).1 = (Y j).1 ∧ (X j).2 = (Y j).2 := by simpa using he
          exact Prod.ext h3.1 h3.2
        · exact hj j (by omega)
      · symm
        rw [decide_eq_true_iff, lP_eq]
        exact ⟨rfl, fun j h2 => hj j (by omega)⟩
    · cases hc
  · cases hc
def c38f (n : Nat) (X : Nat → Int × Int) (z : Int × Int) (ob : List Prop) : List Prop × AV := ((n ≤ 100000) :: ob, bo (decide (z ∈ lP n X)))
def c38 : Con
  | [a, .agg [.v (.int .i64 z1), .v (.int .i64 z2)]] => match roP a with
    | some (ob, n, X) => some (c38f n X (z1, z2) ob)
    | none => none
  | _ => none
end Go.Ax
end

section
/-
  Lists of handles, ars rows of one's own; tables that are alike.
-/
set_option linter.unusedVariables false
set_option linter.unusedSimpArgs false
set_option maxHeartbeats 4000000
set_option maxRecDepth 100000
namespace Go.Ax
open Go.Proofs
attribute [go_sem] Tryz.underlying4
def FN35 : List AV → Option (List Prop × (Nat → AV) × (Nat → Option Fam))
  | [.rop [.v (.int .u64 x), .ro n 1 g]] => some ([0 ≤ x, x < 18446744073709551616, 0 < n, n ≤ 64, ints n g], fun k => .own k 0 (allL x n (gx g 0) n).length 2, fun k => some (famN (allL x n (gx g 0) n).length 2 64 (lsF (allL x n (gx g 0) n)) none))
  | _ => none
noncomputable def mN35W : MCon := mcKU FN35
theorem mN35W_eq : mN35W = mcKU FN35 := (rfl)
theorem FN35_eq {x : Int} {n : Nat} {g : Nat → List AV} : FN35 [.rop [u64 x, .ro n 1 g]] = some ([0 ≤ x, x < 18446744073709551616, 0 < n, n ≤ 64, ints n g], fun k => .own k 0 (allL x n (gx g 0) n).length 2, fun k => some (famN (allL x n (gx g 0) n).length 2 64 (lsF (allL x n (gx g 0) n)) none)) := (rfl)
attribute [go_sem] mN35W_eq FN35_eq
def FN93 : List AV → Option (List Prop × (Nat → AV) × (Nat → Option Fam))
  | [.rop [.ro n 1 g, .ro m 1 h]] => some ([m = n, 0 < n, n ≤ 64, ints n g, bools n h], fun k => .own k 0 (rtL n (gx g 0) (fun i => gz (h i)) n).length 2, fun k => some (famN (rtL n (gx g 0) (fun i => gz (h i)) n).length 2 64 (lsF (rtL n (gx g 0) (fun i => gz (h i)) n)) none))
  | _ => none
noncomputable def mN93W : MCon := mcKU FN93
theorem mN93W_eq : mN93W = mcKU FN93 := (rfl)
theorem FN93_eq {n m : Nat} {g h : Nat → List AV} : FN93 [.rop [.ro n 1 g, .ro m 1 h]] = some ([m = n, 0 < n, n ≤ 64, ints n g, bools n h], fun k => .own k 0 (rtL n (gx g 0) (fun i => gz (h i)) n).length 2, fun k => some (famN (rtL n (gx g 0) (fun i => gz (h i)) n).length 2 64 (lsF (rtL n (gx g 0) (fun i => gz (h i)) n)) none)) := (rfl)
attribute [go_sem] mN93W_eq FN93_eq
end Go.Ax
end

section
/-
  What the laws' tables go through: the plain law.
-/
set_option linter.unusedVariables false
set_option linter.unusedSimpArgs false
set_option maxHeartbeats 4000000
set_option maxRecDepth 100000
namespace Go.Ax
open Go.Proofs
/-- A table to which something was done. -/
structure TdS where
  s : SlS
  live : List (Int × Int)
  given : List (Int × Int)
def tdStep (n : Nat) (t : TdS) (k : Nat) : TdS :=
  if k % 3 = 2 ∧ t.live ≠ [] then
    let i := k / 3 % t.live.length
    ⟨frS t.s (t.live.getD i (0, 0)).1 (t.live.getD i (0, 0)).2, t.live.eraseIdx i, t.given⟩
  else if t.live.length = n then t
  else ⟨tkS t.s, t.live ++ [tkH t.s], t.given ++ [tkH t.s]⟩
/-- What holds of it, at most r handles having been given. -/
structure TdI (n r : Nat) (t : TdS) : Prop where
  sn : t.s.n = n
  n1 : 1 ≤ n ∧ n ≤ 64
  x0 : 0 ≤ t.s.x ∧ t.s.x < 18446744073709551616
  hi : ∀ j, n ≤ j → t.s.x.toNat.testBit j = false
  cnt : t.live.length = cntB t.s.x.toNat.testBit n
  liv : ∀ h ∈ t.live, ∃ i : Nat, i < n ∧ h = ((i : Int), t.s.G i) ∧ t.s.x.toNat.testBit i = true
  nod : t.live.Pairwise fun a b => a.1 ≠ b.1
  has : ∀ i, i < n → t.s.x.toNat.testBit i = true → ((i : Int), t.s.G i) ∈ t.live
  giv : ∀ h ∈ t.given, ∃ i : Nat, i < n ∧ h.1 = i ∧ 1 ≤ h.2 ∧ h.2 ≤ t.s.G i
  gen : ∀ i, i < n → 0 ≤ t.s.G i ∧ t.s.G i ≤ r
  sub : ∀ h ∈ t.live, h ∈ t.given
  gl : t.given.length ≤ r
theorem cntB_full {T : Nat → Bool} : ∀ {n : Nat}, cntB T n = n ↔ ∀ i, i < n → T i = true
  | 0 => by simp [cntB]
  | n + 1 => by
    have h1 := cntB_le (T := T) n
    have ih := cntB_full (T := T) (n := n)
    simp only [cntB]
    constructor
    · intro h i hi
      have h2 : T n = true := by
        by_cases h3 : T n = true
        · exact h3
        · rw [if_neg h3] at h; omega
      rw [if_pos h2] at h
      by_cases e : i = n
      · rw [e]; exact h2
      · exact ih.1 (by omega) i (by omega)
    · intro h
      rw [if_pos (h n (by omega)), ih.2 fun i hi => h i (by omega)]
theorem cntB_add1 {T T' : Nat → Bool} {k : Nat} : ∀ {n : Nat}, k < n → T k = false → T' k = true → (∀ j, j ≠ k → T' j = T j) → cntB T' n = cntB T n + 1
  | 0, h, _, _, _ => by omega
  | n + 1, h, h1, h2, h3 => by
    simp only [cntB]
    by_cases e : k = n
    · subst e
      rw [if_pos h2, if_neg (by rw [h1]; decide), cntB_congr fun i hi => h3 i (by omega)]
    · rw [cntB_add1 (by omega) h1 h2 h3, h3 n (fun e2 => e e2.symm)]
      omega
theorem TdI.full {n r : Nat} {t : TdS} (h : TdI n r t) (hr : r < 2147483647) : t.live.length = n ↔ tkI t.s = n := by
  have hn := h.sn
  rw [h.cnt, cntB_full]
  constructor
  · intro h1
    unfold tkI
    rw [hn]
    exact lst_full fun j hj => by unfold mayT; rw [h1 j hj]; rfl
  · intro h1 i hi
    by_cases h2 : t.s.x.toNat.testBit i = true
    · exact h2
    · exfalso
      have h3 := h.gen i hi
      have h4 : mayT t.s.x t.s.G i = true := by
        unfold mayT
        have : t.s.x.toNat.testBit i = false := by simpa using h2
        rw [this, decide_eq_true (by omega)]; rfl
      unfold tkI at h1
      rw [hn] at h1
      have h5 := lst_no (p := mayT t.s.x t.s.G) (n := n) (i := i) (by omega)
      rw [h4] at h5
      cases h5
theorem TdI.slOK {n r : Nat} {t : TdS} (h : TdI n r t) : slOK t.s := ⟨h.x0, by rw [h.sn]; exact ⟨by have := h.n1.1; omega, h.n1.2⟩, fun i hi => (h.gen i (by rw [h.sn] at hi; exact hi)).1⟩
theorem setX_bit {x : Int} {i j : Nat} : (setX x (i : Int)).toNat.testBit j = (x.toNat.testBit j || decide (j = i)) := by
  unfold setX
  rw [Int.toNat_natCast, Int.toNat_natCast, setN_bit]
theorem TdI.take {n r : Nat} {t : TdS} (h : TdI n r t) (hr : r < 2147483647) (hl : t.live.length ≠ n) : TdI n (r + 1) ⟨tkS t.s, t.live ++ [tkH t.s], t.given ++ [tkH t.s]⟩ ∧ tkE t.s = 0 ∧ tkH t.s ∉ t.given := by
  have hn := h.sn
  have hne : tkI t.s ≠ n := fun e => hl ((h.full hr).2 e)
  have hle : tkI t.s ≤ n := by unfold tkI; rw [hn]; exact lst_le n
  have hlt : tkI t.s < t.s.n := by rw [hn]; omega
  have hm : mayT t.s.x t.s.G (tkI t.s) = true := lst_yes (p := mayT t.s.x t.s.G) (n := t.s.n) hlt
  have hS : tkS t.s = ⟨setX t.s.x (tkI t.s : Nat), t.s.n, upI t.s.G (tkI t.s) (t.s.G (tkI t.s) + 1), t.s.tl⟩ := by unfold tkS; rw [if_pos hlt]
  have hH : tkH t.s = ((tkI t.s : Int), t.s.G (tkI t.s) + 1) := by unfold tkH; rw [if_pos hlt]
  have hE : tkE t.s = 0 := by unfold tkE; rw [if_pos hlt]
  rw [hn] at hlt
  have hb : t.s.x.toNat.testBit (tkI t.s) = false := by
    unfold mayT at hm
    rw [Bool.and_eq_true] at hm
    simpa using hm.1
  generalize tkI t.s = i at *
  have hgi := h.gen i hlt
  have hn1 := h.n1
  refine ⟨?_, hE, fun hg => ?_⟩
  · rw [hS, hH]
    refine ⟨hn, hn1, ⟨?_, ?_⟩, fun j hj => ?_, ?_, fun z hz => ?_, ?_, fun j hj hb2 => ?_, fun z hz => ?_, fun j hj => ?_, fun z hz => ?_, by rw [List.length_append, List.length_singleton]; have := h.gl; omega⟩
    · show (0 : Int) ≤ setX _ _
      unfold setX; omega
    · show setX _ _ < _
      unfold setX
      rw [Int.toNat_natCast]
      have := h.x0
      have := setN_lt (a := t.s.x.toNat) (k := i) (by omega) (by omega)
      omega
    · show (setX _ _).toNat.testBit j = false
      rw [setX_bit, h.hi j hj, decide_eq_false (by omega)]; rfl
    · show (t.live ++ [_]).length = cntB (setX _ _).toNat.testBit n
      rw [List.length_append, List.length_singleton, h.cnt]
      exact (cntB_add1 hlt hb (by rw [setX_bit, decide_eq_true rfl, Bool.or_true]) fun j hj => by rw [setX_bit, decide_eq_false hj, Bool.or_false]).symm
    · rcases List.mem_append.1 hz with hz | hz
      · obtain ⟨j, h1, h2, h3⟩ := h.liv z hz
        have hji : j ≠ i := fun e => by rw [e, hb] at h3; cases h3
        exact ⟨j, h1, by show z = ((j : Int), upI _ _ _ j); unfold upI; rw [if_neg hji]; exact h2, by show (setX _ _).toNat.testBit j = true; rw [setX_bit, h3]; rfl⟩
      · simp only [List.mem_cons, List.not_mem_nil, or_false] at hz
        exact ⟨i, hlt, by show z = ((i : Int), upI _ _ _ i); unfold upI; rw [if_pos rfl]; exact hz, by show (setX _ _).toNat.testBit i = true; rw [setX_bit, decide_eq_true rfl, Bool.or_true]⟩
    · refine List.pairwise_append.2 ⟨h.nod, List.pairwise_singleton _ _, fun a ha b hb2 => ?_⟩
      simp only [List.mem_cons, List.not_mem_nil, or_false] at hb2
      obtain ⟨j, h1, h2, h3⟩ := h.liv a ha
      rw [hb2, h2]
      intro e
      have e : (j : Int) = i := e
      have : j = i := by omega
      rw [this, hb] at h3; cases h3
    · have hb2 : (setX t.s.x (i : Int)).toNat.testBit j = true := hb2
      rw [setX_bit] at hb2
      show ((j : Int), upI _ _ _ j) ∈ _
      unfold upI
      by_cases e : j = i
      · rw [if_pos e, e]; simp
      · rw [if_neg e]
        rw [decide_eq_false e, Bool.or_false] at hb2
        exact List.mem_append_left _ (h.has j hj hb2)
    · rcases List.mem_append.1 hz with hz | hz
      · obtain ⟨j, h1, h2, h3, h4⟩ := h.giv z hz
        refine ⟨j, h1, h2, h3, ?_⟩
        show z.2 ≤ upI _ _ _ j
        unfold upI
        split
        · rename_i e; rw [e] at h4; omega
        · exact h4
      · simp only [List.mem_cons, List.not_mem_nil, or_false] at hz
        refine ⟨i, hlt, by rw [hz], by rw [hz]; show (1 : Int) ≤ _ + 1; omega, ?_⟩
        show z.2 ≤ upI _ _ _ i
        unfold upI
        rw [if_pos rfl, hz]
        exact Int.le_refl _
    · show 0 ≤ upI _ _ _ j ∧ upI _ _ _ j ≤ _
      unfold upI
      have := h.gen j hj
      split <;> omega
    · rcases List.mem_append.1 hz with hz | hz
      · exact List.mem_append_left _ (h.sub z hz)
      · exact List.mem_append_right _ hz
  · rw [hH] at hg
    obtain ⟨j, h1, h2, h3, h4⟩ := h.giv _ hg
    have h2 : (i : Int) = j := h2
    have h4 : t.s.G i + 1 ≤ t.s.G j := h4
    have : i = j := by omega
    rw [this] at h4
    omega
theorem clrX_bit {x : Int} {i j : Nat} (hi : i < 64) (hx : 0 ≤ x ∧ x < 18446744073709551616) : (clrX x (i : Int)).toNat.testBit j = (x.toNat.testBit j && decide (j ≠ i)) := by
  unfold clrX
  rw [Int.toNat_natCast, Int.toNat_natCast]
  by_cases hj : j < 64
  · exact clrN_bit hi hj
  · have h1 : x.toNat.testBit j = false := Nat.testBit_lt_two_pow (Nat.lt_of_lt_of_le (show x.toNat < 2 ^ 64 by omega) (Nat.pow_le_pow_right (by omega) (by omega)))
    rw [h1, clrN_hi h1]; rfl
theorem TdI.free {n r : Nat} {t : TdS} (h : TdI n r t) {k : Nat} (hk : k < t.live.length) : TdI n r ⟨frS t.s (t.live.getD k (0, 0)).1 (t.live.getD k (0, 0)).2, t.live.eraseIdx k, t.given⟩ ∧ hasI t.s (t.live.getD k (0, 0)).1 (t.live.getD k (0, 0)).2 = true := by
  have hz : t.live[k]? = some (t.live.getD k (0, 0)) := by rw [List.getD_eq_getElem?_getD, List.getElem?_eq_getElem hk]; rfl
  obtain ⟨i, h1, h2, h3⟩ := h.liv _ (List.mem_of_getElem? hz)
  rw [h2] at hz ⊢
  have hn := h.sn
  have hn1 := h.n1
  have hhas : hasI t.s i (t.s.G i) = true := by
    unfold hasI atOk
    rw [hn, Int.toNat_natCast, h3, decide_eq_true (by omega)]
    simp
  refine ⟨?_, hhas⟩
  have hS : frS t.s i (t.s.G i) = ⟨clrX t.s.x i, t.s.n, t.s.G, t.s.tl⟩ := by unfold frS; rw [if_pos hhas]
  show TdI n r ⟨frS t.s (i : Int) (t.s.G i), _, _⟩
  rw [hS]
  have hbit : ∀ j, (clrX t.s.x (i : Int)).toNat.testBit j = (t.s.x.toNat.testBit j && decide (j ≠ i)) := fun j => clrX_bit (by omega) h.x0
  have hmem : ∀ z, z ∈ t.live.eraseIdx k → z ∈ t.live ∧ z.1 ≠ i := fun z hz2 => by
    obtain ⟨q, hq, hq2⟩ := List.mem_eraseIdx_iff_getElem?.1 hz2
    refine ⟨List.mem_of_getElem? hq2, fun e => ?_⟩
    have hp := List.pairwise_iff_getElem.1 h.nod
    obtain ⟨q1, q2⟩ := List.getElem?_eq_some_iff.1 hq2
    obtain ⟨k1, k2⟩ := List.getElem?_eq_some_iff.1 hz
    rcases Nat.lt_or_gt_of_ne hq with h5 | h5
    · have := hp q k q1 k1 h5
      rw [q2, k2] at this
      exact this e
    · have := hp k q k1 q1 h5
      rw [q2, k2] at this
      exact this e.symm
  have hback : ∀ z, z ∈ t.live → z.1 ≠ i → z ∈ t.live.eraseIdx k := fun z hz2 hne => by
    obtain ⟨q, hq⟩ := List.mem_iff_getElem?.1 hz2
    refine List.mem_eraseIdx_iff_getElem?.2 ⟨q, fun e => ?_, hq⟩
    rw [e, hz] at hq
    cases hq
    exact hne rfl
  refine ⟨hn, hn1, ⟨?_, ?_⟩, fun j hj => ?_, ?_, fun z hz2 => ?_, ?_, fun j hj hb2 => ?_, h.giv, h.gen, fun z hz2 => h.sub z (hmem z hz2).1, h.gl⟩
  · show (0 : Int) ≤ clrX _ _
    unfold clrX; omega
  · show clrX _ _ < _
    unfold clrX
    have := h.x0
    have := clrN_lt (a := t.s.x.toNat) (k := 2 ^ (i : Int).toNat) (by omega)
    omega
  · show (clrX _ _).toNat.testBit j = false
    rw [hbit, h.hi j hj]; rfl
  · show (t.live.eraseIdx k).length = cntB (clrX _ _).toNat.testBit n
    have h4 := cntB_add1 (T := (clrX t.s.x (i : Int)).toNat.testBit) (T' := t.s.x.toNat.testBit) h1 (by rw [hbit]; simp) h3 (fun j hj => by rw [hbit, decide_eq_true hj, Bool.and_true])
    rw [List.length_eraseIdx_of_lt hk, h.cnt, h4]
    rfl
  · obtain ⟨m1, m2⟩ := hmem z hz2
    obtain ⟨j, j1, j2, j3⟩ := h.liv z m1
    refine ⟨j, j1, j2, ?_⟩
    show (clrX _ _).toNat.testBit j = true
    rw [hbit, j3, decide_eq_true (by rintro rfl; exact m2 (by rw [j2]))]
    rfl
  · exact h.nod.sublist (List.eraseIdx_sublist _ _)
  · have hb2 : (clrX t.s.x (i : Int)).toNat.testBit j = true := hb2
    rw [hbit, Bool.and_eq_true, decide_eq_true_iff] at hb2
    exact hback _ (h.has j hj hb2.1) (by show (j : Int) ≠ i; omega)
theorem TdI.more {n r : Nat} {t : TdS} (h : TdI n r t) : TdI n (r + 1) t := ⟨h.sn, h.n1, h.x0, h.hi, h.cnt, h.liv, h.nod, h.has, h.giv, fun i hi => by have := h.gen i hi; omega, h.sub, Nat.le_succ_of_le h.gl⟩
theorem TdI.step {n r : Nat} {t : TdS} (h : TdI n r t) (hr : r < 2147483647) (k : Nat) : TdI n (r + 1) (tdStep n t k) := by
  unfold tdStep
  split
  · rename_i hc
    have hl : 0 < t.live.length := List.length_pos_iff.2 hc.2
    exact (h.free (Nat.mod_lt _ hl)).1.more
  · split
    · exact h.more
    · rename_i hl
      exact (h.take hr hl).1
def td0 (n : Nat) : TdS := ⟨⟨0, n, fun _ => 0, noRows⟩, [], []⟩
theorem cntB_zero {n : Nat} : cntB (Int.toNat 0).testBit n = 0 := by
  induction n with
  | zero => rfl
  | succ n ih => simp only [cntB, ih]; simp
theorem TdI.init {n : Nat} (h : 1 ≤ n ∧ n ≤ 64) : TdI n 0 (td0 n) := by
  refine ⟨rfl, h, ⟨Int.le_refl 0, by show (0 : Int) < _; omega⟩, fun j _ => ?_, ?_, fun z hz => (by cases hz), List.Pairwise.nil, fun i _ hb => ?_, fun z hz => (by cases hz), fun i _ => ⟨Int.le_refl 0, Int.le_refl 0⟩, fun z hz => (by cases hz), Nat.le_refl 0⟩
  · show (Int.toNat 0).testBit j = false
    simp
  · exact cntB_zero.symm
  · have hb : (Int.toNat 0).testBit i = true := hb
    simp at hb
def tdRun (n : Nat) (ks : List Nat) : TdS := ks.foldl (tdStep n) (td0 n)
theorem TdI.run {n : Nat} (h : 1 ≤ n ∧ n ≤ 64) (ks : List Nat) : ks.length < 2147483647 → TdI n ks.length (tdRun n ks) := by
  have main : ∀ (ks : List Nat) (r : Nat) (t : TdS), TdI n r t → r + ks.length < 2147483647 → TdI n (r + ks.length) (ks.foldl (tdStep n) t) := fun ks => by
    induction ks with
    | nil => exact fun r t ht _ => ht
    | cons k ks ih =>
      intro r t ht hr
      rw [List.length_cons] at hr ⊢
      have := ih (r + 1) _ (ht.step (by omega) k) (by omega)
      rw [show r + (ks.length + 1) = r + 1 + ks.length by omega]
      exact this
  intro hl
  have := main ks 0 (td0 n) (.init h) (by omega)
  rw [Nat.zero_add] at this
  exact this
end Go.Ax
end

section
/-
  What the laws' sweeps are made of: boxes of numbers.
-/
set_option linter.unusedVariables false
set_option linter.unusedSimpArgs false
set_option maxHeartbeats 4000000
set_option maxRecDepth 100000
namespace Go.Ax
open Go.Proofs
theorem modI_in {n m : Int} (hm : 0 < m) : 0 ≤ modS n m ∧ modS n m < m := by
  unfold modS
  have h1 := Int.tmod_lt_of_pos n hm
  have h2 := Int.lt_tmod_of_pos n hm
  split <;> omega
end Go.Ax
end

section
/-
  The laws' sweeps: put.
-/
set_option linter.unusedVariables false
set_option linter.unusedSimpArgs false
set_option maxHeartbeats 4000000
set_option maxRecDepth 100000
namespace Go.Ax
open Go.Proofs
/-- Boxes that are valid, one an element. -/
def bxOK (n : Nat) (g : Nat → List AV) : Prop := ∀ i, i < n → g i = [i64 (gx g 0 i), i64 (gx g 1 i), i64 (gx g 2 i), i64 (gx g 3 i)] ∧ checkBoxS (gx g 0 i) (gx g 1 i) (gx g 2 i) (gx g 3 i) = 0
def bxI (g : Nat → List AV) (i : Nat) : List Int := [gx g 0 i, gx g 1 i, gx g 2 i, gx g 3 i]
/-- What has been put after i of n, from the first one on or from the last one on. -/
def ptAt (n : Nat) (last : Bool) (i : Nat) : Nat := if last = true then n - 1 - i else i
def ptL (n : Nat) (last : Bool) (B : Nat → List Int) : Nat → Ents
  | 0 => []
  | i + 1 => ptL n last B i ++ [((ptAt n last i : Int), B (ptAt n last i))]
noncomputable def F14 : List AV → Option (List Prop × (Nat → AV) × (Nat → Option Fam))
  | [.ro n 4 g, .v (.bool last)] => some ([n ≤ 256, bxOK n g], fun k => .bx k 0, fun k => some (swF k ⟨ptL n last (bxI g) n, noRows⟩))
  | _ => none
noncomputable def mN14 : MCon := mcKU F14
theorem mN14_eq : mN14 = mcKU F14 := (rfl)
attribute [go_sem] mN14_eq
end Go.Ax
end

section
/-
  The laws' tables: told.
-/
set_option linter.unusedVariables false
set_option linter.unusedSimpArgs false
set_option maxHeartbeats 4000000
set_option maxRecDepth 100000
namespace Go.Ax
open Go.Proofs
/-- What a number says. -/
def tdK (X : Nat → Int) (i : Nat) : Nat := (modS (X i) 1048576).toNat
def tdN (most : Int) : Nat := (1 + modS most 64).toNat
def tdAt (n : Nat) (X : Nat → Int) : Nat → TdS
  | 0 => td0 n
  | i + 1 => tdStep n (tdAt n X i) (tdK X i)
def c38g (z : Int × Int) : Option (List Prop × Nat × (Nat → Int × Int)) → Option (List Prop × AV)
  | some (ob, n, X) => some (c38f n X z ob)
  | none => none
theorem c38_eq {a : AV} {z1 z2 : Int} : c38 [a, .agg [i64 z1, i64 z2]] = c38g (z1, z2) (roP a) := by
  show (match roP a with
    | some (ob, n, X) => some (c38f n X (z1, z2) ob)
    | none => none) = _
  unfold c38g
  cases roP a <;> rfl
theorem c38g_some {z : Int × Int} {ob : List Prop} {n : Nat} {X : Nat → Int × Int} : c38g z (some (ob, n, X)) = some ((n ≤ 100000) :: ob, bo (decide (z ∈ lP n X))) := (rfl)
attribute [go_sem] c38_eq c38g_some
abbrev tdA (K : Nat) (t : TdS) : AV := .agg [.bx K 0, .own K 2 t.live.length 2, .own K 3 t.given.length 2, bo true]
def tdF (K : Nat) (t : TdS) : Fam := slF K { t.s with tl := famR [⟨t.live.length, 2, 64, lsF t.live, none⟩, ⟨t.given.length, 2, 64, lsF t.given, none⟩] noRows }
def F34f (most : Int) : Option (List Prop × Nat × (Nat → Int)) → Option (List Prop × (Nat → AV) × (Nat → Option Fam))
  | some (ob, k, X) => some ((k ≤ 1000) :: inR most :: (∀ i, inR (X i)) :: ob, fun K => tdA K (tdAt (tdN most) X k), fun K => some (tdF K (tdAt (tdN most) X k)))
  | none => none
def F34 : List AV → Option (List Prop × (Nat → AV) × (Nat → Option Fam))
  | [.v (.int .i64 most), nums] => F34f most (roI nums)
  | _ => none
noncomputable def mN34 : MCon := mcKU F34
theorem mN34_eq : mN34 = mcKU F34 := (rfl)
attribute [go_sem] mN34_eq
end Go.Ax
end

section
/-
  The laws' tables: what is in them.
-/
set_option linter.unusedVariables false
set_option linter.unusedSimpArgs false
set_option maxHeartbeats 4000000
set_option maxRecDepth 100000
namespace Go.Ax
open Go.Proofs
theorem F34_eq {most : Int} {n : Nat} {g : Nat → List AV} : F34 [i64 most, .ro n 1 g] = some ((n ≤ 1000) :: inR most :: (∀ i, inR (gx g 0 i)) :: [ints n g], fun K => tdA K (tdAt (tdN most) (gx g 0) n), fun K => some (tdF K (tdAt (tdN most) (gx g 0) n))) := (rfl)
theorem tdF_eq {K : Nat} {t : TdS} : tdF K t = famR [⟨1, 2, 100, fun _ => [u64 t.s.x, .own K 1 t.s.n 1], none⟩, ⟨t.s.n, 1, 3, fun i => [i64 (t.s.G i)], none⟩] (famR [⟨t.live.length, 2, 64, lsF t.live, none⟩, ⟨t.given.length, 2, 64, lsF t.given, none⟩] noRows) := (rfl)
theorem famNK_td {K : Nat} {t : TdS} : famNK K (tdF K t) = True := eq_true fun f j hj c hc => by
  match f with
  | 0 =>
    have hc : c ∈ [u64 t.s.x, .own K 1 t.s.n 1] := hc
    simp only [List.mem_cons, List.not_mem_nil, or_false] at hc
    rcases hc with rfl | rfl
    · trivial
    · rfl
  | 1 =>
    have hc : c ∈ [i64 (t.s.G j)] := hc
    simp only [List.mem_cons, List.not_mem_nil, or_false] at hc
    subst hc; trivial
  | 2 =>
    have hc : c ∈ lsF t.live j := hc
    simp only [lsF, List.mem_cons, List.not_mem_nil, or_false] at hc
    rcases hc with rfl | rfl <;> trivial
  | 3 =>
    have hc : c ∈ lsF t.given j := hc
    simp only [lsF, List.mem_cons, List.not_mem_nil, or_false] at hc
    rcases hc with rfl | rfl <;> trivial
  | f + 4 => have hj : j < 0 := hj; omega
theorem famNK_td' {K : Nat} {t : TdS} : famNK K (famR [⟨1, 2, 100, fun _ => [u64 t.s.x, .own K 1 t.s.n 1], none⟩, ⟨t.s.n, 1, 3, fun i => [i64 (t.s.G i)], none⟩] (famR [⟨t.live.length, 2, 64, lsF t.live, none⟩, ⟨t.given.length, 2, 64, lsF t.given, none⟩] noRows)) = True := famNK_td
theorem tlOK_td {t : TdS} : tlOK (famR [⟨t.live.length, 2, 64, lsF t.live, none⟩, ⟨t.given.length, 2, 64, lsF t.given, none⟩] noRows) = True := eq_true fun f => match f with
  | 0 => ⟨rfl, fun j hj c hc => by
    have hc : c ∈ lsF t.live j := hc
    simp only [lsF, List.mem_cons, List.not_mem_nil, or_false] at hc
    rcases hc with rfl | rfl <;> rfl⟩
  | 1 => ⟨rfl, fun j hj c hc => by
    have hc : c ∈ lsF t.given j := hc
    simp only [lsF, List.mem_cons, List.not_mem_nil, or_false] at hc
    rcases hc with rfl | rfl <;> rfl⟩
  | f + 2 => ⟨rfl, fun j hj => by have hj : j < 0 := hj; omega⟩
theorem c15_eq : c15 [] = some ([], bo true) := (rfl)
attribute [go_sem] F34_eq tdF_eq famNK_td' tlOK_td c15_eq
/-! ### What is in the list of all handles -/
theorem cntB_up {T : Nat → Bool} {n : Nat} (h : ∀ j, n ≤ j → T j = false) : ∀ m, n ≤ m → cntB T m = cntB T n
  | 0, hm => by rw [show n = 0 by omega]
  | m + 1, hm => by
    by_cases e : n = m + 1
    · rw [e]
    · simp only [cntB]
      rw [if_neg (by rw [h m (by omega)]; decide), cntB_up h m (by omega)]; omega
theorem atOk_nat {x : Int} {n j : Nat} (hj : j < n) : atOk x n (j : Int) = x.toNat.testBit j := by
  unfold atOk
  rw [decide_eq_true (by omega), Bool.true_and, Int.toNat_natCast]
theorem allL_len {x : Int} {n : Nat} {X : Nat → Int} : ∀ i, i ≤ n → (allL x n X i).length = cntB x.toNat.testBit i
  | 0, _ => rfl
  | i + 1, hi => by
    rw [allL, List.length_append, allL_len i (by omega), atOk_nat (by omega)]
    simp only [cntB]
    by_cases hb : x.toNat.testBit i = true
    · rw [if_pos hb, if_pos hb]; rfl
    · rw [if_neg hb, if_neg hb]; rfl
end Go.Ax
end

section
/-
  The laws' tables: Copy, Take, Free.
-/
set_option linter.unusedVariables false
set_option linter.unusedSimpArgs false
set_option maxHeartbeats 4000000
set_option maxRecDepth 100000
namespace Go.Ax
open Go.Proofs
theorem F42_eq {x : Int} {n : Nat} {g : Nat → List AV} : F42 [.rop [u64 x, .ro n 1 g]] = some ([0 < n, n ≤ 64, ints n g], fun k => .bx k 0, fun k => some (slF k ⟨x, n, gx g 0, noRows⟩)) := (rfl)
theorem c43_eq {a b : AV} : c43 [a, b] = c43f (roP a) (roP b) := (rfl)
theorem c43f_some {o1 o2 : List Prop} {n m : Nat} {X Y : Nat → Int × Int} : c43f (some (o1, n, X)) (some (o2, m, Y)) = some ((n ≤ 100000) :: (o1 ++ o2), bo (decide (lP n X = lP m Y))) := (rfl)
theorem famNK_S' {key : Nat} {x : Int} {n : Nat} {X : Nat → Int} : famNK key (famR [⟨1, 2, 100, fun _ => [u64 x, .own key 1 n 1], none⟩, ⟨n, 1, 3, fun i => [i64 (X i)], none⟩] noRows) = True := famNK_S
theorem famR_n2 {x y z : Row} {l : List Row} {T0 : Fam} : famR [x, y] (famR (z :: l) T0) 2 = z := (rfl)
theorem famR_n3 {x y z u : Row} {l : List Row} {T0 : Fam} : famR [x, y] (famR (z :: u :: l) T0) 3 = u := (rfl)
attribute [go_sem] famR_n2 famR_n3 F42_eq c43_eq c43f_some famNK_S' tlOK_no
theorem tkS_t {s : SlS} : (tkS s).tl = s.tl := by unfold tkS; split <;> rfl
theorem frS_t {s : SlS} {a g : Int} : (frS s a g).tl = s.tl := by unfold frS; split <;> rfl
theorem slOK_tk {s : SlS} (h : slOK s) : slOK (tkS s) := by
  obtain ⟨⟨h0, h1⟩, ⟨h2, h3⟩, h4⟩ := h
  have hle : tkI s ≤ s.n := lst_le s.n
  unfold tkS
  split
  · rename_i hlt
    refine ⟨⟨?_, ?_⟩, ⟨h2, h3⟩, fun i hi => ?_⟩
    · show 0 ≤ setX _ _
      unfold setX; omega
    · show setX _ _ < _
      unfold setX
      have := setN_lt (a := s.x.toNat) (k := tkI s) (by omega) (by omega)
      rw [Int.toNat_natCast]; omega
    · show 0 ≤ upI _ _ _ i
      unfold upI
      have := h4 i hi
      have := h4 _ hlt
      split <;> omega
  · exact ⟨⟨h0, h1⟩, ⟨h2, h3⟩, h4⟩
theorem slOK_fr {s : SlS} {a g : Int} (h : slOK s) : slOK (frS s a g) := by
  obtain ⟨⟨h0, h1⟩, ⟨h2, h3⟩, h4⟩ := h
  unfold frS
  split
  · refine ⟨⟨?_, ?_⟩, ⟨h2, h3⟩, h4⟩
    · show 0 ≤ clrX _ _
      unfold clrX; omega
    · show clrX _ _ < _
      unfold clrX
      have := clrN_lt (a := s.x.toNat) (k := 2 ^ a.toNat) (by omega)
      omega
  · exact ⟨⟨h0, h1⟩, ⟨h2, h3⟩, h4⟩
end Go.Ax
end

section
/-
  A table of the program's against the reference's: alike.
-/
set_option linter.unusedVariables false
set_option linter.unusedSimpArgs false
set_option maxHeartbeats 4000000
set_option maxRecDepth 100000
namespace Go.Ax
open Go.Proofs
/-- The reference's table is ars the program's. -/
structure Alk (s : SlS) (r : RtS) : Prop where
  ok : slOK s
  n : r.n = s.n
  hi : ∀ j, s.n ≤ j → s.x.toNat.testBit j = false
  bit : ∀ j, j < s.n → r.T j = s.x.toNat.testBit j
  gen : ∀ j, j < s.n → r.G j = s.G j
  ts : s.tl = noRows
  tr : r.tl = noRows
theorem lst_congr {p q : Nat → Bool} : ∀ {n}, (∀ j, j < n → p j = q j) → lst p n = lst q n
  | 0, _ => rfl
  | n + 1, h => by
    unfold lst
    rw [lst_congr (n := n) fun j hj => h j (by omega), h n (by omega)]
theorem Alk.tkJ {s : SlS} {r : RtS} (h : Alk s r) : tkJ r = tkI s := by
  unfold Ax.tkJ tkI
  rw [h.n]
  refine lst_congr fun j hj => ?_
  unfold mayR mayT
  rw [h.bit j hj, h.gen j hj]
theorem Alk.tkH {s : SlS} {r : RtS} (h : Alk s r) : rkH r = tkH s := by
  unfold rkH Ax.tkH
  rw [h.tkJ, h.n]
  split
  · rename_i hl
    rw [h.gen _ hl]
  · rfl
theorem Alk.tkE {s : SlS} {r : RtS} (h : Alk s r) : rkE r = tkE s := by
  unfold rkE Ax.tkE
  rw [h.tkJ, h.n]
theorem Alk.tkS {s : SlS} {r : RtS} (h : Alk s r) : Alk (tkS s) (rkS r) := by
  have hsl := slOK_tk h.ok
  unfold rkS
  unfold Ax.tkS at hsl ⊢
  rw [h.tkJ, h.n]
  split
  · rename_i hl
    rw [if_pos hl] at hsl
    have hx := h.ok.1
    refine ⟨hsl, rfl, fun j hj => ?_, fun j hj => ?_, fun j hj => ?_, h.ts, h.tr⟩
    · show (setX _ _).toNat.testBit j = false
      rw [setX_bit, h.hi j hj]
      have hj : s.n ≤ j := hj
      rw [decide_eq_false (by omega)]; rfl
    · show upB r.T (tkI s) true j = (setX _ _).toNat.testBit j
      rw [setX_bit]
      unfold upB
      split
      · rename_i e
        rw [e]; simp
      · rename_i e
        rw [decide_eq_false e, h.bit j hj]; simp
    · show upI r.G (tkI s) (r.G (tkI s) + 1) j = upI s.G (tkI s) (s.G (tkI s) + 1) j
      unfold upI
      rw [h.gen _ hl]
      split
      · rfl
      · exact h.gen j hj
  · exact h
theorem Alk.at {s : SlS} {r : RtS} (h : Alk s r) (a : Int) : rtOk r.n r.T a = atOk s.x s.n a := by
  unfold rtOk atOk
  rw [h.n]
  by_cases hb : 0 ≤ a ∧ a < (s.n : Int)
  · rw [decide_eq_true hb, h.bit a.toNat (by omega)]
  · rw [decide_eq_false hb]; rfl
theorem Alk.has {s : SlS} {r : RtS} (h : Alk s r) (a g : Int) : rsI r a g = hasI s a g := by
  unfold rsI hasI
  rw [h.at]
  cases hb : atOk s.x s.n a with
  | false => rfl
  | true =>
    unfold atOk at hb
    rw [Bool.and_eq_true, decide_eq_true_iff] at hb
    rw [h.gen a.toNat (by omega)]
theorem Alk.frS {s : SlS} {r : RtS} (h : Alk s r) (a g : Int) : Alk (frS s a g) (rrS r a g) := by
  have hsl := slOK_fr (a := a) (g := g) h.ok
  unfold rrS
  unfold Ax.frS at hsl ⊢
  rw [h.has]
  split
  · rename_i hl
    rw [if_pos hl] at hsl
    have hx := h.ok.1
    have hb : 0 ≤ a ∧ a < (s.n : Int) := by
      unfold hasI atOk at hl
      rw [Bool.and_eq_true, Bool.and_eq_true, decide_eq_true_iff] at hl
      exact hl.1.1
    obtain ⟨k, rfl⟩ : ∃ k : Nat, a = k := ⟨a.toNat, by omega⟩
    have hn := h.ok.2.1.2
    have hcb : ∀ q, (clrX s.x (k : Int)).toNat.testBit q = (s.x.toNat.testBit q && decide (q ≠ k)) := fun q => clrX_bit (by omega) hx
    refine ⟨hsl, h.n, fun j hj => ?_, fun j hj => ?_, h.gen, h.ts, h.tr⟩
    · show (clrX _ _).toNat.testBit j = false
      rw [hcb, h.hi j hj]; rfl
    · show upB r.T (Int.toNat (k : Int)) false j = (clrX _ _).toNat.testBit j
      rw [hcb, Int.toNat_natCast]
      unfold upB
      split
      · rename_i e
        rw [e]; simp
      · rename_i e
        have hj : j < s.n := hj
        rw [h.bit j hj, decide_eq_true e]; simp
  · exact h
theorem rtL_all {x : Int} {n : Nat} {X : Nat → Int} : ∀ i, rtL n X (fun j => x.toNat.testBit j) i = allL x n X i
  | 0 => rfl
  | i + 1 => by unfold rtL allL; rw [rtL_all i]; rfl
def c47 : Con
  | [.rop [.v (.int .u64 x), .ro n 1 g], .rop [.ro n1 1 g1, .ro n2 1 h]] => some ([0 ≤ x ∧ x < 18446744073709551616, 0 < n, n ≤ 64, ∀ j, n ≤ j → x.toNat.testBit j = false, n1 = n, n2 = n, ints n g, ints n g1, bools n h, ∀ j, j < n → gx g1 0 j = gx g 0 j, ∀ j, j < n → gz (h j) = x.toNat.testBit j], bo true)
  | _ => none
theorem con47 : ConOK Tryz.prog 47 c47 := ConOK.go (G := [(35, k35), (93, k93), (43, c43), (41, c41), (94, k94), (36, c36), (95, k95), (37, k37), (96, k96), (97, k97), (39, k39), (60, k60), (98, k98)]) (H := []) (.cons con35 (.cons con93 (.cons con43 (.cons con41 (.cons con94 (.cons con36 (.cons con95 (.cons con37 (.cons con96 (.cons con97 (.cons con39 (.cons con60 (.cons con98 .nil))))))))))))) Tryz.func47 fun l ob rr hc hob => by
  unfold c47 at hc
  split at hc
  · rename_i x n g n1 g1 n2 h
    cases hc
    obtain ⟨x0, x1⟩ : 0 ≤ x ∧ x < 18446744073709551616 := hob _ (by simp)
    have hn0 : 0 < n := hob _ (by simp)
    have hn1 : n ≤ 64 := hob _ (by simp)
    have hhi : ∀ j, n ≤ j → x.toNat.testBit j = false := hob _ (by simp)
    obtain rfl : n1 = n := hob _ (by simp)
    obtain rfl : n2 = n1 := hob _ (by simp)
    have i1 : ints n2 g := hob _ (by simp)
    have i2 : ints n2 g1 := hob _ (by simp)
    have i3 : bools n2 h := hob _ (by simp)
    have i4 : ∀ j, j < n2 → gx g1 0 j = gx g 0 j := hob _ (by simp)
    have i5 : ∀ j, j < n2 → gz (h j) = x.toNat.testBit j := hob _ (by simp)
    refine ⟨[slR x n2 (gx g 0), rtR n2 (gx g 0) fun j => x.toNat.testBit j], fun w I vs hR => ?_, by kernel_rfl, fnVC_go (rs := [.tmp 4]) rfl rfl ?_⟩
    · obtain ⟨y, ys, rfl, k1, k2⟩ := hR.inv
      obtain ⟨y2, ys2, rfl, k3, k4⟩ := k2.inv
      refine .cons (R_slots i1 k1) (.cons ?_ k4)
      refine R_ropc (cs := [.ro n2 1 g1, .ro n2 1 h]) rfl (fun k c c' y k1 k2 k3 => ?_) k3
      match k, k1, k2 with
      | 0, k1, k2 => cases k1; cases k2; exact ro_alike (fun i hi => by rw [i2 i hi, i4 i hi]) k3
      | 1, k1, k2 => cases k1; cases k2; exact ro_alike (fun i hi => by rw [i3 i hi, i5 i hi]) k3
      | k + 2, k1, k2 => simp at k1
    obtain ⟨X, hX⟩ : ∃ X, X = gx g 0 := ⟨_, rfl⟩
    rw [← hX]
    clear i1 i2 i3 i4 i5 hob hX
    have hnn : 0 ≤ (n2 : Int) := by omega
    have hx : 0 ≤ x ∧ x < 18446744073709551616 := ⟨x0, x1⟩
    have eL := rtL_all (x := x) (n := n2) (X := X) n2
    have eC : ((cntB x.toNat.testBit 64 : Nat) : Int) = ((allL x n2 X n2).length : Int) := by
      rw [allL_len n2 (Nat.le_refl n2)]
      exact congrArg _ (cntB_up hhi 64 hn1)
    simp only [go_sem, k35, k93, c43, c41, k94, c36, k95, k37, k96, k97, k39, k60, k98, x0, x1, hn0, hn1, F93, F94, F95, F96, F97, F98, F37, F39, F60, F35, eL, eC, ↓forall_eq, bne_self_eq_false, Bool.true_eq_false, false_imp_iff, true_imp_iff, implies_true, and_true, true_and, false_or, or_false, and_self, or_self]
    have hl := allL_le (x := x) (n := n2) (X := X) n2
    refine ⟨by omega, ?_⟩
    refine loopN_go (fun (i : Nat) => i ≤ n2 + 2) (fun i => n2 + 2 - i) (fun i => [(5, i64 ((i : Int) - 1))]) (fun i => []) [] [31, 32, 33, 34, 38, 39, 40, 37, 41, 42, 6, 7, 44, 45, 46, 43, 47, 48, 8, 9, 49, 50, 51, 52, 53, 10, 54, 55, 56, 57, 58, 59, 60, 61, 62, 63, 64, 65, 66, 67, 68, 69, 70, 71, 72, 73, 74, 75, 76, 77, 78, 79, 4, 80, 81, 82, 83, 84, 85, 86, 87, 88, 89, 90, 4, 35, 36, 5] 0 0 (by kernel_rfl) (Nat.zero_le _) ⟨[], ?_, ?_, ?_, ?_⟩ ?_
    · simp only [go_sem]; rfl
    · simp only [go_sem]
    · simp only [go_sem]
    · simp [goodNames, asg]
    intro i hi
    have eA : rtOk n2 (fun j => x.toNat.testBit j) ((i : Int) - 1) = atOk x n2 ((i : Int) - 1) := rfl
    simp only [go_sem, k35, k93, c43, c41, k94, c36, k95, k37, k96, k97, k39, k60, k98, x0, x1, hn0, hn1, F93, F94, F95, F96, F97, F98, F37, F39, F60, F35, eA, ↓forall_eq, bne_self_eq_false, Bool.true_eq_false, false_imp_iff, true_imp_iff, implies_true, and_true, true_and, false_or, or_false, and_self, or_self]
    intro h
    simp only [beq_self_eq_true, Bool.and_self, Bool.true_eq_false, or_self, false_imp_iff, true_imp_iff, true_and, and_self, implies_true]
    exact ⟨i + 1, by omega, by omega, [], by rw [wrap_in (by unfold inR; omega)]; omega, by simp [goodNames, asg]⟩
  · cases hc
end Go.Ax
end

section
/-
  A table of the program's against the reference's: acts.
-/
set_option linter.unusedVariables false
set_option linter.unusedSimpArgs false
set_option maxHeartbeats 4000000
set_option maxRecDepth 100000
namespace Go.Ax
open Go.Proofs
section
variable {P : Program} {G : Ctx} {H : Hots} {f : FuncId} {fn : Func} {X Y : Type} {O : Obj X} {Q : Obj Y}
/-- A contract of a function that uses two objects up. -/
def mcDf (O : Obj X) (Q : Obj Y) (K K' : Nat) (x : X) (y : Y) : Option (List Prop × AV) → Option Eff
  | some (ob, v) => some ⟨(K ≠ K') :: O.ok x :: Q.ok y :: ob, v, .many [(K, dead), (K', dead)] none⟩
  | none => none
noncomputable def mcDe (O : Obj X) (Q : Obj Y) (F : X → Y → List AV → Option (List Prop × AV)) (K K' : Nat) (rest : List AV) : Option Fam → Option Fam → Option Eff
  | some a, some b => match O.dec K a, Q.dec K' b with
    | some x, some y => mcDf O Q K K' x y (F x y rest)
    | _, _ => none
  | _, _ => none
noncomputable def mcD (O : Obj X) (Q : Obj Y) (F : X → Y → List AV → Option (List Prop × AV)) : MCon := fun key m es => match es with
  | .bx K 0 :: .bx K' 0 :: rest => mcDe O Q F K K' rest (look m K) (look m K')
  | _ => none
theorem mcD_eq {F : X → Y → List AV → Option (List Prop × AV)} {K K' key : Nat} {m : Mem} {rest : List AV} : mcD O Q F key m (.bx K 0 :: .bx K' 0 :: rest) = mcDe O Q F K K' rest (look m K) (look m K') := (rfl)
theorem mcDe_fm {F : X → Y → List AV → Option (List Prop × AV)} {K K' : Nat} {rest : List AV} {x : X} {y : Y} : mcDe O Q F K K' rest (some (O.fm K x)) (some (Q.fm K' y)) = mcDf O Q K K' x y (F x y rest) := by
  unfold mcDe
  dsimp only
  rw [Obj.dec_fm, Obj.dec_fm]
theorem mcDf_some {K K' : Nat} {x : X} {y : Y} {ob : List Prop} {v : AV} : mcDf O Q K K' x y (some (ob, v)) = some ⟨(K ≠ K') :: O.ok x :: Q.ok y :: ob, v, .many [(K, dead), (K', dead)] none⟩ := (rfl)
def DOK (P : Program) (G : Ctx) (H : Hots) (fn : Func) (O : Obj X) (Q : Obj Y) (F : X → Y → List AV → Option (List Prop × AV)) : Prop :=
  ∀ x y rest ob v, F x y rest = some (ob, v) → O.ok x → Q.ok y → (∀ p ∈ ob, p) → clean 3 v = true ∧ (∀ a ∈ rest, clean 3 a = true) ∧ funcOK P H fn (rest.length + 2) = true ∧
    bodyM P G H fn (.bx 0 0 :: .bx 1 0 :: rest) [(1, Q.fm 1 y), (0, O.fm 0 x)] 2 fun a _ => a = v
theorem MConOK.mcD (hG : CtxOK P G) (hf : P.funcs[f]? = some fn) {F : X → Y → List AV → Option (List Prop × AV)} (h : DOK P G H fn O Q F) : MConOK P f (mcD O Q F) := by
  refine MConOK.of (H := H) hG hf fun key m es e hc hob => ?_
  unfold Ax.mcD at hc
  split at hc
  · rename_i K K' rest
    unfold mcDe at hc
    split at hc
    · rename_i fa fb hl hl2
      split at hc
      · rename_i x y hx hy
        obtain rfl := Obj.dec_some hx
        obtain rfl := Obj.dec_some hy
        unfold mcDf at hc
        split at hc
        · rename_i ob v hF
          cases hc
          have hne : K ≠ K' := hob _ (by simp)
          have hok : O.ok x := hob _ (by simp)
          have hok' : Q.ok y := hob _ (by simp)
          obtain ⟨hv, h1, h3, h4⟩ := h _ _ _ _ _ hF hok hok' fun p hp => hob p (by simp [hp])
          obtain ⟨a1, a2⟩ := cleans_ren (θ := thE [K, K']) (g := lowG 2) (B := lowB 2) h1
          refine ⟨[K, K'], [(1, Q.fm 1 y), (0, O.fm 0 x)], .bx 0 0 :: .bx 1 0 :: rest, ⟨by simp [hne], by rw [List.map_cons, List.map_cons, a1]; rfl, fun a ha => ?_, fun j hj => ?_, fun q z hq => ?_⟩, h3, h4.mono fun a m1 hN => ?_⟩
          · rcases List.mem_cons.1 ha with rfl | ha
            · exact (by show (0 : Nat) < 2; omega)
            · rcases List.mem_cons.1 ha with rfl | ha
              · exact (by show (1 : Nat) < 2; omega)
              · exact a2 a ha
          · match j, hj with
            | 0, _ => exact ⟨_, _, (by simp [look]), hl, fun f => ⟨O.gn _ _ hok _, O.ren x hok _ _ _ 0 K (fun _ => rfl) (fun _ => (by show (0 : Nat) < 2; omega)) f⟩⟩
            | 1, _ => exact ⟨_, _, (by simp [look]), hl2, fun f => ⟨Q.gn _ _ hok' _, Q.ren y hok' _ _ _ 1 K' (fun _ => rfl) (fun _ => (by show (1 : Nat) < 2; omega)) f⟩⟩
            | j + 2, hj => simp at hj; omega
          · by_cases e : q = 0
            · subst e; simp
            · by_cases e1 : q = 1
              · subst e1; simp
              · simp [look, Ne.symm e, Ne.symm e1] at hq
          · subst hN
            obtain ⟨k1, k2⟩ := clean_ren (θ := thL [K, K'] key fun _ _ => 0) (g := newG 2 (fun _ => none) fun _ _ => 0) (B := newB 2 fun _ => none) 3 a hv
            refine ⟨fun _ => none, fun _ _ => 0, [dead, dead], none, rfl, ⟨fun f r g h => by simp at h, k1.symm, k2, rfl, fun j hj => .inl ?_, fun _ => rfl⟩⟩
            match j, hj with
            | 0, _ => rfl
            | 1, _ => rfl
            | j + 2, hj => simp at hj; omega
        · cases hc
      · cases hc
    · cases hc
  · cases hc
end
/-- Families that stand for others. -/
def thK (l : Names) : Alias := fun r f => match asg l r with
  | some k => some (k, f)
  | none => none
theorem asg_off {l : Names} {r : Nat} (h : ∀ p ∈ l, p.1 ≠ r) : asg l r = some r := by
  induction l with
  | nil => rfl
  | cons p l ih =>
    obtain ⟨k, x⟩ := p
    unfold asg
    rw [if_neg (h (k, x) (by simp)), ih fun q hq => h q (by simp [hq])]
theorem goodA_K {N k : Nat} {l : Names} {rows : Mem} {keep : List Nat} (h1 : ∀ p ∈ l, N ≤ p.1) (h2 : ∀ e ∈ rows, e.1 < N + k) (h3 : ∀ a ∈ rows.map (·.1) ++ keep, ∀ b ∈ rows.map (·.1) ++ keep, ∀ q, asg l a = some q → asg l b = some q → a = b) : goodA N k (thK l) rows keep := by
  refine ⟨fun r f hr => ?_, h2, fun r f r' f' q g hr hr' e e' => ?_⟩
  · unfold thK
    rw [asg_off fun p hp e => by have := h1 p hp; omega]
  · unfold thK at e e'
    split at e
    · rename_i a ha
      split at e'
      · rename_i b hb
        cases e; cases e'
        exact ⟨h3 r (by simpa using hr) r' (by simpa using hr') _ ha hb, rfl⟩
      · cases e'
    · cases e
theorem fitA_row {N M : Nat} {l : Names} {K K' : Nat} {m : Mem} {x y : Fam} (h1 : asg l K = some K') (h2 : look m K' = some y) (h3 : ∀ f, fitRowA N M (thK l) (x f) (y f)) : ∀ f, match thK l K f with
    | some (k, g) => ∃ y, look m k = some y ∧ fitRowA N M (thK l) (x f) (y g)
    | none => (x f).n = 0 ∧ (x f).g = none := fun f => by
  unfold thK
  rw [h1]
  exact ⟨y, h2, h3 f⟩
theorem fitA_sl {N M : Nat} {l : Names} {K K' : Nat} {m : Mem} {s : SlS} (hM : K < M) (ht : s.tl = noRows) (h1 : asg l K = some K') (h2 : look m K' = some (slF K' s)) : ∀ f, match thK l K f with
    | some (k, g) => ∃ y, look m k = some y ∧ fitRowA N M (thK l) (slF K s f) (y g)
    | none => (slF K s f).n = 0 ∧ (slF K s f).g = none := by
  have e : ∀ f, thK l K f = some (K', f) := fun f => by unfold thK; rw [h1]
  refine fitA_row h1 h2 fun f => ?_
  obtain ⟨x, n, G, tl⟩ := s
  obtain rfl : tl = noRows := ht
  match f with
  | 0 => exact ⟨rfl, rfl, rfl, rfl, rfl, fun j _ => ⟨⟨rfl, trivial⟩, ⟨hM, by rw [e]⟩, trivial⟩⟩
  | 1 => exact ⟨rfl, rfl, rfl, rfl, rfl, fun j _ => ⟨⟨rfl, trivial⟩, trivial⟩⟩
  | f + 2 => exact ⟨rfl, rfl, rfl, rfl, rfl, fun j hj => by have hj : j < 0 := hj; omega⟩
theorem fitA_rt {N M : Nat} {l : Names} {K K' : Nat} {m : Mem} {s : RtS} (hM : K < M) (ht : s.tl = noRows) (h1 : asg l K = some K') (h2 : look m K' = some (rtF K' s)) : ∀ f, match thK l K f with
    | some (k, g) => ∃ y, look m k = some y ∧ fitRowA N M (thK l) (rtF K s f) (y g)
    | none => (rtF K s f).n = 0 ∧ (rtF K s f).g = none := by
  have e : ∀ f, thK l K f = some (K', f) := fun f => by unfold thK; rw [h1]
  refine fitA_row h1 h2 fun f => ?_
  obtain ⟨n, G, T, tl⟩ := s
  obtain rfl : tl = noRows := ht
  match f with
  | 0 => exact ⟨rfl, rfl, rfl, rfl, rfl, fun j _ => ⟨⟨hM, by rw [e]⟩, ⟨hM, by rw [e]⟩, trivial⟩⟩
  | 1 => exact ⟨rfl, rfl, rfl, rfl, rfl, fun j _ => ⟨⟨rfl, trivial⟩, trivial⟩⟩
  | 2 => exact ⟨rfl, rfl, rfl, rfl, rfl, fun j _ => ⟨⟨rfl, trivial⟩, trivial⟩⟩
  | f + 3 => exact ⟨rfl, rfl, rfl, rfl, rfl, fun j hj => by have hj : j < 0 := hj; omega⟩
theorem fitA_ls {N M : Nat} {l : Names} {K K' n : Nat} {m : Mem} {g : Nat → List AV} {L : List (Int × Int)} (hn : L.length = n) (h1 : asg l K = some K') (h2 : look m K' = some (famN n 2 64 g none)) (h3 : ∀ j, j < n → g j = lsF L j) : ∀ f, match thK l K f with
    | some (k, q) => ∃ y, look m k = some y ∧ fitRowA N M (thK l) (famN L.length 2 64 (lsF L) none f) (y q)
    | none => (famN L.length 2 64 (lsF L) none f).n = 0 ∧ (famN L.length 2 64 (lsF L) none f).g = none := by
  subst hn
  refine fitA_row h1 h2 fun f => ?_
  match f with
  | 0 => exact ⟨rfl, rfl, rfl, rfl, rfl, fun j hj => by rw [show (famN L.length 2 64 g none 0).get j = lsF L j from h3 j hj]; exact ⟨⟨rfl, trivial⟩, ⟨rfl, trivial⟩, trivial⟩⟩
  | f + 1 => exact ⟨rfl, rfl, rfl, rfl, rfl, fun j hj => by have hj : j < 0 := hj; omega⟩
end Go.Ax
end

section
/-
  A writing call under a guard whose value is known goes one way.
-/
set_option linter.unusedVariables false
namespace Go.Ax
open Go.Proofs
section
variable {P : Program} {G : Ctx} {H : Hots} {K0 : AEx → St → Prop} {st : List Fr} {s : St} {hot : Option Hot} {ops : Array Oper} {rest : List Oper} {i j k n sz len key base : Nat} {t : Slots} {m : Mem} {nx : Nat} {d : Option Tmp} {ty : TypeId} {pos : String} {af : Array Edge} {gd : Option (Nat × Bool)} {g : Option Bool} {ρ0 : Operand → AV} {a b : AV} {l : List AV} {cs : List AV}
theorem stepC_Wt {ob : List Prop} {u : Upd} : stepC P G H K0 hot ops d rest i st t m nx (guardW true ob a u) = stepC P G H K0 hot ops d rest i st t m nx (some ⟨ob, condV true a, u⟩) := by
  rw [stepC_W]
  simp
theorem stepC_Wf {ob : List Prop} {u : Upd} : stepC P G H K0 hot ops d rest i st t m nx (guardW false ob a u) = stepC P G H K0 hot ops d rest i st t m nx (some ⟨[], condV false a, .none⟩) := by
  rw [stepC_W]
  simp
end
end Go.Ax
end

section
/-
  A table of the program's against the reference's: plays.
-/
set_option linter.unusedVariables false
set_option linter.unusedSimpArgs false
set_option maxHeartbeats 4000000
set_option maxRecDepth 100000
namespace Go.Ax
open Go.Proofs
/-- Acts, three numbers each. -/
def canT (g : Nat → List AV) : Nat → List AV := fun i => [i64 (gx g 0 i), i64 (gx g 1 i), i64 (gx g 2 i)]
def F48 : SlS → RtS → List AV → Option (List Prop × AV) := fun s r rest => match rest with
  | [.ro k 3 g] => some ([Alk s r, k ≤ 1000, g = canT g, ∀ i, inR (gx g 0 i) ∧ inR (gx g 1 i)], bo true)
  | _ => none
noncomputable def m48 : MCon := mcD oS oR F48
theorem rkS_t {s : RtS} : (rkS s).tl = s.tl := by unfold rkS; split <;> rfl
theorem rrS_t {s : RtS} {a g : Int} : (rrS s a g).tl = s.tl := by unfold rrS; split <;> rfl
theorem Alk.rok {s : SlS} {r : RtS} (h : Alk s r) : rtOK r := by
  refine ⟨by rw [h.n]; exact h.ok.2.1, fun i hi => ?_⟩
  rw [h.n] at hi
  rw [h.gen i hi]
  exact h.ok.2.2 i hi
structure PlS where
  i : Nat
  s : SlS
  r : RtS
  l : SlS
  w : RtS
  g : List (Int × Int)
structure PlI (k : Nat) (p : PlS) : Prop where
  i : p.i ≤ k
  a : Alk p.s p.r
  b : Alk p.l p.w
  g : p.g.length ≤ p.i
abbrev plL (N : Nat) (p : PlS) : Slots := [(10, i64 p.i), (0, .bx N 0), (1, .bx (N + 1) 0), (7, .bx (N + 2) 0), (8, .bx (N + 3) 0), (9, .own (N + 4) 0 p.g.length 2)]
abbrev plR (N : Nat) (p : PlS) : Mem := [(N, slF N p.s), (N + 1, rtF (N + 1) p.r), (N + 2, slF (N + 2) p.l), (N + 3, rtF (N + 3) p.w), (N + 4, famN p.g.length 2 64 (lsF p.g) none)]
def slN (K : Nat) (s : SlS) : Fam := famR [⟨1, 2, 100, fun _ => [u64 s.x, .own K 1 s.n 1], none⟩, ⟨s.n, 1, 3, fun i => [i64 (s.G i)], none⟩] noRows
def rtN (K : Nat) (s : RtS) : Fam := famR [⟨1, 2, 125, fun _ => [.own K 1 s.n 1, .own K 2 s.n 1], none⟩, ⟨s.n, 1, 3, fun i => [i64 (s.G i)], none⟩, ⟨s.n, 1, 4, fun i => [bo (s.T i)], none⟩] noRows
theorem slN_eq {K : Nat} {s : SlS} (h : s.tl = noRows) : slN K s = slF K s := by unfold slN slF; rw [h]
theorem rtN_eq {K : Nat} {s : RtS} (h : s.tl = noRows) : rtN K s = rtF K s := by unfold rtN rtF; rw [h]
theorem plFit {ks kr kl kw kg n : Nat} {W : List Nat} {t : Slots} {m : Mem} {p : PlS} {gg : Nat → List AV} (hA : Alk p.s p.r) (hB : Alk p.l p.w) (hW : 10 ∈ W ∧ 0 ∈ W ∧ 1 ∈ W ∧ 7 ∈ W ∧ 8 ∈ W ∧ 9 ∈ W)
    (t10 : slot t 10 = i64 p.i) (t0 : slot t 0 = .bx ks 0) (t1 : slot t 1 = .bx kr 0) (t7 : slot t 7 = .bx kl 0) (t8 : slot t 8 = .bx kw 0) (t9 : slot t 9 = .own kg 0 n 2) (hn : p.g.length = n)
    (m0 : look m ks = some (slN ks p.s)) (m1 : look m kr = some (rtN kr p.r)) (m2 : look m kl = some (slN kl p.l)) (m3 : look m kw = some (rtN kw p.w)) (m4 : look m kg = some (famN n 2 64 gg none)) (m5 : ∀ j, j < n → gg j = lsF p.g j)
    (hd : [ks, kr, kl, kw, kg].Nodup) : ∃ θ, fitSlotsA 11 16 θ W t (plL 11 p) ∧ fitRowsA 11 16 θ m (plR 11 p) ∧ goodA 11 5 θ (plR 11 p) [] := by
  obtain ⟨w1, w2, w3, w4, w5, w6⟩ := hW
  rw [slN_eq hA.ts] at m0
  rw [rtN_eq hA.tr] at m1
  rw [slN_eq hB.ts] at m2
  rw [rtN_eq hB.tr] at m3
  refine ⟨thK [(11, some ks), (12, some kr), (13, some kl), (14, some kw), (15, some kg)], ?_, ?_, ?_⟩
  · simp [fitSlotsA, fit1A, kb, thK, asg, w1, w2, w3, w4, w5, w6, t10, t0, t1, t7, t8, t9, hn]
  · obtain ⟨l, hl⟩ : ∃ l : Names, l = [(11, some ks), (12, some kr), (13, some kl), (14, some kw), (15, some kg)] := ⟨_, rfl⟩
    have f0 := fitA_sl (N := 11) (M := 16) (l := l) (K := 11) (K' := ks) (m := m) (s := p.s) (by decide) hA.ts (by simp [hl, asg]) m0
    have f1 := fitA_rt (N := 11) (M := 16) (l := l) (K := 12) (K' := kr) (m := m) (s := p.r) (by decide) hA.tr (by simp [hl, asg]) m1
    have f2 := fitA_sl (N := 11) (M := 16) (l := l) (K := 13) (K' := kl) (m := m) (s := p.l) (by decide) hB.ts (by simp [hl, asg]) m2
    have f3 := fitA_rt (N := 11) (M := 16) (l := l) (K := 14) (K' := kw) (m := m) (s := p.w) (by decide) hB.tr (by simp [hl, asg]) m3
    have f4 := fitA_ls (N := 11) (M := 16) (l := l) (K := 15) (K' := kg) (m := m) hn (by simp [hl, asg]) m4 m5
    rw [← hl]
    exact ⟨f0, f1, f2, f3, f4, trivial⟩
  · refine goodA_K (by simp) (by simp) ?_
    simp at hd
    simp [asg]
    omega
theorem mon48 : MConOK Tryz.prog 48 m48 := MConOK.mcD (G := [(42, .wr mN42), (99, .wr mN99), (16, c16), (40, .wr m40), (100, .wr m100), (44, .wr m44), (101, .wr m101), (60, k60), (98, k98), (47, c47)]) (H := [(24, ⟨[(2, .calls 0), (5, .call)], [(4, [.slot 0])]⟩), (27, ⟨[(10, .calls 0), (13, .call)], [(12, [.slot 0])]⟩)]) (.mcons mon42 (.mcons mon99 (.cons con16 (.mcons mon40 (.mcons mon100 (.mcons mon44 (.mcons mon101 (.cons con60 (.cons con98 (.cons con47 .nil)))))))))) Tryz.func48 fun s r rest ob v hF hok hok' hob => by
  unfold F48 at hF
  split at hF
  · rename_i k g
    cases hF
    have hA : Alk s r := hob _ (by simp)
    have hk : k ≤ 1000 := hob _ (by simp)
    have hg : g = canT g := hob _ (by simp)
    have hi : ∀ i, inR (gx g 0 i) ∧ inR (gx g 1 i) := hob _ (by simp)
    refine ⟨rfl, by simp [clean], by kernel_rfl, bodyM_go (rs := [.tmp 6]) rfl rfl ?_⟩
    rw [hg]
    obtain ⟨A, hAe⟩ : ∃ A, A = gx g 0 := ⟨_, rfl⟩
    obtain ⟨B, hBe⟩ : ∃ B, B = gx g 1 := ⟨_, rfl⟩
    obtain ⟨C, hCe⟩ : ∃ C, C = gx g 2 := ⟨_, rfl⟩
    unfold canT
    rw [← hAe, ← hBe, ← hCe]
    rw [← hAe, ← hBe] at hi
    clear hg hAe hBe hCe hob hok hok'
    obtain ⟨x, n, G, tl⟩ := s
    obtain ⟨n', G', T, tl'⟩ := r
    obtain rfl : tl = noRows := hA.ts
    obtain rfl : tl' = noRows := hA.tr
    have hn1 : 0 < n ∧ n ≤ 64 := hA.ok.2.1
    obtain rfl : n' = n := hA.n
    simp only [oS_fm, oR_fm, slF, rtF, go_sem, c16, m40, m100, m44, m101, k60, k98, c47, hn1, F42, F99]
    refine ⟨of_eq_true (famNK_R (key := 6) (n := n') (X := G') (T := T)), ?_⟩
    refine loopA_go (PlI k) (fun p => k - p.i) (plL 11) (plR 11) [] [21, 22, 23, 24, 27, 28, 29, 30, 11, 31, 32, 33, 34, 35, 12, 36, 37, 38, 57, 56, 59, 60, 58, 61, 62, 13, 14, 64, 65, 63, 66, 67, 15, 16, 68, 69, 70, 71, 72, 73, 74, 75, 6, 76, 77, 78, 79, 9, 81, 80, 82, 83, 84, 85, 86, 87, 88, 89, 90, 91, 92, 93, 94, 95, 96, 97, 98, 99, 6, 101, 100, 102, 103, 104, 105, 106, 107, 108, 109, 110, 111, 112, 113, 114, 115, 116, 117, 6, 39, 40, 41, 42, 6, 43, 44, 7, 8, 45, 46, 47, 48, 0, 1, 49, 50, 51, 52, 53, 54, 55, 6, 118, 119, 120, 121, 6, 25, 26, 10] 5 ⟨0, ⟨x, n', G, noRows⟩, ⟨n', G', T, noRows⟩, ⟨x, n', G, noRows⟩, ⟨n', G', T, noRows⟩, []⟩ (by kernel_rfl) ⟨Nat.zero_le _, hA, hA, Nat.le_refl _⟩ ⟨thK [(11, some 0), (12, some 1), (13, some 4), (14, some 6), (15, none)], ?_, ?_, trivial, ?_⟩ ?_
    · simp [fitSlotsA, fit1A, kb, slot, thK, asg]
    · obtain ⟨l, hl⟩ : ∃ l : Names, l = [(11, some 0), (12, some 1), (13, some 4), (14, some 6), (15, none)] := ⟨_, rfl⟩
      rw [← hl]
      refine ⟨fitA_sl (N := 11) (M := 16) (l := l) (K := 11) (K' := 0) (s := ⟨x, n', G, noRows⟩) (by decide) rfl (by simp [hl, asg]) rfl, fitA_rt (N := 11) (M := 16) (l := l) (K := 12) (K' := 1) (s := ⟨n', G', T, noRows⟩) (by decide) rfl (by simp [hl, asg]) rfl, fitA_sl (N := 11) (M := 16) (l := l) (K := 13) (K' := 4) (s := ⟨x, n', G, noRows⟩) (by decide) rfl (by simp [hl, asg]) rfl, fitA_rt (N := 11) (M := 16) (l := l) (K := 14) (K' := 6) (s := ⟨n', G', T, noRows⟩) (by decide) rfl (by simp [hl, asg]) rfl, fun f => ?_, trivial⟩
      have e : thK l 15 f = none := by simp [thK, hl, asg]
      show match thK l 15 f with
        | some (k, g) => _
        | none => _
      rw [e]
      exact fitRow_0 f
    · exact goodA_K (by simp) (by simp) (by simp [asg])
    clear hA hn1
    rintro ⟨i, s, r, l, w, gg⟩ ⟨h1, hA, hB, hgl⟩
    obtain ⟨x, n, G, tl⟩ := s
    obtain ⟨n', G', T, tl'⟩ := r
    obtain rfl : tl = noRows := hA.ts
    obtain rfl : tl' = noRows := hA.tr
    have hn1 : 0 < n ∧ n ≤ 64 := hA.ok.2.1
    obtain rfl : n' = n := hA.n
    obtain ⟨x2, n2, G2, tl2⟩ := l
    obtain ⟨n2', G2', T2, tl2'⟩ := w
    obtain rfl : tl2 = noRows := hB.ts
    obtain rfl : tl2' = noRows := hB.tr
    have hn2 : 0 < n2 ∧ n2 ≤ 64 := hB.ok.2.1
    obtain rfl : n2' = n2 := hB.n
    dsimp only at h1 hgl
    have t0 : tlOK noRows = True := tlOK_no
    have hlg : ∀ j, lsF gg j = [i64 (gg.getD j (0, 0)).1, i64 (gg.getD j (0, 0)).2] := fun _ => rfl
    have hA0 : Alk ⟨x, n', G, noRows⟩ ⟨n', G', T, noRows⟩ := hA
    have o1 := hA0.ok
    have o2 := hA0.rok
    have eH := hA0.tkH
    have eE := hA0.tkE
    have eF := hA0.has
    have eG : ∀ a g, (rtOk n' (fun i => T i) a && (G' a.toNat == g)) = (atOk x n' a && (G a.toNat == g)) := hA0.has
    have hT := hA0.tkS
    have hF := fun a g => hA0.frS a g
    have q1 : (tkS ⟨x, n', G, noRows⟩).tl = noRows := by rw [tkS_t]
    have q2 : (rkS ⟨n', G', T, noRows⟩).tl = noRows := by rw [rkS_t]
    have q3 : ∀ a g, (frS ⟨x, n', G, noRows⟩ a g).tl = noRows := fun a g => by rw [frS_t]
    have q4 : ∀ a g, (rrS ⟨n', G', T, noRows⟩ a g).tl = noRows := fun a g => by rw [rrS_t]
    have a1 := hT.ok.1
    have a2 := hT.ok.2.1
    have a3 := hT.hi
    have a4 := hT.n
    have a5 := hT.gen
    have a6 := hT.bit
    have b1 := fun a g => (hF a g).ok.1
    have b2 := fun a g => (hF a g).ok.2.1
    have b3 := fun a g => (hF a g).hi
    have b4 := fun a g => (hF a g).n
    have b5 := fun a g => (hF a g).gen
    have b6 := fun a g => (hF a g).bit
    simp only [slF, rtF, go_sem, c16, m40, m100, m44, m101, k60, k98, c47, stepC_Wt, stepC_Wf, m40, m44, m100, m101, F40, F44, F60, F98, F100, F101, hn1, hn2, F42, F99, hi, t0, o1, o2, eG, Bool.not_true, Bool.not_false, eH, eE, eF, q1, q2, q3, q4, a1, a2, b1, b2, hlg, ↓forall_eq, bne_self_eq_false, beq_self_eq_true, Bool.and_self, Bool.true_eq_false, Bool.false_eq_true, false_imp_iff, true_imp_iff, implies_true, and_true, true_and, false_or, or_false, and_self, or_self]
    have hb : bytesT Tryz.prog 64 = 16 := by kernel_rfl
    have hx0 := hA.ok.1
    have hgm : ∀ z, 0 < (gg.length : Int) → 0 ≤ modS z gg.length ∧ modS z gg.length < gg.length := fun z h => modI_in h
    have i4 : inR 4 := by unfold inR; omega
    have h10 : i64 (IntKind.i64.wrap ((i : Int) + 1)) = i64 ((i + 1 : Nat) : Int) := by rw [wrap_in (by unfold inR; omega)]; rfl
    have hend : ∀ {W : List Nat} {t : Slots} {m : Mem} (p : PlS), p.i = i + 1 → i < k → Alk p.s p.r → Alk p.l p.w → p.g.length ≤ i + 1 → (∃ θ, fitSlotsA 11 16 θ W t (plL 11 p) ∧ fitRowsA 11 16 θ m (plR 11 p) ∧ goodA 11 5 θ (plR 11 p) []) → ∃ y, PlI k y ∧ k - y.i < k - i ∧ ∃ θ, fitSlotsA 11 16 θ W t (plL 11 y) ∧ fitRowsA 11 16 θ m (plR 11 y) ∧ goodA 11 5 θ (plR 11 y) [] := fun p e1 e2 e3 e4 e5 e6 => ⟨p, ⟨by omega, e3, e4, by omega⟩, by omega, e6⟩
    refine ⟨fun hlt => ⟨by omega, hlt, i4, fun hz => ⟨by rw [hb]; omega, by omega, a3, a4, a4, a5, a6, ?_⟩, fun _ => ⟨fun _ => ⟨fun hg => ⟨hg, by unfold inR; omega, (hgm _ hg).1, (hgm _ hg).2, (by have := hgm (B i) hg; omega), b3 _ _, b4 _ _, b4 _ _, b5 _ _, b6 _ _, ?_⟩, fun _ => ⟨b3 _ _, b4 _ _, b4 _ _, b5 _ _, b6 _ _, ?_⟩⟩, fun _ => ⟨fun _ => ?_, fun _ => ?_⟩⟩⟩, fun hge => ⟨hB.ok.1, hB.hi, hB.gen, hB.bit⟩⟩
    · refine hend ⟨i + 1, _, _, _, _, gg ++ [tkH ⟨x, n', G, noRows⟩]⟩ rfl (by omega) hT hB (by simp; omega) ?_
      exact plFit (ks := 11) (kr := 12) (kl := 13) (kw := 14) (kg := 65) hT hB (by simp) h10 rfl rfl rfl rfl rfl (by simp) rfl rfl rfl rfl rfl (fun j hj => lsF_push hj) (by simp)
    · refine hend ⟨i + 1, frS ⟨x, n', G, noRows⟩ ((gg.getD (modS (B i) gg.length).toNat (0, 0)).1) ((gg.getD (modS (B i) gg.length).toNat (0, 0)).2), rrS ⟨n', G', T, noRows⟩ ((gg.getD (modS (B i) gg.length).toNat (0, 0)).1) ((gg.getD (modS (B i) gg.length).toNat (0, 0)).2), ⟨x2, n2', G2, noRows⟩, ⟨n2', G2', T2, noRows⟩, gg⟩ rfl (by omega) (hF _ _) hB (by show gg.length ≤ i + 1; omega) ?_
      exact plFit (ks := 11) (kr := 12) (kl := 13) (kw := 14) (kg := 15) (hF _ _) hB (by simp) h10 rfl rfl rfl rfl rfl rfl rfl rfl rfl rfl rfl (fun j hj => rfl) (by simp)
    · refine hend ⟨i + 1, frS ⟨x, n', G, noRows⟩ (B i) (C i), rrS ⟨n', G', T, noRows⟩ (B i) (C i), ⟨x2, n2', G2, noRows⟩, ⟨n2', G2', T2, noRows⟩, gg⟩ rfl (by omega) (hF _ _) hB (by show gg.length ≤ i + 1; omega) ?_
      exact plFit (ks := 11) (kr := 12) (kl := 13) (kw := 14) (kg := 15) (hF _ _) hB (by simp) h10 rfl rfl rfl rfl rfl rfl rfl rfl rfl rfl rfl (fun j hj => rfl) (by simp)
    · refine ⟨hx0.1, hx0.2, b3 _ _, b4 _ _, b4 _ _, b5 _ _, b6 _ _, ?_⟩
      refine hend ⟨i + 1, frS ⟨x, n', G, noRows⟩ (B i) (C i), rrS ⟨n', G', T, noRows⟩ (B i) (C i), ⟨x2, n2', G2, noRows⟩, ⟨n2', G2', T2, noRows⟩, gg⟩ rfl (by omega) (hF _ _) hB (by show gg.length ≤ i + 1; omega) ?_
      exact plFit (ks := 11) (kr := 12) (kl := 13) (kw := 14) (kg := 15) (hF _ _) hB (by simp) h10 rfl rfl rfl rfl rfl rfl rfl rfl rfl rfl rfl (fun j hj => rfl) (by simp)
    · refine ⟨hB.ok.1, hB.hi, hB.gen, hB.bit, of_eq_true (famNK_R (key := 53) (n := n') (X := G') (T := T)), hx0, hA.hi, hA.gen, hA.bit, ?_⟩
      refine hend ⟨i + 1, ⟨x, n', G, noRows⟩, ⟨n', G', T, noRows⟩, ⟨x, n', G, noRows⟩, ⟨n', G', T, noRows⟩, gg⟩ rfl (by omega) hA hA (by show gg.length ≤ i + 1; omega) ?_
      exact plFit (ks := 51) (kr := 53) (kl := 11) (kw := 12) (kg := 15) hA0 hA0 (by simp) h10 rfl rfl rfl rfl rfl rfl rfl rfl rfl rfl rfl (fun j hj => rfl) (by simp)
  · cases hF
end Go.Ax
end

section
/-
  The law of tables, act by act.
-/
set_option linter.unusedVariables false
set_option linter.unusedSimpArgs false
set_option maxHeartbeats 4000000
set_option maxRecDepth 100000
namespace Go.Ax
open Go.Proofs
theorem eq57z {xo yo : Operand} : eqE Tryz.prog false 57 xo yo (.v (.pointer none)) (.v (.pointer none)) = some ⟨[], .v (.bool true), .none⟩ := by kernel_rfl
theorem eq79z {xo yo : Operand} : eqE Tryz.prog false 79 xo yo (.v (.pointer none)) (.v (.pointer none)) = some ⟨[], .v (.bool true), .none⟩ := by kernel_rfl
theorem mcDe_SR {F : SlS → RtS → List AV → Option (List Prop × AV)} {K K' : Nat} {rest : List AV} {x : Int} {n n' : Nat} {X X' : Nat → Int} {T : Nat → Bool} {tl tl' : Fam} : mcDe oS oR F K K' rest (some (famR [⟨1, 2, 100, fun _ => [u64 x, .own K 1 n 1], none⟩, ⟨n, 1, 3, fun i => [i64 (X i)], none⟩] tl)) (some (famR [⟨1, 2, 125, fun _ => [.own K' 1 n' 1, .own K' 2 n' 1], none⟩, ⟨n', 1, 3, fun i => [i64 (X' i)], none⟩, ⟨n', 1, 4, fun i => [bo (T i)], none⟩] tl')) = mcDf oS oR K K' ⟨x, n, X, tl⟩ ⟨n', X', T, tl'⟩ (F ⟨x, n, X, tl⟩ ⟨n', X', T, tl'⟩ rest) := mcDe_fm (O := oS) (Q := oR) (x := ⟨x, n, X, tl⟩) (y := ⟨n', X', T, tl'⟩)
attribute [go_sem] mcD_eq mcDe_SR mcDf_some
end Go.Ax
end

section
/-
  The frame of a law: its arguments ars abstract values, and what they read ars behind the call.
-/
set_option linter.unusedSimpArgs false
set_option linter.unusedVariables false
namespace Go.Ax
open Go.ChangeShapes Go.WideShapes Go.ChangeAt Go.RowKit

/-- What an argument is. -/
inductive ShV where
  | int (k : IntKind)
  | bool
  | agg (es : List Sh)
  | slice (sz : Nat) (es : List Sh)

def shV (P : Program) (t : TypeId) : Option ShV :=
  match P.underlying t with
  | some .bool => some .bool
  | some (.int k) => some (.int k)
  | some (.slice _) => match shT P 6 t with
    | some [.slice sz es] => some (.slice sz es)
    | _ => none
  | some (.struct _) => (shT P 6 t).map .agg
  | some (.array _ _) => (shT P 6 t).map .agg
  | _ => none

def fitV : ShV → AV → Prop
  | .int k, a => ∃ n, a = .v (.int k n) ∧ (Lit.int k n).wf = true
  | .bool, a => ∃ b, a = .v (.bool b)
  | .agg es, a => ∃ l, a = .agg l ∧ fitS es l
  | .slice sz es, a => ∃ (n : Nat) (get : Nat → List AV), a = .ro n sz get ∧ n ≤ maxLen ∧ ∀ i, fitS es (get i)

def shVs (P : Program) : List TypeId → Option (List ShV)
  | [] => some []
  | t :: ts => match shV P t, shVs P ts with
    | some s, some r => some (s :: r)
    | _, _ => none
def fitVs : List ShV → List AV → Prop
  | [], l => l = []
  | s :: ss, l => ∃ a r, l = a :: r ∧ fitV s a ∧ fitVs ss r

section
variable {H : Type} {enc : TypeId × Value → H} {P : Program} {w : World} {spare : Nat → Bool} {held : Bool} {base : Nat}

theorem okWide_agg_struct {t : TypeId} {fs : Array Field} {v : Value} (ht : P.underlying t = some (.struct fs)) (h : Value.okWide P w .any base t v) : ∃ cs, v = .agg cs := by
  obtain ⟨cs, h, _⟩ := okWide_struct ht h
  exact ⟨cs, h⟩
theorem trod_agg_array {t e : TypeId} {n : Nat} {v : Value} {x : DataW H} {ps : List MemPlace} (ht : P.underlying t = some (.array n e)) (h : Value.okWide P w .any base t v) : ∃ cs, v = .agg cs := by
  cases v <;> simp [Value.okWide, Value.ok, ht] at h <;> exact ⟨_, rfl⟩

theorem arg_read {t : TypeId} {s : ShV} {v : Value} {x : DataW H} {ps : List MemPlace} (hs : shV P t = some s) (ho : Value.okWide P w .any base t v) (h : DataW.Trod enc P w 0 spare held t v x ps) : ∃ a, fitV s a ∧ R w (.ext (All w)) a v := by
  unfold shV at hs
  split at hs
  · rename_i hu
    cases hs
    obtain ⟨b, rfl⟩ := okWide_bool hu ho
    exact ⟨_, ⟨b, rfl⟩, .v⟩
  · rename_i k hu
    cases hs
    obtain ⟨n, rfl, _, _, hw⟩ := open_int hu ho h
    exact ⟨_, ⟨n, rfl, hw⟩, .v⟩
  · rename_i e hu
    split at hs
    · rename_i sz es he
      cases hs
      obtain ⟨a, len, cap, rfl⟩ := okWide_slice hu ho
      obtain ⟨n, get, h1, h2, h3⟩ := slice_read he h
      exact ⟨_, ⟨n, get, rfl, h1, h2⟩, h3⟩
    · cases hs
  · rename_i fs hu
    obtain ⟨es, he, rfl⟩ := Option.map_eq_some_iff.1 hs
    obtain ⟨cs, rfl⟩ := okWide_agg_struct hu ho
    obtain ⟨l, h1, h2⟩ := agg_read he h
    exact ⟨_, ⟨l, rfl, h1⟩, h2⟩
  · rename_i n e hu
    obtain ⟨es, he, rfl⟩ := Option.map_eq_some_iff.1 hs
    obtain ⟨cs, rfl⟩ := trod_agg_array (x := x) (ps := ps) hu ho
    obtain ⟨l, h1, h2⟩ := agg_read he h
    exact ⟨_, ⟨l, rfl, h1⟩, h2⟩
  · cases hs

theorem args_read : ∀ {ts : List TypeId} {ss : List ShV} {vs : List Value} {ds : List (DataW H)} {ps : List MemPlace}, shVs P ts = some ss → (∀ (j : Nat) t v, ts[j]? = some t → vs[j]? = some v → Value.okWide P w .any base t v) →
    DataW.TrodAll enc P w 0 spare held ts vs ds ps → ∃ l, fitVs ss l ∧ Rs w (.ext (All w)) l vs
  | [], ss, vs, ds, ps, hs, ho, h => by
    simp only [shVs, Option.some.injEq] at hs
    subst hs
    obtain ⟨rfl, rfl, rfl⟩ := trodAll_nil h
    exact ⟨[], rfl, .nil⟩
  | t :: ts, ss, vs, ds, ps, hs, ho, h => by
    simp only [shVs] at hs
    split at hs
    · rename_i s r h1 h2
      cases hs
      obtain ⟨v, vs', d, ds', p, q, rfl, rfl, rfl, h3, h4⟩ := trodAll_cons h
      obtain ⟨a, a1, a2⟩ := arg_read h1 (ho 0 t v rfl rfl) h3
      obtain ⟨l, b1, b2⟩ := args_read h2 (fun j t v hj hv => ho (j + 1) t v (by simpa using hj) (by simpa using hv)) h4
      exact ⟨a :: l, ⟨a, l, rfl, a1, b1⟩, Rs.cons a2 b2⟩
    · cases hs

/-- Types that may be read whole. -/
def readOK (P : Program) (ts : List TypeId) : Bool := ts.all fun t => P.readableRec t && decide (t < P.types.size)

theorem args_stay {W W' : World} (hl : laidOutB P = true) (hb : Below W.heap.size W W') : ∀ {ts : List TypeId} {vs : List Value} {ds : List (DataW H)} {ps : List MemPlace}, readOK P ts = true →
    DataW.TrodAll enc P W 0 (fun _ => true) true ts vs ds ps → ∃ ps, DataW.TrodAll enc P W' 0 (fun b => decide (b < W.heap.size)) true ts vs ds ps
  | [], vs, ds, ps, _, h => by
    obtain ⟨rfl, rfl, rfl⟩ := trodAll_nil h
    exact ⟨[], rfl⟩
  | t :: ts, vs, ds, ps, hr, h => by
    obtain ⟨v, vs', d, ds', p, q, rfl, rfl, rfl, h3, h4⟩ := trodAll_cons h
    simp only [readOK, List.all_cons, Bool.and_eq_true, decide_eq_true_eq] at hr
    obtain ⟨q', h5⟩ := args_stay hl hb (by simpa [readOK] using hr.2) h4
    refine ⟨_, trodAll_cons_mk (Below.trod hl hr.1.1 hr.1.2 h3 hb ?_) h5⟩
    obtain ⟨m, hm⟩ := h3
    exact DataW.trod_lt m _ _ _ hm
end
end Go.Ax
end

section
/-
  Laws about tables and sweeps: their arguments.
-/
set_option linter.unusedVariables false
set_option linter.unusedSimpArgs false
set_option maxHeartbeats 4000000
set_option maxRecDepth 100000
namespace Go.Ax
open Go.Proofs Go.ChangeShapes Go.WideShapes Go.ChangeAt Go.RowKit
theorem rowI {l : List AV} (h : fitS [.int .i64] l) : l = [i64 (gi l 0)] ∧ inR (gi l 0) := by
  obtain ⟨_, _, rfl, ⟨x0, rfl, k0⟩, rfl⟩ := h
  exact ⟨rfl, wf_i64 k0⟩
theorem rowsI {get : Nat → List AV} (h : ∀ i, fitS [.int .i64] (get i)) : get = (fun i => [i64 (gx get 0 i)]) ∧ ∀ i, inR (gx get 0 i) := ⟨funext fun i => (rowI (h i)).1, fun i => (rowI (h i)).2⟩
theorem rowT {l : List AV} (h : fitS [.int .i64, .int .i64, .int .i64] l) : l = [i64 (gi l 0), i64 (gi l 1), i64 (gi l 2)] ∧ inR (gi l 0) ∧ inR (gi l 1) ∧ inR (gi l 2) := by
  obtain ⟨_, _, rfl, ⟨x0, rfl, k0⟩, _, _, rfl, ⟨x1, rfl, k1⟩, _, _, rfl, ⟨x2, rfl, k2⟩, rfl⟩ := h
  exact ⟨rfl, wf_i64 k0, wf_i64 k1, wf_i64 k2⟩
theorem rowsT {get : Nat → List AV} (h : ∀ i, fitS [.int .i64, .int .i64, .int .i64] (get i)) : get = (fun i => [i64 (gx get 0 i), i64 (gx get 1 i), i64 (gx get 2 i)]) ∧ (∀ i, inR (gx get 0 i)) ∧ (∀ i, inR (gx get 1 i)) ∧ ∀ i, inR (gx get 2 i) :=
  ⟨funext fun i => (rowT (h i)).1, fun i => (rowT (h i)).2.1, fun i => (rowT (h i)).2.2.1, fun i => (rowT (h i)).2.2.2⟩
def gzO : List AV → Bool
  | [.v (.bool b)] => b
  | _ => false
theorem rowsO {get : Nat → List AV} (h : ∀ i, fitS [.bool] (get i)) : get = (fun i => [bo (gzO (get i))]) := funext fun i => by
  obtain ⟨_, _, e, ⟨x0, rfl⟩, rfl⟩ := h i
  rw [e]; rfl
end Go.Ax
end
