/-
  The ids of a map, sorted, ars a new slice: the shelf's contracts, laid here.
-/
import Derived.Test.YtfpgjkeelegdpaaGreatCM5
import Derived.Shelf.SlIterI.Nil
import Derived.Shelf.SortM.Plain
import Derived.Shelf.SortM.SortNone
import Derived.Ground.GgzProg
import Derived.Ground.SlgmProg
import Derived.Laws.Externs
import Derived.Lib.Mul64
import Derived.Calls
section
set_option linter.unusedVariables false
set_option linter.unusedSimpArgs false
set_option maxHeartbeats 4000000
set_option maxRecDepth 100000
namespace Go.Proofs
open Go.RowKit Go.Maps Go.Sort Go.Shelf
/-- slices.Sort's two contracts here. -/
theorem Tryz.sortsA (m : Nat) : AnyZI.SortsIn Tryz.prog Tryz.sortedA_ren Fence.wide m :=
  ⟨fun blk off cap ss W hH hblk hsz => callsIn_wide.2 (AnyM.slices_Sort_int Tryz.sortA blk off cap ss W hH hblk hsz),
   fun p cap W => callsIn_wide.2 (AnyM.slices_Sort_int_none Tryz.sortA p cap W)⟩
theorem Tryz.sorted_keys {H : Type} (Bm b nn : Nat) (D0 : DataW H) (R : Value → Option (DataW H × List MemPlace)) (w : World) (hBm : Bm < w.heap.size) (hm : w.cell? ⟨Bm, 0, none⟩ = some (.map (some b)))
    (hown : w.ownsMap Tryz.prog 3 R b nn D0) (hmax : Maps.size D0 ≤ maxLen) (hbytes : Maps.size D0 * 8 ≤ 140737488355328) :
    Calls Tryz.prog 107 #[.func (.func 131) #[] #[.pointer (some ⟨Bm, 0, none⟩)]] w fun e w' => ∃ (v : Value) (ss : List Int), e = .returned v ∧ ss.Perm (intKeys D0) ∧
      w'.ownsRow w.heap.size 3 1 v ss.length ((ss.mergeSort (fun x y => decide (x ≤ y))).map encZ) ∧ (v = .slice none 0 0 ↔ ss = []) ∧ Below w.heap.size w w' := by
  refine (callsIn_wide (n := 5)).1 ?_
  have hseq : SeqGives Fence.wide 2 Tryz.prog 131 #[.pointer (some ⟨Bm, 0, none⟩)] encZ (fun ss => ss.Perm (intKeys D0)) (Maps.size D0) w :=
    AnyZI.keys_gives (ρ := Tryz.keysA_ren) { Tryz.keysA with } Fence.wide _ trivial rfl (by omega) Bm b nn D0 _ hBm hm hown
  have cS := AnyZI.sorted_in Tryz.sortedA Fence.wide 5 trivial trivial trivial trivial rfl (by omega) (Tryz.sortsA _) (enters_of Tryz.func130 (by kernel_rfl) rfl) 131 #[.pointer (some ⟨Bm, 0, none⟩)] trivial (enters_of Tryz.func131 (by kernel_rfl) rfl) _ _ hmax hbytes _ hseq
  exact cS
end Go.Proofs
namespace Go.Ax
open Go.Proofs Go.Maps Go.MapKept Go.RowKit
/-- A slice that lies in a block of its own, new since a world. -/
theorem slice_post {w0 : Base} {J : Nat → Prop} {w w' : World} {key n sz : Nat} {ty : TypeId} {get : Nat → List AV} {v : Value} {xs : List Value} {ob : List Prop} (hty : ty < 1000000) (hR : Rel w0 (.ext J) [] (fun _ => False) w) (hb : Below w.heap.size w w') (hrow : w'.ownsRow w.heap.size ty sz v n xs)
    (hlen : ∀ i, i < n → (get i).length = sz) (hget : ∀ i k c x, i < n → (get i)[k]? = some c → xs[i * sz + k]? = some x → R w' (.ext J) c x) : Post w0 (.ext J) [] (fun _ => False) key ⟨ob, .own key 0 n sz, .many [] (some (famN n sz ty get none))⟩ w v w' := by
  have hR' := hR.stay hb
  have hsame : Same J w w' := fun b hb' => hb.block b (hR.imm2 b hb').1
  have main : ∀ gb cap : Nat, w.heap.size ≤ gb → n ≤ cap → (0 < cap → ∃ c : Array Value, w'.heap[gb]? = some (.cells c ty (0, 0)) ∧ c.size = cap * sz ∧ c.toList.take (n * sz) = xs) →
      Rel w0 (Env.add (.ext J) key gb cap) (insRow key (famN n sz ty get none) []) (fun r => False ∨ r = key) w' := fun gb cap hg hn hc => by
    have bk : ∀ f, (Env.add (.ext J) key gb cap).blk key f = gb := fun f => by simp [Env.add]
    have cp : ∀ f, (Env.add (.ext J) key gb cap).cap key f = if f = 0 then cap else 0 := fun f => by simp [Env.add]
    have lk : ∀ r x, look (insRow key (famN n sz ty get none) []) r = some x → r = key ∧ x = famN n sz ty get none := fun r x hx => by
      simp only [insRow, look] at hx
      split at hx
      · rename_i e; cases hx; exact ⟨e.symm, rfl⟩
      · cases hx
    have hnJ : ¬ J gb := fun h => by have := (hR.imm2 gb h).1; omega
    have hw0 : w0.heap.size ≤ w.heap.size := hR.below.size
    refine ⟨hR'.below, fun b hb => hR'.imm2 b hb, fun r hr => ?_, fun r x hx => .inr (lk r x hx).1, fun r x f hx hg' => ?_, fun r x f r' x' f' hx hx' hg1 hg2 hc1 hc2 e => ?_, fun p hp => ?_, fun p hp => hR'.kept p hp⟩
    · rcases hr with hr | hr
      · exact .inl hr
      · exact .inr hr
    · obtain ⟨rfl, rfl⟩ := lk r x hx
      refine ⟨.inr rfl, ?_⟩
      match f with
      | 0 =>
        refine ⟨by rw [cp]; exact hn, fun h => ?_, fun i hi => hlen i hi, fun i k c x hi h1 h2 => ?_⟩
        · rw [cp, if_pos rfl] at h
          obtain ⟨c, h1, h2, h3⟩ := hc h
          rw [bk, cp, if_pos rfl]
          exact ⟨by omega, hnJ, _, h1, .inl ⟨c, rfl, h2, hty⟩⟩
        · have hi : i < n := hi
          have hcap : 0 < cap := by omega
          obtain ⟨cc, k1, k2, k3⟩ := hc hcap
          rw [bk] at h2
          have hk : k < sz := by
            have : (get i)[k]? = some c := h1
            have h4 := (List.getElem?_eq_some_iff.1 this).1
            rw [hlen i hi] at h4
            exact h4
          have hlt : i * sz + k < n * sz := by
            have := Nat.mul_le_mul_right sz (show i + 1 ≤ n by omega)
            rw [Nat.add_mul] at this
            omega
          have hx : xs[i * sz + k]? = some x := by
            have h2 : Has w' gb (i * sz + k) x := h2
            unfold Has World.cell? at h2
            simp only [k1] at h2
            rw [← k3, List.getElem?_take, if_pos hlt, Array.getElem?_toList]
            exact h2
          exact (hget i k c x hi h1 hx).mono ⟨fun r h => h.elim, fun r f h => h.elim, fun r f h => h.elim, fun b h => h⟩ (fun b hb => rfl)
      | f + 1 => exact ⟨by rw [cp]; exact Nat.zero_le _, fun h => by rw [cp, if_neg (by omega)] at h; omega, fun i hi => by have hi : i < 0 := hi; omega, fun i k c x hi => by have hi : i < 0 := hi; omega⟩
    · obtain ⟨rfl, _⟩ := lk r x hx
      obtain ⟨rfl, _⟩ := lk r' x' hx'
      refine ⟨rfl, ?_⟩
      rw [cp] at hc1 hc2
      have a1 : f = 0 := Classical.byContradiction fun h => by rw [if_neg h] at hc1; omega
      have a2 : f' = 0 := Classical.byContradiction fun h => by rw [if_neg h] at hc2; omega
      rw [a1, a2]
    · obtain ⟨p1, p2, p3, p4⟩ := hR.fix p hp
      refine ⟨p1, fun r x f hx hg1 hc1 e => ?_, p3, (hR'.fix p hp).2.2.2⟩
      obtain ⟨rfl, _⟩ := lk r x hx
      rw [bk] at e
      have := (Array.getElem?_eq_some_iff.1 p4).1
      omega
  rcases hrow with ⟨hl, ⟨rfl, rfl⟩ | ⟨g, cap, cur, rfl, h1, h2, h3, h4, h5, h6⟩⟩
  · refine ⟨Env.add (.ext J) key w.heap.size 0, ?_, main _ 0 (Nat.le_refl _) (Nat.le_refl _) (fun h => by omega), Env.le_add (fun h => h.elim), hsame⟩
    have h := R.own (w := w') (ρ := Env.add (.ext J) key w.heap.size 0) (r := key) (f := 0) (n := 0) (sz := sz) (a := none) (.inr rfl) (Nat.zero_le _) (fun h => by simp [Env.add] at h)
    have e : (Env.add (.ext J) key w.heap.size 0).cap key 0 = 0 := by simp [Env.add]
    rw [e] at h
    exact h
  · refine ⟨Env.add (.ext J) key g cap, ?_, main g cap h1 h3 (fun _ => ⟨cur, h2, h5, h6⟩), Env.le_add (fun h => h.elim), hsame⟩
    have e1 : (Env.add (.ext J) key g cap).cap key 0 = cap := by simp [Env.add]
    have e2 : (Env.add (.ext J) key g cap).blk key 0 = g := by simp [Env.add]
    have h := R.own (w := w') (ρ := Env.add (.ext J) key g cap) (r := key) (f := 0) (n := n) (sz := sz) (a := some ⟨g, 0, none⟩) (.inr rfl) (by rw [e1]; exact h3) (fun h => by rw [e2])
    rw [e1] at h
    exact h
def vInt : Value → Int
  | .int _ z => z
  | _ => 0
/-- The map that lies behind a map's value, for the shelf. -/
theorem MapIs.owns {P : Program} {k : TypeId} (hk : P.underlying k = some (.int .i64)) {n b : Nat} {L : Ents} {ob : Go.Obj} {w : World} (hb : w.heap[b]? = some ob) (h : MapIs n L ob) (hl : L.length ≤ maxLen) :
    ∃ D0 : DataW Unit, w.ownsMap P k (fun _ => some (.nil, [])) b L.length D0 ∧ (intKeys D0).Perm (L.map (·.1)) ∧ Maps.size D0 = L.length := by
  obtain ⟨es, clock, rfl, hst, hp, hnd, hall⟩ := h
  have hlen : es.size = L.length := by have := hp.length_eq; simpa using this
  have hrd : ∀ x ∈ es.toList, ∃ p ∈ L, x.key = .int .i64 p.1 ∧ WideElems.rd P k (fun _ => some ((.nil : DataW Unit), [])) x = some (.int .i64 p.1, .nil) := fun x hx => by
    have : (x.key, x.val) ∈ L.map entV := hp.mem_iff.1 (List.mem_map.2 ⟨x, hx, rfl⟩)
    obtain ⟨p, hp1, hp2⟩ := List.mem_map.1 this
    have e : x.key = .int .i64 p.1 := by have := congrArg Prod.fst hp2; exact this.symm
    refine ⟨p, hp1, e, ?_⟩
    unfold WideElems.rd
    rw [e]
    obtain ⟨k1, k2⟩ := (hall p hp1).2
    have hmin : IntKind.i64.min = -9223372036854775808 := by decide
    have hmax : IntKind.i64.max = 9223372036854775807 := by decide
    rw [keyOf_int_mk hk (by simp only [Lit.wf, hmin, hmax, Bool.and_eq_true, decide_eq_true_eq]; omega)]
    rfl
  have hperm : ((es.toList.map (WideElems.rg P k (fun _ => some ((.nil : DataW Unit), [])))).map fun p => intOf p.1) = (es.toList.map fun e => (e.key, e.val)).map fun q : Value × Value => vInt q.1 := by
    rw [List.map_map, List.map_map]
    refine List.map_congr_left fun x hx => ?_
    obtain ⟨p, hp1, e, hr⟩ := hrd x hx
    simp only [Function.comp, WideElems.rg, hr, e, Option.getD, vInt, intOf]
  refine ⟨_, ⟨es, clock, hb, ⟨by omega, hst, fun x hx => ?_⟩, by omega, rfl⟩, ?_, ?_⟩
  · obtain ⟨p, hp1, e, hr⟩ := hrd x hx
    exact ⟨_, hr⟩
  · show (List.map (fun p : Lit × DataW Unit => intOf p.1) _).Perm _
    refine ((WideShapes.sorted_perm _).map _).trans ?_
    rw [hperm]
    refine (hp.map _).trans ?_
    rw [List.map_map]
    exact List.Perm.of_eq (List.map_congr_left fun p hp => rfl)
  · show List.length _ = _
    rw [length_sorted]
    simpa using hlen
def mcKf (key : Nat) : Option (List Prop × (Nat → AV) × (Nat → Option Fam)) → Option Eff
  | some (ob, v, nw) => some ⟨ob, v key, .many [] (nw key)⟩
  | none => none
theorem mcK_eq {F : List AV → Option (List Prop × (Nat → AV) × (Nat → Option Fam))} {key : Nat} {m : Mem} {es : List AV} : mcK F key m es = mcKf key (F es) := by
  unfold mcK mcKf
  cases F es <;> rfl
theorem mcKf_some {key : Nat} {ob : List Prop} {v : Nat → AV} {nw : Nat → Option Fam} : mcKf key (some (ob, v, nw)) = some ⟨ob, v key, .many [] (nw key)⟩ := (rfl)
attribute [go_sem] mcK_eq mcKf_some
def F108 : List AV → Option (List Prop × (Nat → AV) × (Nat → Option Fam))
  | [.rm 4 L] => some ([], fun k => .fn 131 [.bx k 0], fun k => some (fam1 101 1 [.rm 4 L] none))
  | _ => none
noncomputable def mN108 : MCon := mcK F108
theorem mN108_eq : mN108 = mcK F108 := (rfl)
theorem F108_eq {L : Ents} : F108 [.rm 4 L] = some ([], fun k => .fn 131 [.bx k 0], fun k => some (fam1 101 1 [.rm 4 L] none)) := (rfl)
attribute [go_sem] mN108_eq F108_eq
theorem fnKey {key r : Nat} {ty : TypeId} {sz : Nat} {c : AV} {f : FuncId} {m1 : Mem} (hc : clean 3 c = true) (h : look m1 r = some (fam1 ty sz [c] none)) : NewP key 0 (.fn f [.bx r 0]) m1 (.fn f [.bx key 0]) (some (fam1 ty sz [c] none)) := by
  refine newP_list [(r, 0)] (by simp) (by simp) (fun c hc => ?_) (fun ks hks => ?_) (fun ks hks f r' g hf => ?_) (fun f hf => ?_)
  · simp only [List.mem_cons, List.not_mem_nil, or_false] at hc
    subst hc
    exact .inr (by simp [sgP])
  · show AV.fn _ [AV.bx key 0] = AV.fn _ [AV.bx (thL ks key (ixP [(r, 0)]) r 0).1 0]
    simp only [thL]
    rw [if_neg (by omega)]
  · match f, hf with
    | 0, hf =>
      cases hf
      refine ⟨_, h, ⟨rfl, rfl, rfl, rfl, fun j hj => ?_⟩, by simp [fam1]⟩
      have hh : ∀ a ∈ [c], clean 3 a = true := by simpa using hc
      obtain ⟨k1, k2⟩ := cleans_ren (θ := thL ks key (ixP [(r, 0)])) (g := newG 0 (sgP [(r, 0)]) (ixP [(r, 0)])) (B := newB 0 (sgP [(r, 0)])) hh
      exact ⟨k1.symm, k2⟩
    | f + 1, hf => simp at hf
  · have : 1 ≤ f := hf
    simp only [fam1]
    rw [if_neg (by omega)]
theorem mon108 : MConOK Tryz.prog 108 mN108 := MConOK.mcK (G := []) (H := []) .nil Tryz.func108 fun es ob v nw hF hob => by
  unfold F108 at hF
  split at hF
  · rename_i L
    cases hF
    refine ⟨by simp [clean], by kernel_rfl, fun key => bodyM_go (rs := [.tmp 2]) rfl rfl ?_⟩
    simp only [go_sem]
    exact fnKey rfl rfl
  · cases hF
/-- The ids, sorted. -/
def srtK (L : Ents) : List Int := (L.map (·.1)).mergeSort (fun x y => decide (x ≤ y))
theorem srtK_len {L : Ents} : (srtK L).length = L.length := by simp [srtK]
/-- The sorted ids, out of what the iterator over the map captured. -/
def oneRm (fam : Fam) : Option Ents := match (fam 0).n, (fam 0).g, (fam 0).get 0 with
  | 1, none, [.rm 4 L] => some L
  | _, _, _ => none
def F107 (key : Nat) : Option Ents → Option Eff
  | some L => some ⟨[L.length ≤ 1000], .own key 0 L.length 1, .many [] (some (famN L.length 1 3 (fun i => [i64 ((srtK L).getD i 0)]) none))⟩
  | none => none
def M107 (key : Nat) : Option Fam → Option Eff
  | some fam => F107 key (oneRm fam)
  | none => none
def mN107 : MCon := fun key m es => match es with
  | [.fn 131 [.bx r 0]] => M107 key (look m r)
  | _ => none
theorem mN107_eq {key r : Nat} {m : Mem} : mN107 key m [.fn 131 [.bx r 0]] = M107 key (look m r) := (rfl)
theorem M107_1 {key : Nat} {ty : TypeId} {sz : Nat} {L : Ents} : M107 key (some (fam1 ty sz [.rm 4 L] none)) = some ⟨[L.length ≤ 1000], .own key 0 L.length 1, .many [] (some (famN L.length 1 3 (fun i => [i64 ((srtK L).getD i 0)]) none))⟩ := (rfl)
attribute [go_sem] mN107_eq M107_1
theorem mon107 : MConOK Tryz.prog 107 mN107 := by
  intro w0 ρ m m' D w key aas vs e hR hk hm hRs hc hob _
  unfold mN107 at hc
  split at hc
  · rename_i r
    unfold M107 at hc
    split at hc
    · rename_i fam hl
      unfold F107 at hc
      split at hc
      · rename_i L hL
        cases hc
        have hlen : L.length ≤ 1000 := hob _ (by simp)
        unfold oneRm at hL
        split at hL
        · rename_i g1 g2 g3
          cases hL
          obtain ⟨y, ys, rfl, k1, k2⟩ := hRs.inv
          have hy0 : ys = [] := by have := k2.1; simpa using this
          subst hy0
          cases k1 with
          | fn hlv hv =>
            rename_i cap
            match cap, hlv with
            | [x], _ =>
              have hx := hv 0 _ x rfl rfl
              cases hx with
              | bx hd =>
                obtain ⟨q1, q2⟩ := hR.row r fam 0 (hm _ _ hl) (by rw [g2]; simp)
                obtain ⟨b1, b2, cc, b3, b4⟩ := q2.cells (by omega)
                have hsz : (fam 0).sz = 1 := by have := q2.len 0 (by omega); rw [g3] at this; exact this.symm
                have hcap : 0 < ρ.cap r 0 := by have := q2.n_le; omega
                have hcs : 0 < cc.size := by rw [b4, hsz]; omega
                have hHas : Has w (ρ.blk r 0) (0 * (fam 0).sz + 0) cc[0] := by
                  unfold Has World.cell?
                  simp [b3, hcs]
                have hrm := q2.rel 0 0 (.rm 4 L) cc[0] (by omega) (by rw [g3]; rfl) hHas
                have hcell : w.cell? ⟨ρ.blk r 0, 0, none⟩ = some cc[0] := by
                  have := hHas
                  rw [Nat.zero_mul] at this
                  exact this
                generalize cc[0] = z at hrm hcell
                cases hrm with
                | rm b hi hb hM =>
                  obtain ⟨D0, h1, h2, h3⟩ := MapIs.owns (P := Tryz.prog) (k := 3) Tryz.underlying3 hb hM (by unfold maxLen; omega)
                  have hblt : ρ.blk r 0 < w.heap.size := (Array.getElem?_eq_some_iff.1 b3).1
                  refine .inr ⟨enters_of Tryz.func107 (by kernel_rfl) rfl _ _, (Tryz.sorted_keys (ρ.blk r 0) b L.length D0 _ w hblt hcell h1 (by rw [h3]; unfold maxLen; omega) (by rw [h3]; omega)).mono fun e w' ⟨v, ss, he, hp, hrow, _, hbl⟩ => ⟨v, he, ?_⟩⟩
                  have hs : ss.mergeSort (fun x y => decide (x ≤ y)) = srtK L := mergeSort_of_perm_i (hp.trans h2)
                  have hn : ss.length = L.length := by have := (hp.trans h2).length_eq; simpa using this
                  rw [hs, hn] at hrow
                  refine view_post hR hk (by simp [nk]) (by rw [okN_some, famNK_ints]; trivial) (slice_post (ob := []) (by decide) (view_rel hR) hbl hrow (fun i hi => rfl) fun i k c x hi h1 h2 => ?_)
                  match k, h1 with
                  | 0, h1 =>
                    cases h1
                    simp only [Nat.mul_one, Nat.add_zero, List.getElem?_map, Option.map_eq_some_iff] at h2
                    obtain ⟨z, h5, rfl⟩ := h2
                    rw [List.getD_eq_getElem?_getD, h5]
                    exact .v
                  | k + 1, h1 => simp at h1
        · cases hL
      · cases hc
    · cases hc
  · cases hc
def F59 : List AV → Option (List Prop × (Nat → AV) × (Nat → Option Fam))
  | [.rop [.rm 4 L]] => some ([L.length ≤ 1000], fun k => .own k 0 L.length 1, fun k => some (famN L.length 1 3 (fun i => [i64 ((srtK L).getD i 0)]) none))
  | _ => none
noncomputable def mN59 : MCon := mcKU F59
theorem mN59_eq : mN59 = mcKU F59 := (rfl)
theorem F59_eq {L : Ents} : F59 [.rop [.rm 4 L]] = some ([L.length ≤ 1000], fun k => .own k 0 L.length 1, fun k => some (famN L.length 1 3 (fun i => [i64 ((srtK L).getD i 0)]) none)) := (rfl)
attribute [go_sem] mN59_eq F59_eq
theorem mon59 : MConOK Tryz.prog 59 mN59 := MConOK.mkU (G := [(75, c75), (108, .wr mN108), (107, .wr mN107)]) (H := []) (.cons con75 (.mcons mon108 (.mcons mon107 .nil))) Tryz.func59 fun es ob v nw hF hob => by
  unfold F59 at hF
  split at hF
  · rename_i L
    cases hF
    have h2 : L.length ≤ 1000 := hob _ (by simp)
    refine ⟨[.rop [.rm 4 L]], fun w I vs hR => hR, by simp [clean], by kernel_rfl, fun key => bodyM_go (rs := [.tmp 2]) rfl rfl ?_⟩
    simp only [go_sem, c75, h2]
    rintro z rfl
    exact ⟨fun h => (by cases h), fun _ => newN rfl (Nat.zero_le _) fun j hj => ⟨rfl, fun c hc => by
      simp only [List.mem_cons, List.not_mem_nil, or_false] at hc
      subst hc; rfl⟩⟩
  · cases hF
end Go.Ax
end

section
/-
  Exact whole numbers of two words.
-/
set_option linter.unusedVariables false
set_option linter.unusedSimpArgs false
set_option maxHeartbeats 1000000
set_option maxRecDepth 100000
namespace Go.Ax
open Go.Proofs

/-! ### Sums with a carry -/
theorem Pur.run {P : Program} {f : FuncId} {es : List AV} {r : AV} (h : ∀ (I : Nat → Prop) (w : World) (vs : List Value), (∀ b, I b → b < w.heap.size) → Rs w (.ext I) es vs → ∃ v, (callFunc f vs.toArray).run P w = .ok (.value v) w ∧ R w (.ext (New I w w)) r v) : Pur P f es r := fun I w vs hI hR => by
  obtain ⟨v, h1, h2⟩ := h I w vs hI hR
  exact .inl ⟨v, w, h1, h2, RowKit.Below.refl _ _⟩
/-- An exact value: of the program, and of the reference. -/
abbrev ex (g : Bool) (m : Int) : AV := .agg [bo g, u64 (m % 18446744073709551616), u64 (m / 18446744073709551616)]
def cmpS (x y : Int) : Int := if x < y then -1 else if y < x then 1 else 0
end Go.Ax
end

section
/-
  Sums and products of exact values; numbers.
-/
set_option linter.unusedVariables false
set_option linter.unusedSimpArgs false
set_option maxHeartbeats 1000000
set_option maxRecDepth 100000
namespace Go.Ax
open Go.Proofs

/-! ### Comparing -/
def orS (X : Nat → Int) : Nat → Nat → Int
  | _, 0 => 0
  | i, k + 1 => if X i ≠ 0 then X i else orS X (i + 1) k
def c67 : Con
  | [.ro n 1 g] => some ([∀ i, i < n → g i = [i64 (gx g 0 i)], n ≤ 1000], i64 (orS (gx g 0) 0 n))
  | _ => none
theorem vc67 (n : Nat) (X : Nat → Int) (hn : n ≤ 1000) : fnVC Tryz.prog [] [] Tryz.f67 [.ro n 1 fun i => [i64 (X i)]] (· = i64 (orS X 0 n)) := by
  refine fnVC_go (rs := [.tmp 2]) rfl rfl ?_
  simp only [go_sem]
  refine loopC_go (fun (i : Nat) => i ≤ n ∧ orS X 0 n = orS X i (n - i)) (fun i => n - i) (fun i => [(8, i64 i)]) (fun _ => []) [] [9, 10, 11, 5, 12, 13, 14, 15, 2, 16, 8] 0 (by kernel_rfl) ?_ ⟨Nat.zero_le _, rfl⟩ ?_ ?_
  · intro x _; simp [goodNames]
  · simp only [go_sem]
  · intro i hi
    simp only [go_sem]
    refine ⟨fun h => ⟨by omega, h, fun hx => ?_, fun hx z hz => ⟨i + 1, ⟨by omega, ?_⟩, by omega, ?_⟩⟩, fun h => ?_⟩
    · rw [hi.2, show n - i = (n - i - 1) + 1 by omega]
      unfold orS
      rw [if_pos (by simpa using hx)]
    · rw [hi.2, show n - i = (n - i - 1) + 1 by omega]
      conv => lhs; unfold orS
      rw [if_neg (by simpa using hx)]
      rw [show n - (i + 1) = n - i - 1 by omega]
    · rw [hz, wrap_in (by unfold inR; omega)]; rfl
    · rw [hi.2, show n - i = 0 by omega]; rfl
theorem con67 : ConOK Tryz.prog 67 c67 := ConOK.go (G := []) (H := []) .nil Tryz.func67 fun l ob r hc hob => by
  unfold c67 at hc
  split at hc
  · rename_i n g
    cases hc
    have hs : ∀ i, i < n → g i = [i64 (gx g 0 i)] := hob _ (by simp)
    refine ⟨[.ro n 1 fun i => [i64 (gx g 0 i)]], fun w I vs h => Rs_one (fun v => ro_alike fun i hi => hs i hi) h, by kernel_rfl, vc67 n _ (hob _ (by simp))⟩
  · cases hc
end Go.Ax
end

section
/-
  Numbers: the program's arithmetic.
-/
set_option linter.unusedVariables false
set_option linter.unusedSimpArgs false
set_option maxHeartbeats 1000000
set_option maxRecDepth 100000
namespace Go.Ax
open Go.Proofs

/-! ### Truth values in cells -/
def gib (cs : List AV) (k : Nat) : Bool := match cs[k]? with
  | some (.v (.bool b)) => b
  | _ => false
theorem gib_1 {a : AV} {x : Bool} {l : List AV} : gib (a :: .v (.bool x) :: l) 1 = x := (rfl)
def gb (g : Nat → List AV) (k i : Nat) : Bool := gib (g i) k
theorem gb_eq {g : Nat → List AV} {k i : Nat} : gb g k i = gib (g i) k := (rfl)
attribute [go_sem] gb_eq gib_1
def anyB (G : Nat → Bool) : Nat → Bool
  | 0 => false
  | n + 1 => anyB G n || G n
def nums (n : Nat) (g : Nat → List AV) : Prop := ∀ i, i < n → g i = [i64 (gx g 0 i), bo (gb g 1 i)] ∧ inR (gx g 0 i)
/-! ### What comes of exact values -/
def c112 : Con
  | [.v (.int .i64 v)] => some ([], bo false)
  | _ => none
theorem con112 : ConOK Tryz.prog 112 c112 := ConOK.of (G := []) (H := []) .nil Tryz.func112 fun l ob r hc hob => by
  unfold c112 at hc
  split at hc
  · rename_i v
    cases hc
    refine ⟨by kernel_rfl, fnVC_go (rs := [.tmp 2]) rfl rfl ?_⟩
    simp only [go_sem]
    exact bne_self
  · cases hc
def c68 : Con
  | [.v (.int .i64 x), .v (.int .i64 y)] => some ([], i64 (cmpS x y))
  | _ => none
theorem con68 : ConOK Tryz.prog 68 c68 := ConOK.of (G := [(112, c112)]) (H := []) (.cons con112 .nil) Tryz.func68 fun l ob r hc hob => by
  unfold c68 at hc
  split at hc
  · rename_i x y
    cases hc
    refine ⟨by kernel_rfl, fnVC_go (rs := [.tmp 4]) rfl rfl ?_⟩
    simp only [go_sem, c112]
    intro z hz z1 hz1
    subst hz hz1
    unfold cmpS
    refine ⟨fun h => (by cases h), fun _ => ⟨fun h => (by cases h), fun _ => ⟨fun h => by rw [if_pos h], fun h => ⟨fun h2 => by rw [if_neg h, if_pos h2], fun h2 => by rw [if_neg h, if_neg h2]⟩⟩⟩⟩
  · cases hc
end Go.Ax
end

section
/-
  The box of several boxes.
-/
set_option linter.unusedVariables false
set_option linter.unusedSimpArgs false
set_option maxHeartbeats 1000000
set_option maxRecDepth 100000
namespace Go.Ax
open Go.Proofs
def boxes (n : Nat) (g : Nat → List AV) : Prop := ∀ i, i < n → g i = [i64 (gx g 0 i), i64 (gx g 1 i), i64 (gx g 2 i), i64 (gx g 3 i)] ∧ inR (gx g 0 i) ∧ inR (gx g 1 i) ∧ inR (gx g 2 i) ∧ inR (gx g 3 i)
def mnS (A : Nat → Int) : Nat → Int
  | 0 => 0
  | i + 1 => if i = 0 then A 0 else min (mnS A i) (A i)
def mxS (A : Nat → Int) : Nat → Int
  | 0 => 0
  | i + 1 => if i = 0 then A 0 else max (mxS A i) (A i)
def okB (n : Nat) (A B C D : Nat → Int) : Prop := ∀ i, i < n → checkBoxS (A i) (B i) (C i) (D i) = 0
instance {n : Nat} {A B C D : Nat → Int} : Decidable (okB n A B C D) := by unfold okB; exact inferInstance
def joinS (n : Nat) (A B C D : Nat → Int) (k : Nat) : Int := if okB n A B C D then (match k with
  | 0 => mnS A n
  | 1 => mnS B n
  | 2 => mxS C n
  | _ => mxS D n) else 0
def c117 : Con
  | [.ro n 4 g] => some ([boxes n g, n ≤ 9223372036854775807], .agg [i64 (joinS n (gx g 0) (gx g 1) (gx g 2) (gx g 3) 0), i64 (joinS n (gx g 0) (gx g 1) (gx g 2) (gx g 3) 1), i64 (joinS n (gx g 0) (gx g 1) (gx g 2) (gx g 3) 2), i64 (joinS n (gx g 0) (gx g 1) (gx g 2) (gx g 3) 3)])
  | _ => none
theorem joinS_ok {n : Nat} {A B C D : Nat → Int} (h : okB n A B C D) : joinS n A B C D 0 = mnS A n ∧ joinS n A B C D 1 = mnS B n ∧ joinS n A B C D 2 = mxS C n ∧ joinS n A B C D 3 = mxS D n := by
  unfold joinS; rw [if_pos h, if_pos h, if_pos h, if_pos h]; exact ⟨rfl, rfl, rfl, rfl⟩
theorem joinS_no {n : Nat} {A B C D : Nat → Int} (h : ¬ okB n A B C D) {k : Nat} : joinS n A B C D k = 0 := by
  simp only [joinS, if_neg h]
theorem okB_succ {i : Nat} {A B C D : Nat → Int} (h : okB i A B C D) (h0 : checkBoxS (A i) (B i) (C i) (D i) = 0) : okB (i + 1) A B C D := fun k hk => by
  by_cases e : k = i
  · subst e; exact h0
  · exact h k (by omega)
theorem vc117 (n : Nat) (A B C D : Nat → Int) (hX : ∀ i, i < n → inR (A i) ∧ inR (B i) ∧ inR (C i) ∧ inR (D i)) (hn : n ≤ 9223372036854775807) : fnVC Tryz.prog [(64, c64)] [(9, ⟨[(11, .slot 3), (13, .slot 3)], [(8, [.slot 3])]⟩), (10, ⟨[(11, .slot 3), (13, .slot 3)], [(8, [.slot 3])]⟩)] Tryz.f117 [.ro n 4 fun i => [i64 (A i), i64 (B i), i64 (C i), i64 (D i)]] (· = .agg [i64 (joinS n A B C D 0), i64 (joinS n A B C D 1), i64 (joinS n A B C D 2), i64 (joinS n A B C D 3)]) := by
  refine fnVC_go (rs := [.cell 2 32]) rfl rfl ?_
  simp only [go_sem]
  refine loopC_go (fun (i : Nat) => i ≤ n ∧ okB i A B C D) (fun i => n - i) (fun i => [(8, i64 i)]) (fun i => [(1, fam1 32 4 [i64 (mnS A i), i64 (mnS B i), i64 (mxS C i), i64 (mxS D i)] none)]) [0] [9, 10, 11, 12, 5, 4, 13, 14, 15, 16, 17, 18, 19, 20, 21, 22, 23, 24, 25, 26, 27, 28, 29, 30, 31, 32, 33, 34, 35, 36, 37, 38, 39, 40, 41, 42, 43, 44, 8] 0 (by kernel_rfl) ?_ ?_ ?_ ?_
  · intro x _; simp [goodNames, asg]
  · simp [okB]
  · simp only [go_sem]; simp [mnS, mxS]
  · intro i hi
    simp only [go_sem, c64]
    obtain ⟨hi1, hi2⟩ := hi
    refine ⟨fun h => ?_, fun h => ?_⟩
    · have h1 : i < n := by omega
      obtain ⟨r1, r2, r3, r4⟩ := hX i h1
      refine ⟨by omega, h, fun z hz => ⟨r1, r2, r3, r4, fun hb => ?_, fun hb => ?_⟩⟩
      · have hno : ¬ okB n A B C D := fun hf => by
          have := hf i h1
          rw [← hz] at this
          simp [this] at hb
        simp only [joinS_no hno]
      · have hz0 : checkBoxS (A i) (B i) (C i) (D i) = 0 := by rw [← hz]; simpa using hb
        have hok := okB_succ hi2 hz0
        refine ⟨fun h0 z hz' z1 k1 z2 k2 z3 k3 z4 k4 => ⟨i + 1, ⟨by omega, hok⟩, by omega, by rw [wrap_i64] at k4; omega, ?_⟩, fun h0 z hz' z1 k1 z2 k2 z3 k3 z4 k4 => ⟨i + 1, ⟨by omega, hok⟩, by omega, by rw [wrap_i64] at k4; omega, ?_⟩⟩
        · have e : i = 0 := by simpa using h0
          subst e
          simp only [mnS, mxS, if_true]
          omega
        · have e : ¬ i = 0 := by simpa using h0
          simp only [mnS, mxS, if_neg e]
          exact ⟨hz', k1, k2, k3⟩
    · have e : i = n := by omega
      subst e
      obtain ⟨j1, j2, j3, j4⟩ := joinS_ok hi2
      rw [j1, j2, j3, j4]
theorem con117 : ConOK Tryz.prog 117 c117 := ConOK.go (G := [(64, c64)]) (H := [(9, ⟨[(11, .slot 3), (13, .slot 3)], [(8, [.slot 3])]⟩), (10, ⟨[(11, .slot 3), (13, .slot 3)], [(8, [.slot 3])]⟩)]) (.cons con64 .nil) Tryz.func117 fun l ob r hc hob => by
  unfold c117 at hc
  split at hc
  · rename_i n g
    cases hc
    have hs : boxes n g := hob _ (by simp)
    exact ⟨[.ro n 4 fun i => [i64 (gx g 0 i), i64 (gx g 1 i), i64 (gx g 2 i), i64 (gx g 3 i)]], fun w I vs h => Rs_one (fun v => ro_alike fun i hi => (hs i hi).1) h, by kernel_rfl, vc117 n _ _ _ _ (fun i hi => (hs i hi).2) (hob _ (by simp))⟩
  · cases hc
/-! ### Spots and boxes that numbers make -/
/-- A remainder that is not below 0. -/
def modS (n m : Int) : Int := if n.tmod m < 0 then n.tmod m + m else n.tmod m
def c16 : Con
  | [.v (.int .i64 n), .v (.int .i64 m)] => some ([0 < m, inR n, inR m], i64 (modS n m))
  | _ => none
theorem con16 : ConOK Tryz.prog 16 c16 := ConOK.of (G := []) (H := []) .nil Tryz.func16 fun l ob r hc hob => by
  unfold c16 at hc
  split at hc
  · rename_i n m
    cases hc
    refine ⟨by kernel_rfl, fnVC_go (rs := [.tmp 4]) rfl rfl ?_⟩
    have h0 : 0 < m := hob _ (by simp)
    have h1 : inR n := hob _ (by simp)
    have h2 : inR m := hob _ (by simp)
    simp only [go_sem]
    refine ⟨by omega, fun z hz => ⟨fun hn z1 k1 => ?_, fun hn => ?_⟩⟩
    · have hb : -m < z := by rw [hz]; have := Int.lt_tmod_of_pos n h0; omega
      unfold inR at h2
      rw [wrap_in (by unfold inR; omega)] at k1
      unfold modS
      rw [← hz, if_pos hn, k1]
    · unfold modS
      rw [← hz, if_neg hn]
  · cases hc

/-! ### Sides -/
theorem mul_bd {x y A B : Int} (hA : 0 ≤ A) (hx : -A ≤ x ∧ x ≤ A) (hy : -B ≤ y ∧ y ≤ B) : -(A * B) ≤ x * y ∧ x * y ≤ A * B := by
  have h1 : (x * y).natAbs = x.natAbs * y.natAbs := Int.natAbs_mul x y
  have h2 : x.natAbs * y.natAbs ≤ A.natAbs * B.natAbs := Nat.mul_le_mul (by omega) (by omega)
  have h3 : (A * B).natAbs = A.natAbs * B.natAbs := Int.natAbs_mul A B
  have h4 : 0 ≤ A * B := Int.mul_nonneg hA (by omega)
  omega
/-- An even smaller number. -/
def sm (x : Int) : Prop := -4194304 ≤ x ∧ x ≤ 4194304
theorem sm_mul {x y : Int} (hx : sm x) (hy : sm y) : -17592186044416 ≤ x * y ∧ x * y ≤ 17592186044416 := by
  have := mul_bd (A := 4194304) (B := 4194304) (by omega) hx hy
  omega
def c151 : Con
  | [.agg [.v (.int .i64 a), .v (.int .i64 b)], .agg [.v (.int .i64 c), .v (.int .i64 d)]] => some ([], .agg [i64 (IntKind.i64.wrap (c - a)), i64 (IntKind.i64.wrap (d - b))])
  | _ => none
theorem con151 : ConOK Tryz.prog 151 c151 := ConOK.of (G := []) (H := []) .nil Tryz.func151 fun l ob r hc hob => by
  unfold c151 at hc
  split at hc
  · cases hc
    refine ⟨by kernel_rfl, fnVC_go (rs := [.cell 4 42]) rfl rfl ?_⟩
    simp only [go_sem]
    intro z h z1 h1
    subst h h1
    rfl
  · cases hc
def c150 : Con
  | [.agg [.v (.int .i64 a), .v (.int .i64 b)], .agg [.v (.int .i64 c), .v (.int .i64 d)]] => some ([], i64 (IntKind.i64.wrap (IntKind.i64.wrap (a * d) - IntKind.i64.wrap (b * c))))
  | _ => none
theorem con150 : ConOK Tryz.prog 150 c150 := ConOK.of (G := []) (H := []) .nil Tryz.func150 fun l ob r hc hob => by
  unfold c150 at hc
  split at hc
  · cases hc
    refine ⟨by kernel_rfl, fnVC_go (rs := [.tmp 4]) rfl rfl ?_⟩
    simp only [go_sem]
    intro z h z1 h1 z2 h2
    rw [h2, h1, h]
  · cases hc
/-- (b - a) x (c - a). -/
def turnS (ax ay bx byy cx cy : Int) : Int := (bx - ax) * (cy - ay) - (byy - ay) * (cx - ax)
theorem turn_wrap {ax ay bx byy cx cy : Int} (ha : validS ax ay = true) (hb : validS bx byy = true) (hc : validS cx cy = true) :
    IntKind.i64.wrap (IntKind.i64.wrap (IntKind.i64.wrap (bx - ax) * IntKind.i64.wrap (cy - ay)) - IntKind.i64.wrap (IntKind.i64.wrap (byy - ay) * IntKind.i64.wrap (cx - ax))) = turnS ax ay bx byy cx cy := by
  rw [validS_iff] at ha hb hc
  rw [wrap_in (x := bx - ax) (by unfold inR; omega), wrap_in (x := cy - ay) (by unfold inR; omega), wrap_in (x := byy - ay) (by unfold inR; omega), wrap_in (x := cx - ax) (by unfold inR; omega)]
  have h1 := sm_mul (x := bx - ax) (y := cy - ay) (by unfold sm; omega) (by unfold sm; omega)
  have h2 := sm_mul (x := byy - ay) (y := cx - ax) (by unfold sm; omega) (by unfold sm; omega)
  rw [wrap_in (x := (bx - ax) * (cy - ay)) (by unfold inR; omega), wrap_in (x := (byy - ay) * (cx - ax)) (by unfold inR; omega), wrap_in (by unfold inR; omega)]
  rfl
def c119 : Con
  | [.agg [.v (.int .i64 a), .v (.int .i64 b)], .agg [.v (.int .i64 c), .v (.int .i64 d)], .agg [.v (.int .i64 e), .v (.int .i64 f)]] => some ([validS a b = true, validS c d = true, validS e f = true], i64 (turnS a b c d e f))
  | _ => none
theorem con119 : ConOK Tryz.prog 119 c119 := ConOK.of (G := [(150, c150), (151, c151)]) (H := []) (.cons con150 (.cons con151 .nil)) Tryz.func119 fun l ob r hc hob => by
  unfold c119 at hc
  split at hc
  · rename_i a b c d e f
    cases hc
    have h1 : validS a b = true := hob _ (by simp)
    have h2 : validS c d = true := hob _ (by simp)
    have h3 : validS e f = true := hob _ (by simp)
    refine ⟨by kernel_rfl, fnVC_go (rs := [.tmp 6]) rfl rfl ?_⟩
    simp only [go_sem, c150, c151]
    intro z k z1 k1 z2 k2 z3 k3 z4 k4
    subst k k1 k2 k3
    rw [k4, turn_wrap h1 h2 h3]
  · cases hc
end Go.Ax
end

section
/-
  The laws of boxes: what the functions hand back.
-/
set_option linter.unusedVariables false
set_option linter.unusedSimpArgs false
set_option maxHeartbeats 2000000
set_option maxRecDepth 100000
namespace Go.Ax
open Go.Proofs
def joinT (a b c d e f g h : Int) (k : Nat) : Int := if checkBoxS a b c d = 0 ∧ checkBoxS e f g h = 0 then (match k with
  | 0 => min a e
  | 1 => min b f
  | 2 => max c g
  | _ => max d h) else 0
theorem rows_0 {a b c d : AV} {l : List AV} : rowsOf 4 (a :: b :: c :: d :: l) 0 = [a, b, c, d] := (rfl)
theorem rows_1 {a b c d e f g h : AV} {l : List AV} : rowsOf 4 (a :: b :: c :: d :: e :: f :: g :: h :: l) 1 = [e, f, g, h] := (rfl)
theorem boxes_2 {a b c d e f g h : Int} : boxes 2 (rowsOf 4 [i64 a, i64 b, i64 c, i64 d, i64 e, i64 f, i64 g, i64 h]) = ((inR a ∧ inR b ∧ inR c ∧ inR d) ∧ inR e ∧ inR f ∧ inR g ∧ inR h) := propext ⟨fun H => by
    have h0 := (H 0 (by omega)).2
    have h1 := (H 1 (by omega)).2
    simp only [gx, rows_0, rows_1, gi_0, gi_1, gi_2, gi_3] at h0 h1
    exact ⟨h0, h1⟩, fun ⟨h0, h1⟩ i hi => by
    have : i = 0 ∨ i = 1 := by omega
    rcases this with rfl | rfl
    · simp only [gx, rows_0, gi_0, gi_1, gi_2, gi_3]; exact ⟨trivial, h0⟩
    · simp only [gx, rows_1, gi_0, gi_1, gi_2, gi_3]; exact ⟨trivial, h1⟩⟩
theorem okB_2 {A B C D : Nat → Int} : okB 2 A B C D ↔ checkBoxS (A 0) (B 0) (C 0) (D 0) = 0 ∧ checkBoxS (A 1) (B 1) (C 1) (D 1) = 0 :=
  ⟨fun h => ⟨h 0 (by omega), h 1 (by omega)⟩, fun ⟨h0, h1⟩ i hi => by
    have : i = 0 ∨ i = 1 := by omega
    rcases this with rfl | rfl <;> assumption⟩
theorem join_2 {a b c d e f g h : Int} {k : Nat} (hk : k < 4) : joinS 2 (gx (rowsOf 4 [i64 a, i64 b, i64 c, i64 d, i64 e, i64 f, i64 g, i64 h]) 0) (gx (rowsOf 4 [i64 a, i64 b, i64 c, i64 d, i64 e, i64 f, i64 g, i64 h]) 1) (gx (rowsOf 4 [i64 a, i64 b, i64 c, i64 d, i64 e, i64 f, i64 g, i64 h]) 2) (gx (rowsOf 4 [i64 a, i64 b, i64 c, i64 d, i64 e, i64 f, i64 g, i64 h]) 3) k = joinT a b c d e f g h k := by
  unfold joinS joinT
  simp only [okB_2, mnS, mxS, gx, rows_0, rows_1, gi_0, gi_1, gi_2, gi_3]
  have : k = 0 ∨ k = 1 ∨ k = 2 ∨ k = 3 := by omega
  rcases this with rfl | rfl | rfl | rfl <;> simp
attribute [go_sem] boxes_2 join_2 Nat.lt_irrefl
end Go.Ax
end

section
/-
  Iterators: an iterator's code is walked piece by piece, the calls of yield between them.
-/
set_option linter.unusedSimpArgs false
set_option linter.unusedVariables false
namespace Go.Ax
open Go.RowKit

section
variable {P : Program} {G : Ctx} {w0 : Base} {w : World} {ρ : Env} {m : Mem} {D : Nat → Prop} {t : Slots} {nt : Nat} {ds : Frm} {a : Act} {ro : Option Nat} {n : Nat} {Q : Exit → Act → World → Prop} {H : Hots} {K : AEx → St → Prop} {s : St} {c : Code} {I : Nat → Prop}

/-- The value of a slot. -/
theorem R.val {x y : Value} (h : R w ρ (.v x) y) : y = x := by cases h; rfl
theorem SR.val {j : Nat} {x : Value} (h : SR w0 ρ t m D nt ds a w) (hj : slot t j = .v x) : a.tmps.getD j undef = x := by
  have := h.slots j
  rw [hj] at this
  exact this.val
end
end Go.Ax
end

section
/-
  The iterator over a polygon's edges.
-/
set_option linter.unusedVariables false
set_option linter.unusedSimpArgs false
set_option maxHeartbeats 1000000
set_option maxRecDepth 100000
namespace Go.Ax
open Go.Proofs

end Go.Ax
end

section
/-
  Spots: sides, convex spots.
-/
set_option linter.unusedVariables false
set_option linter.unusedSimpArgs false
set_option maxHeartbeats 1000000
set_option maxRecDepth 100000
namespace Go.Ax
open Go.Proofs

end Go.Ax
end

section
/-
  Spots: what the reference says; copies of spots.
-/
set_option linter.unusedVariables false
set_option linter.unusedSimpArgs false
set_option maxHeartbeats 1000000
set_option maxRecDepth 100000
namespace Go.Ax
open Go.Proofs

end Go.Ax
end

section
/-
  Forms: what is valid; copies; which spots a form has.
-/
set_option linter.unusedVariables false
set_option linter.unusedSimpArgs false
set_option maxHeartbeats 1000000
set_option maxRecDepth 100000
namespace Go.Ax
open Go.Proofs

instance {n : Nat} {X Y : Nat → Int} : Decidable (∀ i, i < n → validS (X i) (Y i) = true) := inferInstance
end Go.Ax
end

section
/-
  Ways and boxes.
-/
set_option linter.unusedVariables false
set_option linter.unusedSimpArgs false
set_option maxHeartbeats 4000000
set_option maxRecDepth 100000
namespace Go.Ax
open Go.Proofs
theorem fair2r {a b c d : Int} : fairS 2 (gx (rowsOf 2 [i64 a, i64 b, i64 c, i64 d]) 0) (gx (rowsOf 2 [i64 a, i64 b, i64 c, i64 d]) 1) = (validS a b && validS c d) := fair2 rfl rfl
/-! ### An element of an array's value -/
section
variable {P : Program} {G : Ctx} {key : Nat} {d : Option Tmp} {q ty : TypeId} {pos : String} {af : Array Edge} {gd : Option (Nat × Bool)} {g : Option Bool} {ρ0 : Operand → AV} {m : Mem}
def idzE (P : Program) (q : TypeId) (a b : AV) : Option Eff := match flat a with
  | some x => match flat b with
    | some y => match pureRun P (Instr.index q x y) with
      | some v => some ⟨[], ofVal v, .none⟩
      | none => none
    | none => none
  | none => none
theorem aStep_idz {x i : Operand} : aStep P G key g ⟨d, .index q x i, ty, pos, af, gd⟩ ρ0 m = idzE P q (strip (ρ0 x)) (strip (ρ0 i)) := by
  show effOf (aPure P (fun x => strip (ρ0 x)) ⟨d, .index q x i, ty, pos, af, gd⟩) = _
  unfold aPure idzE
  dsimp only [Op.operands, List.map, flatAll]
  cases hx : flat (strip (ρ0 x)) with
  | none => rfl
  | some vx =>
    dsimp only
    cases hi : flat (strip (ρ0 i)) with
    | none => rfl
    | some vi =>
      dsimp only
      have : execOp (fun x => (flat (strip (ρ0 x))).getD undef) ⟨d, .index q x i, ty, pos, af, gd⟩ = Sem.bind (Instr.index q vx vi) fun v => Sem.pure (Next.value v) := by
        show Sem.bind (Instr.index q ((flat (strip (ρ0 x))).getD undef) ((flat (strip (ρ0 i))).getD undef)) (fun v => Sem.pure (Next.value v)) = _
        rw [hx, hi]; rfl
      rw [this, pureRun_bind]
      cases pureRun P (Instr.index q vx vi) <;> rfl
end
theorem idx145_0 {a b : Int} : idzE Tryz.prog 145 (.agg [i64 a, i64 b]) (.v (.int .i64 0)) = some ⟨[], i64 a, .none⟩ := by kernel_rfl
theorem idx145_1 {a b : Int} : idzE Tryz.prog 145 (.agg [i64 a, i64 b]) (.v (.int .i64 1)) = some ⟨[], i64 b, .none⟩ := by kernel_rfl
attribute [go_sem] aStep_idz idx145_0 idx145_1
/-- The box around a way. -/
def wayB (a b c d : Int) (k : Nat) : Int := joinT (IntKind.i64.wrap (a - 0)) (IntKind.i64.wrap (b - 0)) (IntKind.i64.wrap (a + 0)) (IntKind.i64.wrap (b + 0)) (IntKind.i64.wrap (c - 0)) (IntKind.i64.wrap (d - 0)) (IntKind.i64.wrap (c + 0)) (IntKind.i64.wrap (d + 0)) k
/-- The corner of a box. -/
def crS (a b c d x0 y0 x1 y1 : Int) (j : Nat) : Int := turnS a b c d (if j < 2 then x0 else x1) (if j % 2 = 0 then y0 else y1)
/-- The way meets the box. -/
def alS (x0 y0 x1 y1 a b c d : Int) : Bool := validS a b && (validS c d && (meetsS x0 y0 x1 y1 (wayB a b c d 0) (wayB a b c d 1) (wayB a b c d 2) (wayB a b c d 3) && (anyB (fun j => decide (crS a b c d x0 y0 x1 y1 j ≤ 0)) 4 && anyB (fun j => decide (0 ≤ crS a b c d x0 y0 x1 y1 j)) 4)))
def c78 : Con
  | [.agg [.v (.int .i64 x0), .v (.int .i64 y0), .v (.int .i64 x1), .v (.int .i64 y1)], .agg [.v (.int .i64 a), .v (.int .i64 b)], .agg [.v (.int .i64 c), .v (.int .i64 d)]] => some ([inR x0, inR y0, inR x1, inR y1, inR a, inR b, inR c, inR d], bo (alS x0 y0 x1 y1 a b c d))
  | _ => none
theorem con78 : ConOK Tryz.prog 78 c78 := ConOK.of (G := [(109, c109), (118, c118), (117, c117), (72, c72), (119, c119)]) (H := []) (.cons con109 (.cons con118 (.cons con117 (.cons con72 (.cons con119 .nil))))) Tryz.func78 fun l ob r hc hob => by
  unfold c78 at hc
  split at hc
  · rename_i x0 y0 x1 y1 a b c d
    cases hc
    have h_0 : inR x0 := hob _ (by simp)
    have h_1 : inR y0 := hob _ (by simp)
    have h_2 : inR x1 := hob _ (by simp)
    have h_3 : inR y1 := hob _ (by simp)
    have h_4 : inR a := hob _ (by simp)
    have h_5 : inR b := hob _ (by simp)
    have h_6 : inR c := hob _ (by simp)
    have h_7 : inR d := hob _ (by simp)
    refine ⟨by kernel_rfl, fnVC_go (rs := [.tmp 6]) rfl rfl ?_⟩
    simp only [go_sem, c109, c118, c117, c72, c119]
    have hsp : spots 2 (rowsOf 2 [i64 a, i64 b, i64 c, i64 d]) := spots2 rfl rfl h_4 h_5 h_6 h_7
    have hfa := fair2r (a := a) (b := b) (c := c) (d := d)
    rw [hfa]
    intro z hz
    have wv : z = true → validS a b = true ∧ validS c d = true ∧ IntKind.i64.wrap (a - 0) = a ∧ IntKind.i64.wrap (b - 0) = b ∧ IntKind.i64.wrap (a + 0) = a ∧ IntKind.i64.wrap (b + 0) = b ∧ IntKind.i64.wrap (c - 0) = c ∧ IntKind.i64.wrap (d - 0) = d ∧ IntKind.i64.wrap (c + 0) = c ∧ IntKind.i64.wrap (d + 0) = d := fun h => by
      have hv : validS a b = true ∧ validS c d = true := by rw [hz] at h; simpa using h
      refine ⟨hv.1, hv.2, ?_, ?_, ?_, ?_, ?_, ?_, ?_, ?_⟩ <;> (rw [wrap_in (by unfold inR at *; omega)]; omega)
    have wj : ∀ k, z = true → inR (wayB a b c d k) := fun k h => by
      obtain ⟨v1, v2, e1, e2, e3, e4, e5, e6, e7, e8⟩ := wv h
      unfold wayB joinT
      rw [e1, e2, e3, e4, e5, e6, e7, e8]
      rw [validS_iff] at v1 v2
      unfold inR
      split
      · split <;> omega
      · omega
    refine ⟨hsp, fun h => ?_, fun _ => trivial, fun z1 hz1 => ⟨fun _ => h_0, fun _ => h_1, fun _ => h_2, fun _ => h_3, fun h => wj 0 h, fun h => wj 1 h, fun h => wj 2 h, fun h => wj 3 h, fun h => ?_, fun h => ?_⟩⟩
    · obtain ⟨v1, v2, e1, e2, e3, e4, e5, e6, e7, e8⟩ := wv h
      rw [e1, e2, e3, e4, e5, e6, e7, e8]
      exact ⟨⟨h_4, h_5, h_4, h_5⟩, h_6, h_7, h_6, h_7⟩
    · unfold alS wayB
      rcases h with h | h
      · rw [hz] at h
        rw [← Bool.and_assoc, h, Bool.false_and]
      · rw [hz1] at h
        rw [h, Bool.false_and, Bool.and_false, Bool.and_false]
    · obtain ⟨v1, v2, _⟩ := wv h.1
      have hm := h.2
      rw [hz1] at hm
      have hms := of_decide_eq_true hm
      have hcb := checkBoxS_iff.1 hms.1
      have q00 : validS x0 y0 = true := validS_iff.2 (by omega)
      have q01 : validS x0 y1 = true := validS_iff.2 (by omega)
      have q10 : validS x1 y0 = true := validS_iff.2 (by omega)
      have q11 : validS x1 y1 = true := validS_iff.2 (by omega)
      have eal : alS x0 y0 x1 y1 a b c d = (anyB (fun j => decide (crS a b c d x0 y0 x1 y1 j ≤ 0)) 4 && anyB (fun j => decide (0 ≤ crS a b c d x0 y0 x1 y1 j)) 4) := by
        unfold alS wayB
        rw [v1, v2, hm]; rfl
      have c0 : crS a b c d x0 y0 x1 y1 0 = turnS a b c d x0 y0 := rfl
      have c1 : crS a b c d x0 y0 x1 y1 1 = turnS a b c d x0 y1 := rfl
      have c2 : crS a b c d x0 y0 x1 y1 2 = turnS a b c d x1 y0 := rfl
      have c3 : crS a b c d x0 y0 x1 y1 3 = turnS a b c d x1 y1 := rfl
      rw [eal]
      clear eal wv wj hms hm hz hz1
      generalize crS a b c d x0 y0 x1 y1 = T at *
      have w1 : IntKind.i64.wrap 1 = 1 := wrap_in (by unfold inR; omega)
      have w2 : IntKind.i64.wrap 2 = 2 := wrap_in (by unfold inR; omega)
      refine loopC_go (fun (i : Nat) => i ≤ 2) (fun i => 2 - i) (fun i => [(35, i64 i), (7, bo (anyB (fun j => decide (T j ≤ 0)) (2 * i))), (8, bo (anyB (fun j => decide (0 ≤ T j)) (2 * i)))]) (fun _ => []) [2, 1, 0] [36, 37, 10, 38, 39, 40, 41, 42, 43, 44, 45, 12, 46, 47, 48, 49, 50, 51, 13, 52, 53, 54, 55, 56, 57, 58, 59, 60, 61, 7, 8, 62, 43, 63, 35] 0 (by kernel_rfl) ?_ (Nat.zero_le _) ?_ ?_
      · intro x _; simp [goodNames]
      · simp only [go_sem, Nat.mul_zero, anyB]
      · intro i hi
        have hi : i = 0 ∨ i = 1 ∨ i = 2 := by omega
        rcases hi with rfl | rfl | rfl
        · simp only [go_sem]
          refine ⟨?_, fun h => (by cases h)⟩
          refine loopC_go (fun (j : Nat) => j ≤ 2) (fun j => 2 - j) (fun j => [(43, i64 j), (7, bo (anyB (fun j => decide (T j ≤ 0)) (0 + j))), (8, bo (anyB (fun j => decide (0 ≤ T j)) (0 + j)))]) (fun _ => []) [2, 1, 0] [44, 45, 12, 46, 47, 48, 49, 50, 51, 13, 52, 53, 54, 55, 56, 57, 58, 59, 60, 61, 7, 8, 62, 43] 0 (by kernel_rfl) ?_ (Nat.zero_le _) ?_ ?_
          · intro x _; simp [goodNames]
          · simp only [go_sem]
          · intro j hj
            have hj : j = 0 ∨ j = 1 ∨ j = 2 := by omega
            rcases hj with rfl | rfl | rfl
            · simp only [go_sem, c119]
              refine ⟨fun z hz => ⟨v1, v2, q00, fun z1 hz1 => ⟨1, by omega, by omega, by rw [hz1, w1]; rfl, ?_, ?_⟩⟩, fun h => (by cases h)⟩
              · rw [hz, ← c0]; rfl
              · rw [hz, ← c0]; rfl
            · simp only [go_sem, c119]
              refine ⟨fun z hz => ⟨v1, v2, q01, fun z1 hz1 => ⟨2, by omega, by omega, by rw [hz1, w2]; rfl, ?_, ?_⟩⟩, fun h => (by cases h)⟩
              · rw [hz, ← c1]; rfl
              · rw [hz, ← c1]; rfl
            · simp only [go_sem]
              exact fun z hz => ⟨1, by omega, by omega, by rw [hz, w1]; rfl, rfl, rfl⟩
        · simp only [go_sem]
          refine ⟨?_, fun h => (by cases h)⟩
          refine loopC_go (fun (j : Nat) => j ≤ 2) (fun j => 2 - j) (fun j => [(43, i64 j), (7, bo (anyB (fun j => decide (T j ≤ 0)) (2 + j))), (8, bo (anyB (fun j => decide (0 ≤ T j)) (2 + j)))]) (fun _ => []) [2, 1, 0] [44, 45, 12, 46, 47, 48, 49, 50, 51, 13, 52, 53, 54, 55, 56, 57, 58, 59, 60, 61, 7, 8, 62, 43] 0 (by kernel_rfl) ?_ (Nat.zero_le _) ?_ ?_
          · intro x _; simp [goodNames]
          · simp only [go_sem]
          · intro j hj
            have hj : j = 0 ∨ j = 1 ∨ j = 2 := by omega
            rcases hj with rfl | rfl | rfl
            · simp only [go_sem, c119]
              refine ⟨fun z hz => ⟨v1, v2, q10, fun z1 hz1 => ⟨1, by omega, by omega, by rw [hz1, w1]; rfl, ?_, ?_⟩⟩, fun h => (by cases h)⟩
              · rw [hz, ← c2]; rfl
              · rw [hz, ← c2]; rfl
            · simp only [go_sem, c119]
              refine ⟨fun z hz => ⟨v1, v2, q11, fun z1 hz1 => ⟨2, by omega, by omega, by rw [hz1, w2]; rfl, ?_, ?_⟩⟩, fun h => (by cases h)⟩
              · rw [hz, ← c3]; rfl
              · rw [hz, ← c3]; rfl
            · simp only [go_sem]
              exact fun z hz => ⟨2, by omega, by omega, by rw [hz, w2]; rfl, rfl, rfl⟩
        · simp only [go_sem]
  · cases hc
end Go.Ax
end

section
/-
  The closures of the sweep's queries.
-/
set_option linter.unusedVariables false
set_option linter.unusedSimpArgs false
set_option maxHeartbeats 4000000
set_option maxRecDepth 100000
namespace Go.Ax
open Go.Proofs
def c113 : Con
  | [.v (.int .i64 v)] => some ([], bo false)
  | _ => none
theorem con113 : ConOK Tryz.prog 113 c113 := ConOK.of (G := []) (H := []) .nil Tryz.func113 fun l ob r hc hob => by
  unfold c113 at hc
  split at hc
  · rename_i v
    cases hc
    refine ⟨by kernel_rfl, fnVC_go (rs := [.tmp 2]) rfl rfl ?_⟩
    simp only [go_sem]
    exact bne_self
  · cases hc
def c69 : Con
  | [.v (.int .i64 x), .v (.int .i64 y)] => some ([], i64 (cmpS x y))
  | _ => none
theorem con69 : ConOK Tryz.prog 69 c69 := ConOK.of (G := [(113, c113)]) (H := []) (.cons con113 .nil) Tryz.func69 fun l ob r hc hob => by
  unfold c69 at hc
  split at hc
  · rename_i x y
    cases hc
    refine ⟨by kernel_rfl, fnVC_go (rs := [.tmp 4]) rfl rfl ?_⟩
    simp only [go_sem, c113]
    intro z hz z1 hz1
    subst hz hz1
    unfold cmpS
    refine ⟨fun h => (by cases h), fun _ => ⟨fun h => (by cases h), fun _ => ⟨fun h => by rw [if_pos h], fun h => ⟨fun h2 => by rw [if_neg h, if_pos h2], fun h2 => by rw [if_neg h, if_neg h2]⟩⟩⟩⟩
  · cases hc
theorem or2 {z z1 : Int} : orS (gx (rowsOf 1 [i64 z, i64 z1]) 0) 0 2 = if z ≠ 0 then z else z1 := by
  show (if z ≠ 0 then z else if z1 ≠ 0 then z1 else 0) = _
  split
  · rfl
  · split
    · rfl
    · omega
theorem or2_ok {z z1 : Int} : ∀ i, i < 2 → List.take 1 (List.drop (i * 1) [i64 z, i64 z1]) = [i64 (gi (List.take 1 (List.drop (i * 1) [i64 z, i64 z1])) 0)]
  | 0, _ => rfl
  | 1, _ => rfl
  | i + 2, h => by omega
/-- The boxes of a map are made of numbers of the machine. -/
def selIn (L : Ents) : Prop := ∀ k j, inR (selAt (memSel L k) j)
def c71 : Con
  | [.v (.int .i64 k), .rop [.rop [.rm 4 L]], .rop (.v (.int .i64 a) :: l)] => some ([], bo (decide (selAt (memSel L k) 2 < a)))
  | _ => none
theorem con71 : ConOK Tryz.prog 71 c71 := ConOK.of (G := []) (H := []) .nil Tryz.func71 fun l ob rr hc hob => by
  unfold c71 at hc
  split at hc
  · rename_i k L a l
    cases hc
    refine ⟨by kernel_rfl, fnVC_go (rs := [.tmp 4]) rfl rfl ?_⟩
    simp only [go_sem]
    skip
  · cases hc
def c66 : Con
  | [.v (.int .i64 a), .v (.int .i64 b), .rop [.rop [.rm 4 L]]] => some ([], i64 (if cmpS (selAt (memSel L a) 0) (selAt (memSel L b) 0) ≠ 0 then cmpS (selAt (memSel L a) 0) (selAt (memSel L b) 0) else cmpS a b))
  | _ => none
theorem con66 : ConOK Tryz.prog 66 c66 := ConOK.of (G := [(68, c68), (69, c69), (67, c67)]) (H := []) (.cons con68 (.cons con69 (.cons con67 .nil))) Tryz.func66 fun l ob rr hc hob => by
  unfold c66 at hc
  split at hc
  · rename_i a b L
    cases hc
    refine ⟨by kernel_rfl, fnVC_go (rs := [.tmp 5]) rfl rfl ?_⟩
    simp only [go_sem, c68, c69, c67]
    rintro z rfl z1 rfl z2 rfl
    exact ⟨or2_ok, or2⟩
  · cases hc
def c74 : Con
  | [.agg [.v (.int .i64 a), .v (.int .i64 b)], .agg [.v (.int .i64 c), .v (.int .i64 d)]] => some ([], i64 (if cmpS a c ≠ 0 then cmpS a c else cmpS b d))
  | _ => none
theorem con74 : ConOK Tryz.prog 74 c74 := ConOK.of (G := [(69, c69), (67, c67)]) (H := []) (.cons con69 (.cons con67 .nil)) Tryz.func74 fun l ob rr hc hob => by
  unfold c74 at hc
  split at hc
  · rename_i a b c d
    cases hc
    refine ⟨by kernel_rfl, fnVC_go (rs := [.tmp 4]) rfl rfl ?_⟩
    simp only [go_sem, c69, c67]
    rintro z rfl z1 rfl z2 rfl
    exact ⟨or2_ok, or2⟩
  · cases hc
def c102 : Con
  | [.agg [.v (.int .i64 x), .v (.int .i64 y), .v (.int .i64 z), .v (.int .i64 t)], .rop [.v (.int .i64 a), .v (.int .i64 b), .v (.int .i64 c), .v (.int .i64 d)]] => some ([inR x, inR y, inR z, inR t, inR a, inR b, inR c, inR d], bo (meetsS x y z t a b c d))
  | _ => none
theorem con102 : ConOK Tryz.prog 102 c102 := ConOK.of (G := [(72, c72)]) (H := []) (.cons con72 .nil) Tryz.func102 fun l ob rr hc hob => by
  unfold c102 at hc
  split at hc
  · rename_i x y z t a b c d
    cases hc
    have h_0 : inR x := hob _ (by simp)
    have h_1 : inR y := hob _ (by simp)
    have h_2 : inR z := hob _ (by simp)
    have h_3 : inR t := hob _ (by simp)
    have h_4 : inR a := hob _ (by simp)
    have h_5 : inR b := hob _ (by simp)
    have h_6 : inR c := hob _ (by simp)
    have h_7 : inR d := hob _ (by simp)
    refine ⟨by kernel_rfl, fnVC_go (rs := [.tmp 3]) rfl rfl ?_⟩
    simp only [go_sem, c72, h_0, h_1, h_2, h_3, h_4, h_5, h_6, h_7]
    exact fun _ => trivial
  · cases hc
def c77 : Con
  | [.agg [.v (.int .i64 x), .v (.int .i64 y), .v (.int .i64 z), .v (.int .i64 t)], .rop [.v (.int .i64 a), .v (.int .i64 b)], .rop [.v (.int .i64 c), .v (.int .i64 d)]] => some ([inR x, inR y, inR z, inR t, inR a, inR b, inR c, inR d], bo (alS x y z t a b c d))
  | _ => none
theorem con77 : ConOK Tryz.prog 77 c77 := ConOK.of (G := [(78, c78)]) (H := []) (.cons con78 .nil) Tryz.func77 fun l ob rr hc hob => by
  unfold c77 at hc
  split at hc
  · rename_i x y z t a b c d
    cases hc
    have h_0 : inR x := hob _ (by simp)
    have h_1 : inR y := hob _ (by simp)
    have h_2 : inR z := hob _ (by simp)
    have h_3 : inR t := hob _ (by simp)
    have h_4 : inR a := hob _ (by simp)
    have h_5 : inR b := hob _ (by simp)
    have h_6 : inR c := hob _ (by simp)
    have h_7 : inR d := hob _ (by simp)
    refine ⟨by kernel_rfl, fnVC_go (rs := [.tmp 4]) rfl rfl ?_⟩
    simp only [go_sem, c78, h_0, h_1, h_2, h_3, h_4, h_5, h_6, h_7]
    exact fun _ => trivial
  · cases hc
/-- What a question to a box says. -/
def bpr : AV → Option (Prop × (Int → Int → Int → Int → Bool))
  | .fn 102 [.rop [.v (.int .i64 a), .v (.int .i64 b), .v (.int .i64 c), .v (.int .i64 d)]] => some (inR a ∧ inR b ∧ inR c ∧ inR d, fun x y z t => meetsS x y z t a b c d)
  | .fn 77 [.rop [.v (.int .i64 a), .v (.int .i64 b)], .rop [.v (.int .i64 c), .v (.int .i64 d)]] => some (inR a ∧ inR b ∧ inR c ∧ inR d, fun x y z t => alS x y z t a b c d)
  | _ => none
theorem bpr_102 {a b c d : Int} : bpr (.fn 102 [.rop [i64 a, i64 b, i64 c, i64 d]]) = some (inR a ∧ inR b ∧ inR c ∧ inR d, fun x y z t => meetsS x y z t a b c d) := (rfl)
theorem bpr_77 {a b c d : Int} : bpr (.fn 77 [.rop [i64 a, i64 b], .rop [i64 c, i64 d]]) = some (inR a ∧ inR b ∧ inR c ∧ inR d, fun x y z t => alS x y z t a b c d) := (rfl)
def c116f (k : Int) (L : Ents) : Option (Prop × (Int → Int → Int → Int → Bool)) → Option (List Prop × AV)
  | some (o, p) => some ([selIn L, o], bo (!p (selAt (memSel L k) 0) (selAt (memSel L k) 1) (selAt (memSel L k) 2) (selAt (memSel L k) 3)))
  | none => none
def c116 : Con
  | [.v (.int .i64 k), .rop [B], .rop [.rop [.rm 4 L]]] => c116f k L (bpr B)
  | _ => none
theorem c116_eq {k : Int} {B : AV} {L : Ents} : c116 [i64 k, .rop [B], .rop [.rop [.rm 4 L]]] = c116f k L (bpr B) := (rfl)
theorem c116f_some {k : Int} {L : Ents} {o : Prop} {p : Int → Int → Int → Int → Bool} : c116f k L (some (o, p)) = some ([selIn L, o], bo (!p (selAt (memSel L k) 0) (selAt (memSel L k) 1) (selAt (memSel L k) 2) (selAt (memSel L k) 3))) := (rfl)
attribute [go_sem] bpr_102 bpr_77 c116_eq c116f_some
theorem con116 : ConOK Tryz.prog 116 c116 := ConOK.of (G := [(102, c102), (77, c77)]) (H := []) (.cons con102 (.cons con77 .nil)) Tryz.func116 fun l ob rr hc hob => by
  unfold c116 at hc
  split at hc
  · rename_i k B L
    unfold c116f at hc
    split at hc
    · rename_i o p hp
      cases hc
      have hs : selIn L := hob _ (by simp)
      have ho : o := hob _ (by simp)
      have s0 := hs k 0
      have s1 := hs k 1
      have s2 := hs k 2
      have s3 := hs k 3
      refine ⟨by kernel_rfl, fnVC_go (rs := [.tmp 4]) rfl rfl ?_⟩
      unfold bpr at hp
      split at hp
      · cases hp
        obtain ⟨o1, o2, o3, o4⟩ := ho
        simp only [go_sem, c102, c77, c102, c77, s0, s1, s2, s3, o1, o2, o3, o4]
        rintro z rfl
        rfl
      · cases hp
        obtain ⟨o1, o2, o3, o4⟩ := ho
        simp only [go_sem, c102, c77, c102, c77, s0, s1, s2, s3, o1, o2, o3, o4]
        rintro z rfl
        rfl
      · cases hp
    · cases hc
  · cases hc
end Go.Ax
end

section
/-
  Functions that write a slice of one's own; all else that they are handed they see ars memory to read.
-/
set_option linter.unusedSimpArgs false
set_option linter.unusedVariables false
namespace Go.Ax
/-- Nothing in it lies in memory that is only read. -/
def nro : Nat → AV → Prop
  | _, .v _ => True
  | _, .any => True
  | _, .bx _ _ => True
  | _, .ptr _ _ _ _ _ => True
  | _, .own _ _ _ _ => True
  | _, .mp _ _ => True
  | d + 1, .agg cs => ∀ c ∈ cs, nro d c
  | d + 1, .tup cs => ∀ c ∈ cs, nro d c
  | _, _ => False
def famNro (y : Fam) : Prop := ∀ f, ∀ j, j < (y f).n → ∀ c ∈ (y f).get j, nro 1 c
def Env.im (ρ : Env) (J : Nat → Prop) : Env := { ρ with imm := J }
theorem R.nro {w : World} {ρ : Env} {J : Nat → Prop} : ∀ (d : Nat) {a : AV} {x : Value}, nro d a → R w ρ a x → R w (ρ.im J) a x
  | d, .v y, x, _, h => by cases h; exact .v
  | d, .any, x, _, h => .any
  | d, .bx r k, x, _, h => by cases h with | bx hd => exact .bx (ρ := ρ.im J) hd
  | d, .ptr r f i sz k, x, _, h => by cases h with | ptr hd => exact .ptr (ρ := ρ.im J) hd
  | d, .own r f n sz, x, _, h => by cases h with | own hd hn ha => exact .own (ρ := ρ.im J) hd hn ha
  | d, .mp r f, x, _, h => by cases h with | mp hd hc => exact .mp (ρ := ρ.im J) hd hc
  | d + 1, .agg cs, x, hk, h => by
    cases h with | agg hl hh => exact .agg hl fun i a y h1 h2 => R.nro d (hk a (List.mem_of_getElem? h1)) (hh i a y h1 h2)
  | d + 1, .tup cs, x, hk, h => by
    cases h with | tup hl hh => exact .tup hl fun i a y h1 h2 => R.nro d (hk a (List.mem_of_getElem? h1)) (hh i a y h1 h2)
  | 0, .agg _, _, hk, _ => hk.elim
  | 0, .tup _, _, hk, _ => hk.elim
  | 0, .ro _ _ _, _, hk, _ => hk.elim
  | 0, .rop _, _, hk, _ => hk.elim
  | 0, .vw _ _ _ _ _, _, hk, _ => hk.elim
  | 0, .fn _ _, _, hk, _ => hk.elim
  | 0, .iface _ _, _, hk, _ => hk.elim
  | 0, .cond _ _, _, hk, _ => hk.elim
  | 0, .rm _ _, _, hk, _ => hk.elim
  | d + 1, .ro _ _ _, _, hk, _ => hk.elim
  | d + 1, .rop _, _, hk, _ => hk.elim
  | d + 1, .vw _ _ _ _ _, _, hk, _ => hk.elim
  | d + 1, .fn _ _, _, hk, _ => hk.elim
  | d + 1, .iface _ _, _, hk, _ => hk.elim
  | d + 1, .cond _ _, _, hk, _ => hk.elim
  | d + 1, .rm _ _, _, hk, _ => hk.elim
/-- What such a function may lean on: all rows but the one. -/
def vwR (ρ : Env) (m : Mem) (r : Nat) (b : Nat) : Prop := ρ.imm b ∨ ∃ q x f, q ≠ r ∧ look m q = some x ∧ (x f).g ≠ some false ∧ 0 < ρ.cap q f ∧ b = ρ.blk q f
theorem viewR_le {ρ : Env} {m : Mem} {r : Nat} : ρ.le (ρ.im (vwR ρ m r)) := ⟨fun _ h => h, fun _ _ _ => rfl, fun _ _ _ => rfl, fun b hb => .inl hb⟩
section
variable {w0 : Base} {w w' : World} {ρ : Env} {m : Mem} {D : Nat → Prop} {key r : Nat} {x : Fam}
theorem viewR_rel (hR : Rel w0 ρ m D w) (hl : look m r = some x) : Rel w0 (ρ.im (vwR ρ m r)) [(r, x)] D w := by
  have lk : ∀ q y, look [(r, x)] q = some y → q = r ∧ y = x := fun q y hy => by
    simp only [look] at hy
    split at hy
    · rename_i e; cases hy; exact ⟨e.symm, rfl⟩
    · cases hy
  refine ⟨hR.below, fun b hb => ?_, hR.dom, fun q y hy => ?_, fun q y f hy hg => ?_, fun q y f q' y' f' hy hy' hg hg' hc hc' e => ?_, fun p hp => ?_, fun p hp => ⟨.inl (hR.kept p hp).1, (hR.kept p hp).2⟩⟩
  · have hb : vwR ρ m r b := hb
    rcases hb with hb | ⟨q, y, f, hq, h1, h2, h3, hbe⟩
    · exact hR.imm2 b hb
    · rw [hbe]; exact ⟨hR.lt h1 h2 h3, .inr ((hR.row q y f h1 h2).2.blk h3).1⟩
  · obtain ⟨rfl, rfl⟩ := lk q y hy
    exact hR.key _ _ hl
  · obtain ⟨rfl, rfl⟩ := lk q y hy
    obtain ⟨h1, h2⟩ := hR.row _ _ f hl hg
    refine ⟨h1, h2.n_le, fun hc => ?_, h2.len, fun i k c v hi h3 h4 => (h2.rel i k c v hi h3 h4).mono viewR_le (fun _ _ => rfl)⟩
    obtain ⟨b1, b2, o, b3, b4⟩ := h2.blk hc
    refine ⟨b1, fun hb => ?_, o, b3, b4⟩
    have hb : vwR ρ m q (ρ.blk q f) := hb
    rcases hb with hb | ⟨q', y', f', hq, h3, h4, h5, hbe⟩
    · exact b2 hb
    · exact hq (hR.sep q y f q' y' f' hl h3 hg h4 hc h5 hbe).1.symm
  · obtain ⟨rfl, rfl⟩ := lk q y hy
    obtain ⟨rfl, rfl⟩ := lk q' y' hy'
    exact hR.sep _ _ f _ _ f' hl hl hg hg' hc hc' e
  · obtain ⟨p1, p2, p3, p4⟩ := hR.fix p hp
    refine ⟨p1, fun q y f hy hg hc => ?_, fun hb => ?_, p4⟩
    · obtain ⟨rfl, rfl⟩ := lk q y hy
      exact p2 _ _ f hl hg hc
    · have hb : vwR ρ m r p.1 := hb
      rcases hb with hb | ⟨q, y, f, _, h1, h2, h3, e⟩
      · exact p3 hb
      · exact p2 q y f h1 h2 h3 e.symm
theorem viewR_post {v : AV} {y : Fam} {ob ob' : List Prop} {val : Value} (hR : Rel w0 ρ m D w) (hl : look m r = some x) (hk : ¬ D key) (hnv : nro 3 v) (hny : famNro y)
    (hp : Post w0 (ρ.im (vwR ρ m r)) [(r, x)] D key ⟨ob, v, .many [(r, y)] none⟩ w val w') : Post w0 ρ m D key ⟨ob', v, .many [(r, y)] none⟩ w val w' := by
  obtain ⟨ρ3, r1, r2, r3, r4⟩ := hp
  have hlt : ∀ q z f, look m q = some z → (z f).g ≠ some false → 0 < ρ.cap q f → q ≠ r → vwR ρ m r (ρ.blk q f) := fun q z f h1 h2 h3 hq => .inr ⟨q, z, f, hq, h1, h2, h3, rfl⟩
  have hle : ρ.le (ρ3.im ρ.imm) := ⟨fun q hq => r3.dom q hq, fun q f hq => r3.blk q f hq, fun q f hq => r3.cap q f hq, fun b hb => hb⟩
  have hsame : Same ρ.imm w w' := fun b hb => r4 b (.inl hb)
  have j3 : ∀ b, vwR ρ m r b → ρ3.imm b := fun b hb => r3.imm b hb
  have hlook : ∀ q z, look (Upd.app key m (.many [(r, y)] none)) q = some z → (q = r ∧ z = y) ∨ (q ≠ r ∧ look m q = some z) := fun q z hz => by
    have hz : look (setRow r y m) q = some z := hz
    rw [look_set, hl] at hz
    by_cases e : r = q
    · subst e; simp at hz; exact .inl ⟨rfl, hz.symm⟩
    · simp [e] at hz; exact .inr ⟨Ne.symm e, hz⟩
  have hl3 : look (Upd.app key [(r, x)] (.many [(r, y)] none)) r = some y := by
    show look (setRow r y [(r, x)]) r = some y
    simp [setRow, look]
  refine ⟨ρ3.im ρ.imm, r1.nro 3 hnv, ⟨r2.below, fun b hb => ?_, fun q hq => r2.dom q hq, fun q z hz => ?_, fun q z f hz hg => ?_, fun q z f q' z' f' hz hz' hg hg' hc hc' e => ?_, fun p hp => ?_, fun p hp => ?_⟩, hle, hsame⟩
  · exact ⟨(r2.imm2 b (j3 b (.inl hb))).1, (hR.imm2 b hb).2⟩
  · rcases hlook q z hz with ⟨rfl, _⟩ | ⟨_, h⟩
    · exact .inl (hR.key _ _ hl)
    · exact .inl (hR.key _ _ h)
  · rcases hlook q z hz with ⟨e, rfl⟩ | ⟨hne, h⟩
    · subst e
      obtain ⟨q1, q2⟩ := r2.row _ _ f hl3 hg
      refine ⟨q1, q2.n_le, fun hc => ?_, q2.len, fun i k c v h1 h2 h3 => (q2.rel i k c v h1 h2 h3).nro 1 (hny f i h1 c (List.mem_of_getElem? h2))⟩
      obtain ⟨b1, b2, o, b3, b4⟩ := q2.blk hc
      exact ⟨b1, fun hb => b2 (j3 _ (.inl hb)), o, b3, b4⟩
    · obtain ⟨hd, q2⟩ := hR.row q z f h hg
      exact ⟨hle.dom q hd, q2.mono hd hle (fun b _ hb => hb) hsame (fun hc => r4 _ (hlt q z f h hg hc hne))⟩
  · have cq : ∀ q z f, look m q = some z → (z f).g ≠ some false → 0 < (ρ3.im ρ.imm).cap q f → 0 < ρ.cap q f ∧ (ρ3.im ρ.imm).blk q f = ρ.blk q f := fun q z f h1 h2 h3 => by
      have hd := (hR.row q z f h1 h2).1
      have e1 : ρ3.cap q f = ρ.cap q f := r3.cap q f hd
      have e2 : ρ3.blk q f = ρ.blk q f := r3.blk q f hd
      exact ⟨by have h3 : 0 < ρ3.cap q f := h3; omega, e2⟩
    rcases hlook q z hz with ⟨e1, e1'⟩ | ⟨hne, h1⟩ <;> rcases hlook q' z' hz' with ⟨e2, e2'⟩ | ⟨hne', h1'⟩
    · subst e1; subst e2; subst e1'; subst e2'
      exact r2.sep _ _ f _ _ f' hl3 hl3 hg hg' hc hc' e
    · exfalso
      subst e1; subst e1'
      obtain ⟨c1, c2⟩ := cq q' z' f' h1' hg' hc'
      refine r2.not_imm hl3 hg hc ?_
      have e : ρ3.blk q f = (ρ3.im ρ.imm).blk q' f' := e
      rw [e, c2]
      exact j3 _ (hlt q' z' f' h1' hg' c1 hne')
    · exfalso
      subst e2; subst e2'
      obtain ⟨c1, c2⟩ := cq q z f h1 hg hc
      refine r2.not_imm hl3 hg' hc' ?_
      have e : (ρ3.im ρ.imm).blk q f = ρ3.blk q' f' := e
      rw [← e, c2]
      exact j3 _ (hlt q z f h1 hg c1 hne)
    · obtain ⟨c1, c2⟩ := cq q z f h1 hg hc
      obtain ⟨c1', c2'⟩ := cq q' z' f' h1' hg' hc'
      rw [c2, c2'] at e
      exact hR.sep q z f q' z' f' h1 h1' hg hg' c1 c1' e
  · obtain ⟨p1, p2, p3, p4⟩ := hR.fix p hp
    obtain ⟨q1, q2, q3, q4⟩ := r2.fix p hp
    refine ⟨p1, fun q z f hz hg hc e => ?_, p3, q4⟩
    rcases hlook q z hz with ⟨e1, e1'⟩ | ⟨hne, h1⟩
    · subst e1; subst e1'
      exact q2 _ _ f hl3 hg hc e
    · have hd := (hR.row q z f h1 hg).1
      have e2 : ρ3.blk q f = ρ.blk q f := r3.blk q f hd
      have e1 : ρ3.cap q f = ρ.cap q f := r3.cap q f hd
      exact p2 q z f h1 hg (by have hc : 0 < ρ3.cap q f := hc; omega) (by rw [← e2]; exact e)
  · exact ⟨(hR.kept p hp).1, (r2.kept p hp).2⟩
end
/-- The other rows. -/
def rmR (r : Nat) : Mem → Mem
  | [] => []
  | (k, y) :: l => if k = r then rmR r l else (k, y) :: rmR r l
theorem look_rmR {r q : Nat} {z : Fam} : ∀ {m : Mem}, look (rmR r m) q = some z → q ≠ r ∧ look m q = some z
  | [], h => by simp [rmR, look] at h
  | (k, y) :: l, h => by
    simp only [rmR] at h
    split at h
    · rename_i e
      obtain ⟨h1, h2⟩ := look_rmR h
      refine ⟨h1, ?_⟩
      simp only [look]
      rw [if_neg (by rw [e]; exact Ne.symm h1)]
      exact h2
    · rename_i e
      simp only [look] at h ⊢
      split at h
      · rename_i e2
        cases h
        exact ⟨fun e3 => e (e2.trans e3), if_pos e2⟩
      · rename_i e2
        obtain ⟨h1, h2⟩ := look_rmR h
        exact ⟨h1, by rw [if_neg e2]; exact h2⟩
abbrev SRF := Nat → (Nat → List AV) → List AV → Option (List Prop × (Nat → AV) × Nat × (Nat → List AV))
def mcSRf (sz : Nat) (ty : TypeId) (r : Nat) (ps : List Prop) : Option (List Prop × (Nat → AV) × Nat × (Nat → List AV)) → Option Eff
  | some (ob, v, N', get') => some ⟨ps ++ nro 3 (v r) :: famNro (famN N' sz ty get' none) :: ob, v r, .many [(r, famN N' sz ty get' none)] none⟩
  | none => none
def mcSRe (sz : Nat) (ty : TypeId) (can : (Nat → List AV) → Nat → List AV) (F : SRF) (r N : Nat) (ps : List Prop) (rest : List AV) : Option Fam → Option Eff
  | some fam => mcSRf sz ty r (ps ++ [fam = famN N sz ty (fam 0).get none, ∀ i, i < N → (fam 0).get i = can (fam 0).get i]) (F N (can (fam 0).get) rest)
  | none => none
noncomputable def mcSR (sz : Nat) (ty : TypeId) (can : (Nat → List AV) → Nat → List AV) (F : SRF) : MCon := fun key m es => match es with
  | .own r 0 N s :: rest => if s = sz then mcSRe sz ty can F r N (rest.flatMap (pgs 3 (rmR r m))) (rest.map (purU 3 (rmR r m))) (look m r) else none
  | _ => none
/-- What the function does to such a slice. -/
def SRSem (P : Program) (f : FuncId) (sz : Nat) (ty : TypeId) (can : (Nat → List AV) → Nat → List AV) (F : SRF) : Prop :=
  ∀ N get rest ob v N' get', F N (can get) rest = some (ob, v, N', get') → (∀ p ∈ ob, p) → ∀ (w0 : Base) (ρ : Env) (D : Nat → Prop) (w : World) (key r : Nat) (vs : List Value), Rel w0 ρ [(r, famN N sz ty (can get) none)] D w → ¬ D key → D r → Rs w ρ [.own r 0 N sz] [vs.headD default] → Rs w (.ext ρ.imm) rest vs.tail → vs.length = rest.length + 1 →
    Invokes P f vs w fun val w' => Post w0 ρ [(r, famN N sz ty (can get) none)] D key ⟨ob, v r, .many [(r, famN N' sz ty get' none)] none⟩ w val w'
theorem MConOK.mcSR {P : Program} {f : FuncId} {sz : Nat} {ty : TypeId} {can : (Nat → List AV) → Nat → List AV} {F : SRF} (h : SRSem P f sz ty can F) : MConOK P f (Ax.mcSR sz ty can F) := by
  intro w0 ρ m m' D w key aas vs e hR hk hm hRs hc hob _
  unfold Ax.mcSR at hc
  split at hc
  · rename_i r N s rest
    split at hc
    · rename_i hsz
      subst hsz
      unfold mcSRe at hc
      split at hc
      · rename_i fam hl0
        unfold mcSRf at hc
        split at hc
        · rename_i ob v N' get' hF
          cases hc
          have hl := hm _ _ hl0
          have hfam : fam = famN N s ty (fam 0).get none := hob _ (by simp)
          have hcan : ∀ i, i < N → (fam 0).get i = can (fam 0).get i := hob _ (by simp)
          have hnv : nro 3 (v r) := hob _ (by simp)
          have hny : famNro (famN N' s ty get' none) := hob _ (by simp)
          have hobr : ∀ p ∈ ob, p := fun p hp => hob p (by simp [hp])
          have hrel := viewR_rel hR hl
          have hrel2 : Rel w0 (ρ.im (vwR ρ m r)) [(r, famN N s ty (can (fam 0).get) none)] D w := by
            have h1 : Rel w0 (ρ.im (vwR ρ m r)) (setRow r fam [(r, fam)]) D w := by
              have e : setRow r fam [(r, fam)] = [(r, fam)] := by simp [setRow]
              rw [e]; exact hrel
            have h2 := h1.alike (y := famN N s ty (can (fam 0).get) none) (fun f => by
              rw [hfam]
              by_cases hf : f = 0
              · subst hf
                refine ⟨rfl, rfl, rfl, rfl, fun i hi => ?_⟩
                have hi : i < N := hi
                exact (hcan i hi).symm
              · simp [famN, hf])
            have e : setRow r (famN N s ty (can (fam 0).get) none) [(r, fam)] = [(r, famN N s ty (can (fam 0).get) none)] := by simp [setRow]
            rw [e] at h2
            exact h2
          obtain ⟨y, ys, rfl, k1, k2⟩ := hRs.inv
          have hDr : D r := hR.key _ _ hl
          have k1' : Rs w (ρ.im (vwR ρ m r)) [.own r 0 N s] [y] := .cons (k1.mono viewR_le (fun _ _ => rfl)) .nil
          have hsub : Rel w0 ρ (rmR r m') D w := hR.sub (fun q z hq => hm q z (look_rmR hq).2) fun _ h => h
          have k2' : Rs w (.ext (vwR ρ m r)) (rest.map (purU 3 (rmR r m'))) ys := purUs_sound (J := vwR ρ m r) hsub (fun b hb => .inl hb) (fun q z f h1 h2 h3 => .inr ⟨q, z, f, (look_rmR h1).1, hm _ _ (look_rmR h1).2, h2, h3, rfl⟩) (fun p hp => hob p (by simp only [List.mem_append]; exact .inl (.inl hp))) k2
          have hlen : (y :: ys).length = (rest.map (purU 3 (rmR r m'))).length + 1 := by rw [List.length_cons, k2'.1]
          refine (h N (fam 0).get _ ob v N' get' hF hobr w0 (ρ.im (vwR ρ m r)) D w key r (y :: ys) hrel2 hk hDr k1' k2' hlen).mono fun val w' hp => ?_
          refine viewR_post hR hl hk hnv hny (ob := ob) ?_
          obtain ⟨ρ3, r1, r2, r3, r4⟩ := hp
          refine ⟨ρ3, r1, ?_, r3, r4⟩
          have e : ∀ z, Upd.app key [(r, z)] (.many [(r, famN N' s ty get' none)] none) = [(r, famN N' s ty get' none)] := fun z => by
            show setRow r _ [(r, z)] = _
            simp [setRow]
          show Rel w0 ρ3 (Upd.app key [(r, fam)] _) _ w'
          have r2 : Rel w0 ρ3 (Upd.app key [(r, famN N s ty (can (fam 0).get) none)] (.many [(r, famN N' s ty get' none)] none)) (fun q => D q ∨ q = key) w' := r2
          rw [e] at r2 ⊢
          exact r2
        · cases hc
      · cases hc
    · cases hc
  · cases hc
section
variable {P : Program} {G : Ctx} {H : Hots} {f : FuncId} {fn : Func}
open Classical in
/-- By a walk of its body. -/
theorem SRSem.of (hG : CtxOK P G) (hf : P.funcs[f]? = some fn) {sz : Nat} {ty : TypeId} {can : (Nat → List AV) → Nat → List AV} {F : SRF}
    (h : ∀ N get rest ob v N' get', F N (can get) rest = some (ob, v, N', get') → (∀ p ∈ ob, p) → ∃ rest0 v0, (∀ w I vs, Rs w (.ext I) rest vs → Rs w (.ext I) rest0 vs) ∧ (∀ a ∈ rest0, clean 3 a = true) ∧ (∀ i, i < N → cleanCs (can get i) = true) ∧ (∀ i, i < N' → cleanCs (get' i) = true) ∧ funcOK P H fn (rest0.length + 1) = true ∧
      (∀ θ r, θ 0 0 = (r, 0) → v r = renA θ 3 v0) ∧ (∀ (g : Nat → Nat → Prop) (B : Nat → Prop), g 0 0 → B 0 → kg g B 3 v0) ∧
      bodyM P G H fn (.own 0 0 N sz :: rest0) [(0, famN N sz ty (can get) none)] 1 fun a m1 => a = v0 ∧ ∃ g'', look m1 0 = some (famN N' sz ty g'' none) ∧ ∀ j, j < N' → g'' j = get' j) : SRSem P f sz ty can F := by
  intro N get rest ob v N' get' hF hob w0 ρ D w key r vs hR hk hDr k1 k2 hlen
  obtain ⟨rest0, v0, hcv, hcl, hc1, hc2, hfn, hv, hkg, hb⟩ := h N get rest ob v N' get' hF hob
  obtain ⟨c, hcdef⟩ : ∃ c : MCon, c = fun key m es => if es = .own r 0 N sz :: rest0 ∧ look m r = some (famN N sz ty (can get) none) then some ⟨[], v r, .many [(r, famN N' sz ty get' none)] none⟩ else none := ⟨_, rfl⟩
  have hok : MConOK P f c := by
    refine MConOK.of (H := H) hG hf fun key m es e hc _ => ?_
    rw [hcdef] at hc
    dsimp only at hc
    split at hc
    · rename_i hh
      obtain ⟨rfl, hl⟩ := hh
      cases hc
      obtain ⟨a1, a2⟩ := cleans_ren (θ := thE [r]) (g := lowG 1) (B := lowB 1) hcl
      have hcl1 : ∀ (n : Nat) (g : Nat → List AV), (∀ i, i < n → cleanCs (g i) = true) → ∀ f j, j < (famN n sz ty g none f).n → ∀ c ∈ (famN n sz ty g none f).get j, cleanC c = true := fun n g hg f j hj c hc => by
        by_cases hf : f = 0
        · subst hf
          exact cleanCs_mem (hg j hj) c hc
        · simp [famN, hf] at hj
      refine ⟨[r], [(0, famN N sz ty (can get) none)], .own 0 0 N sz :: rest0, ⟨by simp, by rw [List.map_cons, a1]; rfl, fun a ha => ?_, fun j hj => ?_, fun q z hq => ?_⟩, hfn, hb.mono fun a m1 ⟨q1, g'', q2, q3⟩ => ?_⟩
      · rcases List.mem_cons.1 ha with rfl | ha
        · exact Nat.zero_lt_one
        · exact a2 a ha
      · have : j = 0 := by simp at hj; omega
        subst this
        exact ⟨_, _, look_one, hl, fun f => ⟨by unfold famN; split <;> rfl, rowRen_clean' (.refl _) (hcl1 N _ hc1 f)⟩⟩
      · by_cases e : q = 0
        · subst e; simp
        · simp [look, Ne.symm e] at hq
      · refine ⟨fun _ => none, fun _ _ => 0, [famN N' sz ty get' none], none, rfl, ⟨fun f r g h => by simp at h, by rw [q1]; exact hv _ _ (by simp [thL]), by rw [q1]; exact hkg _ _ (.inl Nat.zero_lt_one) (.inl Nat.zero_lt_one), rfl, fun j hj => ?_, fun _ => rfl⟩⟩
        have : j = 0 := by simp at hj; omega
        subst this
        refine .inr ⟨_, _, q2, rfl, fun f => ⟨rowRen_clean' ?_ (hcl1 N' _ (fun i hi => by rw [q3 i hi]; exact hc2 i hi) f), by unfold famN; split <;> simp⟩⟩
        refine ⟨by unfold famN; split <;> rfl, by unfold famN; split <;> rfl, by unfold famN; split <;> rfl, by unfold famN; split <;> rfl, fun j hj => ?_⟩
        by_cases hf : f = 0
        · subst hf
          exact (q3 j hj).symm
        · simp [famN, hf]
    · cases hc
  match vs, hlen, k1, k2 with
  | y :: ys, hlen, k1, k2 =>
    have hrs : Rs w ρ (.own r 0 N sz :: rest0) (y :: ys) := by
      obtain ⟨y', ys', e, j1, j2⟩ := k1.inv
      cases e
      exact .cons j1 ((hcv _ _ _ k2).mono ⟨fun _ h => h.elim, fun _ _ h => h.elim, fun _ _ h => h.elim, fun _ h => h⟩ (fun _ _ => rfl))
    refine (hok w0 ρ [(r, famN N sz ty (can get) none)] [(r, famN N sz ty (can get) none)] D w key _ _ ⟨[], v r, .many [(r, famN N' sz ty get' none)] none⟩ hR hk (fun _ _ h => h) hrs (by rw [hcdef]; exact if_pos ⟨rfl, by simp [look]⟩) (fun p hp => by simp at hp) ⟨_, _, rfl⟩).mono fun val w' hp => hp
end
/-! ### For the evaluator -/
section
variable {sz r N key : Nat} {ty : TypeId} {can : (Nat → List AV) → Nat → List AV} {F : SRF} {m : Mem} {rest : List AV} {ps ob : List Prop} {get get' : Nat → List AV} {v : Nat → AV} {N' : Nat}
theorem mcSR_eq : mcSR sz ty can F key m (.own r 0 N sz :: rest) = mcSRe sz ty can F r N (pgsL 3 (rmR r m) rest) (purUL 3 (rmR r m) rest) (look m r) := by
  rw [← purUL_eq, ← pgsL_eq]
  exact if_pos rfl
theorem mcSRe_N : mcSRe sz ty can F r N ps rest (some (famN N sz ty get none)) = mcSRf sz ty r (ps ++ [True, ∀ i, i < N → get i = can get i]) (F N (can get) rest) := by
  show mcSRf sz ty r (ps ++ [famN N sz ty get none = famN N sz ty get none, ∀ i, i < N → get i = can get i]) (F N (can get) rest) = _
  rw [eq_self]
theorem mcSRf_some : mcSRf sz ty r ps (some (ob, v, N', get')) = some ⟨ps ++ nro 3 (v r) :: famNro (famN N' sz ty get' none) :: ob, v r, .many [(r, famN N' sz ty get' none)] none⟩ := (rfl)
theorem rmR_nil : rmR r [] = [] := (rfl)
theorem rmR_cons {k : Nat} {y : Fam} : rmR r ((k, y) :: m) = if k = r then rmR r m else (k, y) :: rmR r m := (rfl)
end
end Go.Ax
end

section
/-
  Deleting from a slice by a closure.
-/
set_option linter.unusedVariables false
set_option linter.unusedSimpArgs false
set_option maxHeartbeats 4000000
set_option maxRecDepth 100000
namespace Go.Ax
open Go.Proofs
attribute [go_sem] rmR_nil rmR_cons Option.toList_none Option.toList_some
def prdf (L : Ents) : Option (Prop × (Int → Int → Int → Int → Bool)) → Option (List Prop × (Int → Bool))
  | some (o, p) => some ([selIn L, o], fun k => !p (selAt (memSel L k) 0) (selAt (memSel L k) 1) (selAt (memSel L k) 2) (selAt (memSel L k) 3))
  | none => none
/-- What a closure says of a number. -/
def prd : AV → Option (List Prop × (Int → Bool))
  | .fn 71 [.rop [.rop [.rm 4 L]], .rop (.v (.int .i64 a) :: l)] => some ([], fun k => decide (selAt (memSel L k) 2 < a))
  | .fn 116 [.rop [B], .rop [.rop [.rm 4 L]]] => prdf L (bpr B)
  | _ => none
def ixS (p : Int → Bool) (n : Nat) (X : Nat → Int) : Int := if lst (fun j => p (X j)) n < n then (lst (fun j => p (X j)) n : Nat) else -1
theorem ix_yes {p : Int → Bool} {n : Nat} {X : Nat → Int} {i : Nat} (hj : ∀ j, j < i → p (X j) = false) (h : (i : Int) < n) (hp : p (X i) = true) : (i : Int) = ixS p n X := by
  have hl : lst (fun j => p (X j)) n = i := lst_eq hj (by omega) hp
  unfold ixS
  rw [hl, if_pos (by omega)]
theorem ix_no {p : Int → Bool} {n : Nat} {X : Nat → Int} {i : Nat} (hi : i ≤ n) (hj : ∀ j, j < i → p (X j) = false) (h : ¬ (i : Int) < n) : -1 = ixS p n X := by
  have hl : lst (fun j => p (X j)) n = n := lst_full fun j h2 => hj j (by omega)
  unfold ixS
  rw [hl, if_neg (by omega)]
theorem ix_next {p : Int → Bool} {X : Nat → Int} {i : Nat} (hj : ∀ j, j < i → p (X j) = false) (hf : p (X i) = false) : ∀ j, j < i + 1 → p (X j) = false := fun j h => by
  by_cases e : j = i
  · rw [e]; exact hf
  · exact hj j (by omega)
def c114f (n : Nat) (X : Nat → Int) (g : Nat → List AV) : Option (List Prop × (Int → Bool)) → Option (List Prop × AV)
  | some (ob, p) => some (ints n g :: (n ≤ 1000) :: ob, i64 (ixS p n X))
  | none => none
def c114 : Con
  | [.ro n 1 g, F] => c114f n (gx g 0) g (prd F)
  | _ => none
theorem con114 : ConOK Tryz.prog 114 c114 := ConOK.go (G := [(71, c71), (116, c116)]) (H := []) (.cons con71 (.cons con116 .nil)) Tryz.func114 fun l ob rr hc hob => by
  unfold c114 at hc
  split at hc
  · rename_i n g F
    unfold c114f at hc
    split at hc
    · rename_i obp p hp
      cases hc
      have h1 : ints n g := hob _ (by simp)
      have h2 : n ≤ 1000 := hob _ (by simp)
      refine ⟨[.ro n 1 fun i => [i64 (gx g 0 i)], F], fun w I vs hR => ?_, by kernel_rfl, fnVC_go (rs := [.tmp 4]) rfl rfl ?_⟩
      · obtain ⟨y, ys, rfl, k1, k2⟩ := hR.inv
        exact .cons (ro_alike (fun i hi => h1 i hi) k1) k2
      obtain ⟨X, hX⟩ : ∃ X : Nat → Int, X = gx g 0 := ⟨_, rfl⟩
      rw [← hX]
      have hob : ∀ x ∈ obp, x := fun x hx => hob x (by simp [hx])
      unfold prd at hp
      split at hp
      · rename_i L a l
        cases hp
        simp only [go_sem]
        obtain ⟨p, hpd⟩ : ∃ p : Int → Bool, p = fun k => decide (selAt (memSel L k) 2 < a) := ⟨_, rfl⟩
        rw [← hpd]
        refine loopN_go (fun (i : Nat) => i ≤ n ∧ ∀ j, j < i → p (X j) = false) (fun i => n - i) (fun i => [(8, i64 i)]) (fun i => []) [] [9, 10, 5, 11, 12, 13, 14, 15, 16, 17, 4, 18, 8] 0 0 (by kernel_rfl) ⟨Nat.zero_le _, fun j hj => by omega⟩ ⟨[], ?_, ?_, ?_, ?_⟩ ?_
        · simp only [go_sem]
        · simp only [go_sem]
        · simp only [go_sem]
        · simp [goodNames, asg]
        rintro i ⟨hi, hj⟩
        simp only [go_sem, c71]
        refine ⟨fun h => ⟨by omega, h, fun z hz => ?_⟩, fun h => ix_no hi hj h⟩
        have hz : z = p (X i) := by rw [hz, hpd]
        refine ⟨fun ht => ix_yes hj h (by rw [← hz]; exact ht), fun hf z1 k1 => ⟨i + 1, ⟨by omega, ix_next hj (by rw [← hz]; exact hf)⟩, by omega, [], by rw [k1, wrap_in (by unfold inR; omega)]; omega, by simp [goodNames, asg]⟩⟩
      · rename_i B L
        unfold prdf at hp
        split at hp
        case h_2 => cases hp
        rename_i o q hB
        cases hp
        have o1 : selIn L := hob _ (by simp)
        have o2 : o := hob _ (by simp)
        simp only [go_sem]
        obtain ⟨p, hpd⟩ : ∃ p : Int → Bool, p = fun k => !q (selAt (memSel L k) 0) (selAt (memSel L k) 1) (selAt (memSel L k) 2) (selAt (memSel L k) 3) := ⟨_, rfl⟩
        rw [← hpd]
        refine loopN_go (fun (i : Nat) => i ≤ n ∧ ∀ j, j < i → p (X j) = false) (fun i => n - i) (fun i => [(8, i64 i)]) (fun i => []) [] [9, 10, 5, 11, 12, 13, 14, 15, 16, 17, 4, 18, 8] 0 0 (by kernel_rfl) ⟨Nat.zero_le _, fun j hj => by omega⟩ ⟨[], ?_, ?_, ?_, ?_⟩ ?_
        · simp only [go_sem]
        · simp only [go_sem]
        · simp only [go_sem]
        · simp [goodNames, asg]
        rintro i ⟨hi, hj⟩
        simp only [go_sem, c71, hB, o1, o2]
        refine ⟨fun h => ⟨by omega, h, fun z hz => ?_⟩, fun h => ix_no hi hj h⟩
        have hz : z = p (X i) := by rw [hz, hpd]
        refine ⟨fun ht => ix_yes hj h (by rw [← hz]; exact ht), fun hf z1 k1 => ⟨i + 1, ⟨by omega, ix_next hj (by rw [← hz]; exact hf)⟩, by omega, [], by rw [k1, wrap_in (by unfold inR; omega)]; omega, by simp [goodNames, asg]⟩⟩
      · cases hp
    · cases hc
  · cases hc
theorem prd_71 {L : Ents} {a : Int} {l : List AV} : prd (.fn 71 [.rop [.rop [.rm 4 L]], .rop (.v (.int .i64 a) :: l)]) = some ([], fun k => decide (selAt (memSel L k) 2 < a)) := (rfl)
theorem prd_116 {L : Ents} {B : AV} : prd (.fn 116 [.rop [B], .rop [.rop [.rm 4 L]]]) = prdf L (bpr B) := (rfl)
theorem prdf_some {L : Ents} {o : Prop} {p : Int → Int → Int → Int → Bool} : prdf L (some (o, p)) = some ([selIn L, o], fun k => !p (selAt (memSel L k) 0) (selAt (memSel L k) 1) (selAt (memSel L k) 2) (selAt (memSel L k) 3)) := (rfl)
theorem c114_eq {n : Nat} {g : Nat → List AV} {F : AV} : c114 [.ro n 1 g, F] = c114f n (gx g 0) g (prd F) := (rfl)
theorem c114f_some {n : Nat} {X : Nat → Int} {g : Nat → List AV} {ob : List Prop} {p : Int → Bool} : c114f n X g (some (ob, p)) = some (ints n g :: (n ≤ 1000) :: ob, i64 (ixS p n X)) := (rfl)
attribute [go_sem] prd_71 prd_116 prdf_some c114_eq c114f_some
/-- What is left of the first i. -/
def flt (p : Int → Bool) (X : Nat → Int) : Nat → List Int
  | 0 => []
  | i + 1 => flt p X i ++ (if p (X i) = true then [] else [X i])
theorem flt_le {p : Int → Bool} {X : Nat → Int} : ∀ i, (flt p X i).length ≤ i
  | 0 => Nat.le_refl _
  | i + 1 => by
    simp only [flt, List.length_append]
    have := flt_le (p := p) (X := X) i
    split <;> simp <;> omega
theorem flt_all {p : Int → Bool} {X : Nat → Int} : ∀ i, (∀ j, j < i → p (X j) = false) → flt p X i = (List.range i).map X
  | 0, _ => rfl
  | i + 1, h => by
    rw [flt, flt_all i fun j hj => h j (by omega), h i (by omega), List.range_succ, List.map_append]
    rfl
def flX (p : Int → Bool) (X : Nat → Int) (N j : Nat) : Int := (flt p X N).getD j 0
theorem flt_len_all {p : Int → Bool} {X : Nat → Int} {i : Nat} (h : ∀ j, j < i → p (X j) = false) : (flt p X i).length = i := by rw [flt_all i h]; simp
theorem flt_get_all {p : Int → Bool} {X : Nat → Int} {i j : Nat} (h : ∀ j, j < i → p (X j) = false) (hj : j < i) : (flt p X i).getD j 0 = X j := by
  rw [flt_all i h, List.getD_eq_getElem?_getD, List.getElem?_map, List.getElem?_range hj]
  rfl
/-- How far the deleting is. -/
def dlOK (p : Int → Bool) (X : Nat → Int) (N : Nat) (x : Nat × (Nat → Int)) : Prop := x.1 ≤ N ∧ (∀ j, j < (flt p X x.1).length → x.2 j = (flt p X x.1).getD j 0) ∧ ∀ j, x.1 ≤ j → x.2 j = X j
theorem dl_first {p : Int → Bool} {X : Nat → Int} {N : Nat} (h : lst (fun j => p (X j)) N < N) : dlOK p X N (lst (fun j => p (X j)) N + 1, X) ∧ (flt p X (lst (fun j => p (X j)) N + 1)).length = lst (fun j => p (X j)) N := by
  have hno : ∀ j, j < lst (fun j => p (X j)) N → p (X j) = false := fun j hj => lst_no (p := fun j => p (X j)) hj
  have hyes : p (X (lst (fun j => p (X j)) N)) = true := lst_yes (p := fun j => p (X j)) h
  have e : flt p X (lst (fun j => p (X j)) N + 1) = flt p X (lst (fun j => p (X j)) N) := by
    rw [flt, hyes]; simp
  refine ⟨⟨h, fun j hj => ?_, fun j hj => rfl⟩, by rw [e, flt_len_all hno]⟩
  rw [e, flt_len_all hno] at hj
  rw [e, flt_get_all hno hj]
theorem dl_skip {p : Int → Bool} {X : Nat → Int} {N i : Nat} {Y : Nat → Int} (h : dlOK p X N (i, Y)) (hi : i < N) (hp : p (X i) = true) : dlOK p X N (i + 1, Y) ∧ (flt p X (i + 1)).length = (flt p X i).length := by
  have e : flt p X (i + 1) = flt p X i := by rw [flt, hp]; simp
  obtain ⟨h1, h2, h3⟩ := h
  exact ⟨⟨hi, by dsimp only; rw [e]; exact h2, fun j hj => h3 j (by have hj : i + 1 ≤ j := hj; show i ≤ j; omega)⟩, by rw [e]⟩
theorem dl_keep {p : Int → Bool} {X : Nat → Int} {N i : Nat} {Y : Nat → Int} (h : dlOK p X N (i, Y)) (hi : i < N) (hp : p (X i) = false) : dlOK p X N (i + 1, fun j => if j = (flt p X i).length then X i else Y j) ∧ (flt p X (i + 1)).length = (flt p X i).length + 1 := by
  have e : flt p X (i + 1) = flt p X i ++ [X i] := by rw [flt, hp]; simp
  obtain ⟨h1, h2, h3⟩ := h
  have hle := flt_le (p := p) (X := X) i
  refine ⟨⟨hi, fun j hj => ?_, fun j hj => ?_⟩, by rw [e]; simp⟩
  · dsimp only at hj ⊢
    rw [e, List.length_append, List.length_singleton] at hj
    rw [e, List.getD_eq_getElem?_getD]
    split
    · rename_i e2
      rw [e2]; simp
    · have h2' := h2 j (show j < (flt p X i).length from by omega)
      dsimp only at h2'
      rw [h2', List.getD_eq_getElem?_getD, List.getElem?_append_left (by omega)]
  · have hj : i + 1 ≤ j := hj
    dsimp only
    rw [if_neg (by omega)]
    exact h3 j (by show i ≤ j; omega)
def canI (g : Nat → List AV) (i : Nat) : List AV := [i64 (gx g 0 i)]
def F70 : SRF := fun N get rest => match rest with
  | [F] => match prd F with
    | some (ob, p) => some ((N ≤ 1000) :: ob, fun r => .own r 0 (flt p (gx get 0) N).length 1, N, fun j => [i64 (flX p (gx get 0) N j)])
    | none => none
  | _ => none
noncomputable def m70 : MCon := mcSR 1 3 canI F70
theorem mon70 : MConOK Tryz.prog 70 m70 := MConOK.mcSR (SRSem.of (G := [(114, c114), (71, c71), (116, c116)]) (H := []) (.cons con114 (.cons con71 (.cons con116 .nil))) Tryz.func70 fun N get rest ob v N' get' hF hob => by
  unfold F70 at hF
  split at hF
  · rename_i F
    split at hF
    · rename_i obp p hp
      cases hF
      have h2 : N ≤ 1000 := hob _ (by simp)
      have hob : ∀ x ∈ obp, x := fun x hx => hob x (by simp [hx])
      obtain ⟨X, hX⟩ : ∃ X : Nat → Int, X = gx get 0 := ⟨_, rfl⟩
      have hcan : gx (canI get) 0 = X := hX.symm
      have hcan2 : canI get = fun i => [i64 (X i)] := by rw [hX]; rfl
      have hcl : clean 3 F = true := by
        unfold prd at hp
        split at hp <;> first | rfl | (simp [clean]; done) | (cases hp)
      rw [hcan, hcan2]
      refine ⟨[F], .own 0 0 (flt p X N).length 1, fun w I vs hR => hR, by simpa using hcl, fun i _ => rfl, fun i _ => rfl, by kernel_rfl, fun θ r h => by simp only [renA, h], fun g B h1 h2 => h1, bodyM_go (rs := [.tmp 4]) rfl rfl ?_⟩
      unfold prd at hp
      split at hp
      · rename_i L a l
        cases hp
        simp only [go_sem, ints_can, gx_int, h2]
        obtain ⟨p, hpd⟩ : ∃ p : Int → Bool, p = fun k => decide (selAt (memSel L k) 2 < a) := ⟨_, rfl⟩
        rw [← hpd]
        intro z hz
        refine ⟨fun h1 => ?_, fun h0 z1 k1 => ?_⟩
        · have hn : ∀ j, j < N → p (X j) = false := fun j hj => by
            have hl : ¬ lst (fun j => p (X j)) N < N := fun hl => by
              have h1 : z = -1 := by simpa using h1
              rw [h1] at hz; unfold ixS at hz; rw [if_pos hl] at hz; omega
            have := lst_le (p := fun j => p (X j)) N
            exact lst_no (p := fun j => p (X j)) (n := N) (by omega)
          rw [flt_len_all hn]
          exact ⟨rfl, _, rfl, fun j hj => by unfold flX; rw [flt_get_all hn hj]⟩
        have hl : lst (fun j => p (X j)) N < N := Classical.byContradiction fun hl => by
          unfold ixS at hz; rw [if_neg hl] at hz
          rw [hz] at h0; cases h0
        obtain ⟨d1, d2⟩ := dl_first hl
        have hz : z = (lst (fun j => p (X j)) N : Nat) := by unfold ixS at hz; rw [if_pos hl] at hz; exact hz
        have k1 : z1 = ((lst (fun j => p (X j)) N + 1 : Nat) : Int) := by rw [k1, hz, wrap_in (by unfold inR; omega)]; omega
        subst k1
        rw [← d2] at hz
        subst hz
        clear h0
        generalize lst (fun j => p (X j)) N + 1 = i0 at d1 d2
        refine loopN_go (dlOK p X N) (fun x => N - x.1) (fun x => [(6, i64 (x.1 : Int)), (5, i64 ((flt p X x.1).length : Int))]) (fun x => [(0, famN N 1 3 (fun j => [i64 (x.2 j)]) none)]) [] [16, 17, 18, 19, 22, 23, 24, 25, 7, 26, 27, 28, 29, 30, 31, 32, 33, 34, 35, 5, 20, 21, 6] 0 (i0, X) (by kernel_rfl) d1 ⟨[], ?_, ?_, ?_, ?_⟩ ?_
        · simp only [go_sem]
        · simp only [go_sem]; exact fun _ _ => trivial
        · simp only [go_sem]
        · simp [goodNames, asg]
        rintro ⟨i, Y⟩ hx
        obtain ⟨g1, g2, g3⟩ := hx
        have hle := flt_le (p := p) (X := X) i
        have g3' := g3 i (Nat.le_refl _)
        dsimp only at g1 g2 g3 g3' ⊢
        simp only [go_sem, c71, ints_can, gx_int, h2, g3']
        refine ⟨fun h => ⟨by omega, h, by omega, fun z hz => ?_⟩, fun h => ?_⟩
        · have hz : z = p (X i) := by rw [hz, hpd]
          refine ⟨fun hf => ⟨by omega, by omega, by omega, fun z1 k1 z2 k2 => ?_⟩, fun ht z1 k1 => ?_⟩
          · obtain ⟨d3, d4⟩ := dl_keep (N := N) ⟨g1, g2, g3⟩ (by omega) (by rw [← hz]; exact hf)
            refine ⟨_, d3, by show N - (i + 1) < N - i; omega, [], ⟨?_, ?_⟩, ?_, ?_⟩
            · rw [k2, wrap_in (by unfold inR; omega)]; show (i : Int) + 1 = ((i + 1 : Nat) : Int); omega
            · rw [k1, wrap_in (by unfold inR; omega)]; show _ = (((flt p X (i + 1)).length : Nat) : Int); rw [d4]; omega
            · simp only [go_sem]
              intro q hq
              split <;> simp only [go_sem]
            · simp [goodNames, asg]
          · obtain ⟨d3, d4⟩ := dl_skip (N := N) ⟨g1, g2, g3⟩ (by omega) (by rw [← hz]; exact ht)
            refine ⟨_, d3, by show N - (i + 1) < N - i; omega, [], ⟨?_, ?_⟩, ?_, ?_⟩
            · rw [k1, wrap_in (by unfold inR; omega)]; show (i : Int) + 1 = ((i + 1 : Nat) : Int); omega
            · show _ = (((flt p X (i + 1)).length : Nat) : Int); rw [d4]
            · simp only [go_sem]
              exact fun _ _ => trivial
            · simp [goodNames, asg]
        · have e : i = N := by omega
          subst e
          refine ⟨by omega, by omega, by omega, by omega, by omega, ?_, _, rfl, fun j hj => ?_⟩
          · rw [show ((flt p X i).length - 0 : Int).toNat = (flt p X i).length by omega]
          · unfold flX
            by_cases hlt : j < (flt p X i).length
            · rw [if_neg (by omega), g2 j hlt]
            · rw [if_pos (by omega), List.getD_eq_getElem?_getD, List.getElem?_eq_none (by omega)]
              rfl
      · rename_i B L
        unfold prdf at hp
        split at hp
        case h_2 => cases hp
        rename_i o q hB
        cases hp
        have o1 : selIn L := hob _ (by simp)
        have o2 : o := hob _ (by simp)
        simp only [go_sem, hB, o1, o2, ints_can, gx_int, h2]
        obtain ⟨p, hpd⟩ : ∃ p : Int → Bool, p = fun k => !q (selAt (memSel L k) 0) (selAt (memSel L k) 1) (selAt (memSel L k) 2) (selAt (memSel L k) 3) := ⟨_, rfl⟩
        rw [← hpd]
        intro z hz
        refine ⟨fun h1 => ?_, fun h0 z1 k1 => ?_⟩
        · have hn : ∀ j, j < N → p (X j) = false := fun j hj => by
            have hl : ¬ lst (fun j => p (X j)) N < N := fun hl => by
              have h1 : z = -1 := by simpa using h1
              rw [h1] at hz; unfold ixS at hz; rw [if_pos hl] at hz; omega
            have := lst_le (p := fun j => p (X j)) N
            exact lst_no (p := fun j => p (X j)) (n := N) (by omega)
          rw [flt_len_all hn]
          exact ⟨rfl, _, rfl, fun j hj => by unfold flX; rw [flt_get_all hn hj]⟩
        have hl : lst (fun j => p (X j)) N < N := Classical.byContradiction fun hl => by
          unfold ixS at hz; rw [if_neg hl] at hz
          rw [hz] at h0; cases h0
        obtain ⟨d1, d2⟩ := dl_first hl
        have hz : z = (lst (fun j => p (X j)) N : Nat) := by unfold ixS at hz; rw [if_pos hl] at hz; exact hz
        have k1 : z1 = ((lst (fun j => p (X j)) N + 1 : Nat) : Int) := by rw [k1, hz, wrap_in (by unfold inR; omega)]; omega
        subst k1
        rw [← d2] at hz
        subst hz
        clear h0
        generalize lst (fun j => p (X j)) N + 1 = i0 at d1 d2
        refine loopN_go (dlOK p X N) (fun x => N - x.1) (fun x => [(6, i64 (x.1 : Int)), (5, i64 ((flt p X x.1).length : Int))]) (fun x => [(0, famN N 1 3 (fun j => [i64 (x.2 j)]) none)]) [] [16, 17, 18, 19, 22, 23, 24, 25, 7, 26, 27, 28, 29, 30, 31, 32, 33, 34, 35, 5, 20, 21, 6] 0 (i0, X) (by kernel_rfl) d1 ⟨[], ?_, ?_, ?_, ?_⟩ ?_
        · simp only [go_sem]
        · simp only [go_sem]; exact fun _ _ => trivial
        · simp only [go_sem]
        · simp [goodNames, asg]
        rintro ⟨i, Y⟩ hx
        obtain ⟨g1, g2, g3⟩ := hx
        have hle := flt_le (p := p) (X := X) i
        have g3' := g3 i (Nat.le_refl _)
        dsimp only at g1 g2 g3 g3' ⊢
        simp only [go_sem, c71, hB, ints_can, gx_int, h2, g3', o1, o2]
        refine ⟨fun h => ⟨by omega, h, by omega, fun z hz => ?_⟩, fun h => ?_⟩
        · have hz : z = p (X i) := by rw [hz, hpd]
          refine ⟨fun hf => ⟨by omega, by omega, by omega, fun z1 k1 z2 k2 => ?_⟩, fun ht z1 k1 => ?_⟩
          · obtain ⟨d3, d4⟩ := dl_keep (N := N) ⟨g1, g2, g3⟩ (by omega) (by rw [← hz]; exact hf)
            refine ⟨_, d3, by show N - (i + 1) < N - i; omega, [], ⟨?_, ?_⟩, ?_, ?_⟩
            · rw [k2, wrap_in (by unfold inR; omega)]; show (i : Int) + 1 = ((i + 1 : Nat) : Int); omega
            · rw [k1, wrap_in (by unfold inR; omega)]; show _ = (((flt p X (i + 1)).length : Nat) : Int); rw [d4]; omega
            · simp only [go_sem]
              intro q hq
              split <;> simp only [go_sem]
            · simp [goodNames, asg]
          · obtain ⟨d3, d4⟩ := dl_skip (N := N) ⟨g1, g2, g3⟩ (by omega) (by rw [← hz]; exact ht)
            refine ⟨_, d3, by show N - (i + 1) < N - i; omega, [], ⟨?_, ?_⟩, ?_, ?_⟩
            · rw [k1, wrap_in (by unfold inR; omega)]; show (i : Int) + 1 = ((i + 1 : Nat) : Int); omega
            · show _ = (((flt p X (i + 1)).length : Nat) : Int); rw [d4]
            · simp only [go_sem]
              exact fun _ _ => trivial
            · simp [goodNames, asg]
        · have e : i = N := by omega
          subst e
          refine ⟨by omega, by omega, by omega, by omega, by omega, ?_, _, rfl, fun j hj => ?_⟩
          · rw [show ((flt p X i).length - 0 : Int).toNat = (flt p X i).length by omega]
          · unfold flX
            by_cases hlt : j < (flt p X i).length
            · rw [if_neg (by omega), g2 j hlt]
            · rw [if_pos (by omega), List.getD_eq_getElem?_getD, List.getElem?_eq_none (by omega)]
              rfl
      · cases hp
    · cases hF
  · cases hF)
end Go.Ax
end

section
/-
  The sweep's queries.
-/
set_option linter.unusedVariables false
set_option linter.unusedSimpArgs false
set_option maxHeartbeats 4000000
set_option maxRecDepth 100000
namespace Go.Ax
open Go.Proofs
theorem flt_filter {p : Int → Bool} {l : List Int} : ∀ i, i ≤ l.length → flt p (fun j => l.getD j 0) i = (l.take i).filter fun k => !p k
  | 0, _ => by simp [flt]
  | i + 1, h => by
    rw [flt, flt_filter i (by omega), List.take_add_one, List.filter_append, List.getElem?_eq_getElem (by omega)]
    congr 1
    have e : l.getD i 0 = l[i] := by rw [List.getD_eq_getElem?_getD, List.getElem?_eq_getElem (by omega)]; rfl
    rw [e]
    cases hp : p l[i] <;> simp [hp]
theorem flt_len {p : Int → Bool} {l : List Int} : flt p (fun j => l.getD j 0) l.length = l.filter fun k => !p k := by
  rw [flt_filter _ (Nat.le_refl _), List.take_length]
/-- The ids whose boxes are seen. -/
def seenL (L : Ents) (p : Int → Int → Int → Int → Bool) : List Int := (srtK L).filter fun k => p (selAt (memSel L k) 0) (selAt (memSel L k) 1) (selAt (memSel L k) 2) (selAt (memSel L k) 3)
theorem famNro_ints {n : Nat} {ty : TypeId} {X : Nat → Int} {g : Option Bool} : famNro (famN n 1 ty (fun j => [i64 (X j)]) g) = True := eq_true fun f j hj c hc => by
  match f with
  | 0 =>
    have hc : c ∈ [i64 (X j)] := hc
    simp only [List.mem_cons, List.not_mem_nil, or_false] at hc
    subst hc; trivial
  | f + 1 => have hj : j < 0 := hj; omega
theorem nro_own {d r f n sz : Nat} : nro d (.own r f n sz) = True := by cases d <;> rfl
theorem canI_eq {X : Nat → Int} : canI (fun i => [i64 (X i)]) = fun i => [i64 (X i)] := (rfl)
def F70f (N : Nat) (X : Nat → Int) : Option (List Prop × (Int → Bool)) → Option (List Prop × (Nat → AV) × Nat × (Nat → List AV))
  | some (ob, p) => some ((N ≤ 1000) :: ob, fun r => .own r 0 (flt p X N).length 1, N, fun j => [i64 (flX p X N j)])
  | none => none
theorem F70_some {N : Nat} {X : Nat → Int} {F : AV} : F70 N (fun i => [i64 (X i)]) [F] = F70f N X (prd F) := by
  unfold F70 F70f
  dsimp only
  cases prd F <;> rfl
theorem F70f_some {N : Nat} {X : Nat → Int} {ob : List Prop} {p : Int → Bool} : F70f N X (some (ob, p)) = some ((N ≤ 1000) :: ob, fun r => .own r 0 (flt p X N).length 1, N, fun j => [i64 (flX p X N j)]) := (rfl)
attribute [go_sem] famNro_ints nro_own canI_eq F70_some F70f_some mcSR_eq mcSRe_N mcSRf_some
theorem fltS {L : Ents} {p : Int → Int → Int → Int → Bool} : flt (fun k => !p (selAt (memSel L k) 0) (selAt (memSel L k) 1) (selAt (memSel L k) 2) (selAt (memSel L k) 3)) (fun i => (srtK L).getD i 0) L.length = seenL L p := by
  rw [← srtK_len, flt_len]
  unfold seenL
  congr 1
  funext k
  exact Bool.not_not _
theorem flXS {L : Ents} {p : Int → Int → Int → Int → Bool} {j : Nat} : flX (fun k => !p (selAt (memSel L k) 0) (selAt (memSel L k) 1) (selAt (memSel L k) 2) (selAt (memSel L k) 3)) (fun i => (srtK L).getD i 0) L.length j = (seenL L p).getD j 0 := by
  unfold flX; rw [fltS]
theorem newN2 {key N r n n' sz : Nat} {ty : TypeId} {get get' : Nat → List AV} {m1 : Mem} (h : look m1 r = some (famN n sz ty get none)) (hN : N ≤ r) (hc : ∀ j, j < n → get' j = get j ∧ ∀ c ∈ get j, clean 3 c = true) : NewP key N (.own r 0 n' sz) m1 (.own key 0 n' sz) (some (famN n sz ty get' none)) := by
  refine newP_list [(r, 0)] (by simp) (by simp [hN]) (.inr (by simp [ixP, sgP])) (fun ks hks => ?_) (fun ks hks f r' g hf => ?_) (fun f hf => ?_)
  · show AV.own key 0 n' sz = AV.own (thL ks key (ixP [(r, 0)]) r 0).1 (thL ks key (ixP [(r, 0)]) r 0).2 n' sz
    simp only [thL]
    rw [if_neg (by omega)]
    simp [ixP]
  · match f, hf with
    | 0, hf =>
      cases hf
      refine ⟨_, h, ⟨rfl, rfl, rfl, rfl, fun j hj => ?_⟩, by simp [famN]⟩
      obtain ⟨h1, h2⟩ := hc j hj
      obtain ⟨k1, k2⟩ := cleans_ren (θ := thL ks key (ixP [(r, 0)])) (g := newG N (sgP [(r, 0)]) (ixP [(r, 0)])) (B := newB N (sgP [(r, 0)])) h2
      exact ⟨by show get' j = (get j).map _; rw [h1, k1], k2⟩
    | f + 1, hf => simp at hf
  · match f, hf with
    | f + 1, _ => rfl
theorem int_clean {z : Int} : ∀ c ∈ [i64 z], clean 3 c = true := fun c hc => by
  simp only [List.mem_cons, List.not_mem_nil, or_false] at hc
  subst hc; rfl
def F76f (L : Ents) : Option (Prop × (Int → Int → Int → Int → Bool)) → Option (List Prop × (Nat → AV) × (Nat → Option Fam))
  | some (o, p) => some ([selIn L, L.length ≤ 1000, o], fun k => .own k 0 (seenL L p).length 1, fun k => some (famN L.length 1 3 (fun j => [i64 ((seenL L p).getD j 0)]) none))
  | none => none
def F76 : List AV → Option (List Prop × (Nat → AV) × (Nat → Option Fam))
  | [.rop [.rm 4 L], B] => F76f L (bpr B)
  | _ => none
noncomputable def mN76 : MCon := mcKU F76
theorem mN76_eq : mN76 = mcKU F76 := (rfl)
theorem F76_eq {L : Ents} {B : AV} : F76 [.rop [.rm 4 L], B] = F76f L (bpr B) := (rfl)
theorem F76f_some {L : Ents} {o : Prop} {p : Int → Int → Int → Int → Bool} : F76f L (some (o, p)) = some ([selIn L, L.length ≤ 1000, o], fun k => .own k 0 (seenL L p).length 1, fun k => some (famN L.length 1 3 (fun j => [i64 ((seenL L p).getD j 0)]) none)) := (rfl)
attribute [go_sem] mN76_eq F76_eq F76f_some
theorem mon76 : MConOK Tryz.prog 76 mN76 := MConOK.mkU (G := [(59, .wr mN59), (116, c116), (70, .wr m70)]) (H := []) (.mcons mon59 (.cons con116 (.mcons mon70 .nil))) Tryz.func76 fun es ob v nw hF hob => by
  unfold F76 at hF
  split at hF
  · rename_i L B
    unfold F76f at hF
    split at hF
    · rename_i o p hp
      cases hF
      have h1 : selIn L := hob _ (by simp)
      have h2 : L.length ≤ 1000 := hob _ (by simp)
      have ho : o := hob _ (by simp)
      unfold bpr at hp
      split at hp
      · cases hp
        obtain ⟨o2, o3, o4, o5⟩ := ho
        rename_i a b c d
        refine ⟨_, fun w I vs hR => hR, by simp [clean], by kernel_rfl, fun key => bodyM_go (rs := [.tmp 4]) rfl rfl ?_⟩
        simp only [go_sem, c116, m70, m70, h1, h2, o2, o3, o4, o5]
        rw [fltS (p := fun x y z t => meetsS x y z t a b c d)]
        refine ⟨fun _ _ => trivial, newN2 rfl (Nat.zero_le _) fun i hi => ⟨?_, int_clean⟩⟩
        rw [flXS (p := fun x y z t => meetsS x y z t a b c d)]
      · cases hp
        obtain ⟨o2, o3, o4, o5⟩ := ho
        rename_i a b c d
        refine ⟨_, fun w I vs hR => hR, by simp [clean], by kernel_rfl, fun key => bodyM_go (rs := [.tmp 4]) rfl rfl ?_⟩
        simp only [go_sem, c116, m70, m70, h1, h2, o2, o3, o4, o5]
        rw [fltS (p := fun x y z t => alS x y z t a b c d)]
        refine ⟨fun _ _ => trivial, newN2 rfl (Nat.zero_le _) fun i hi => ⟨?_, int_clean⟩⟩
        rw [flXS (p := fun x y z t => alS x y z t a b c d)]
      · cases hp
    · cases hF
  · cases hF
def F50 : List AV → Option (List Prop × (Nat → AV) × (Nat → Option Fam))
  | [.rop [.rm 4 L], .agg [.v (.int .i64 a), .v (.int .i64 b), .v (.int .i64 c), .v (.int .i64 d)]] => some ([selIn L, L.length ≤ 1000, inR a, inR b, inR c, inR d], fun k => .own k 0 (seenL L fun x y z t => meetsS x y z t a b c d).length 1, fun k => some (famN L.length 1 3 (fun j => [i64 ((seenL L fun x y z t => meetsS x y z t a b c d).getD j 0)]) none))
  | _ => none
noncomputable def mN50 : MCon := mcKU F50
theorem mN50_eq : mN50 = mcKU F50 := (rfl)
theorem F50_eq {L : Ents} {a b c d : Int} : F50 [.rop [.rm 4 L], .agg [.v (.int .i64 a), .v (.int .i64 b), .v (.int .i64 c), .v (.int .i64 d)]] = some ([selIn L, L.length ≤ 1000, inR a, inR b, inR c, inR d], fun k => .own k 0 (seenL L fun x y z t => meetsS x y z t a b c d).length 1, fun k => some (famN L.length 1 3 (fun j => [i64 ((seenL L fun x y z t => meetsS x y z t a b c d).getD j 0)]) none)) := (rfl)
attribute [go_sem] mN50_eq F50_eq
theorem mon50 : MConOK Tryz.prog 50 mN50 := MConOK.mkU (G := [(102, c102), (76, .wr mN76)]) (H := []) (.cons con102 (.mcons mon76 .nil)) Tryz.func50 fun es ob v nw hF hob => by
  unfold F50 at hF
  split at hF
  · rename_i L a b c d
    cases hF
    have h1 : selIn L := hob _ (by simp)
    have h2 : L.length ≤ 1000 := hob _ (by simp)
    have o2 : inR a := hob _ (by simp)
    have o3 : inR b := hob _ (by simp)
    have o4 : inR c := hob _ (by simp)
    have o5 : inR d := hob _ (by simp)
    refine ⟨_, fun w I vs hR => hR, by simp [clean], by kernel_rfl, fun key => bodyM_go (rs := [.tmp 4]) rfl rfl ?_⟩
    simp only [go_sem, c102, h1, h2, o2, o3, o4, o5]
    exact newN2 rfl (Nat.zero_le _) fun i hi => ⟨rfl, int_clean⟩
  · cases hF
def F24 : List AV → Option (List Prop × (Nat → AV) × (Nat → Option Fam))
  | [.rop [.rm 4 L], .agg [.v (.int .i64 a), .v (.int .i64 b)], .agg [.v (.int .i64 c), .v (.int .i64 d)]] => some ([selIn L, L.length ≤ 1000, inR a, inR b, inR c, inR d], fun k => .own k 0 (seenL L fun x y z t => alS x y z t a b c d).length 1, fun k => some (famN L.length 1 3 (fun j => [i64 ((seenL L fun x y z t => alS x y z t a b c d).getD j 0)]) none))
  | _ => none
noncomputable def mN24 : MCon := mcKU F24
theorem mN24_eq : mN24 = mcKU F24 := (rfl)
theorem F24_eq {L : Ents} {a b c d : Int} : F24 [.rop [.rm 4 L], .agg [.v (.int .i64 a), .v (.int .i64 b)], .agg [.v (.int .i64 c), .v (.int .i64 d)]] = some ([selIn L, L.length ≤ 1000, inR a, inR b, inR c, inR d], fun k => .own k 0 (seenL L fun x y z t => alS x y z t a b c d).length 1, fun k => some (famN L.length 1 3 (fun j => [i64 ((seenL L fun x y z t => alS x y z t a b c d).getD j 0)]) none)) := (rfl)
attribute [go_sem] mN24_eq F24_eq
end Go.Ax
end

section
/-
  Along a run of the machine the number of draws does not fall.
-/
set_option linter.unusedSimpArgs false
set_option linter.unusedVariables false
namespace Go.Mono
open Go
def RLe {α : Type} (d : Nat) : Result α → Prop
  | .ok _ w => d ≤ w.drawn
  | .halt _ w => d ≤ w.drawn
theorem RLe.mono {α : Type} {d d' : Nat} {r : Result α} (h : RLe d' r) (hd : d ≤ d') : RLe d r := by
  cases r <;> exact Nat.le_trans hd h
theorem ask_le {α : Type} : ∀ (a : Ask α) (w : World), w.drawn ≤ (w.ask a).2.drawn
  | .done a, w => Nat.le_refl _
  | .ask what range k, w => by
    unfold World.ask
    dsimp only
    split
    · exact ask_le _ w
    · exact Nat.le_trans (Nat.le_succ _) (ask_le _ { w with drawn := w.drawn + 1 })
theorem sys_le (w : World) (c : Sys) : w.drawn ≤ (w.sys c).2.drawn := by
  unfold World.sys
  have h := ask_le (Kernel.perform c w.os) w
  split
  · exact Nat.le_refl _
  · rename_i h2; rw [h2] at h; exact h
theorem viewStore_dr {p : Program} {w w' : World} {at_ : Addr} {u : TypeId} {k : Addr} {v : Value} {atomic : Bool} {l : List Addr} (h : w.viewStore p at_ u k v atomic = .ok (w', l)) : w'.drawn = w.drawn := by
  unfold World.viewStore at h
  simp only [bind, Except.bind, pure, Except.pure, throw, throwThe, MonadExceptOf.throw] at h
  repeat' split at h
  all_goals first | (cases h; rfl) | (cases h)
theorem farStore_dr {p : Program} {w w' : World} {a : Addr} {v : Value} {atomic : Bool} {l : List Addr} (h : w.farStore p a v atomic = .ok (w', l)) : w'.drawn = w.drawn := by
  unfold World.farStore at h
  split at h
  · split at h
    · rename_i r h2; cases h; exact viewStore_dr h2
    · cases h
  · cases h
theorem freeze_dr (w : World) (a : Addr) (n : Nat) : (w.freeze a n).drawn = w.drawn := by
  unfold World.freeze; split <;> rfl
theorem run_le {α : Type} (p : Program) : ∀ (s : Sem α) (w : World), RLe w.drawn (s.run p w)
  | .pure a, w => Nat.le_refl _
  | .load m a k, w => by
    unfold Sem.run
    split
    · exact run_le p _ w
    · split
      · exact run_le p _ w
      · exact Nat.le_refl _
  | .store m a v k, w => by
    cases v
    all_goals first
      | exact Nat.le_refl _
      | (simp only [Sem.run]
         split
         · split
           · exact Nat.le_refl _
           · exact run_le p k (w.setCell a _)
         · split
           · rename_i w' l h
             exact (run_le p k w').mono (by rw [farStore_dr h]; exact Nat.le_refl _)
           · exact Nat.le_refl _)
  | .new o k, w => by
    unfold Sem.run
    exact run_le p _ { w with heap := w.heap.push o }
  | .shape r k, w => by
    unfold Sem.run
    exact run_le p _ w
  | .freeze a n k, w => by
    unfold Sem.run
    exact (run_le p k (w.freeze a n)).mono (by rw [freeze_dr]; exact Nat.le_refl _)
  | .frozen a k, w => by
    unfold Sem.run
    exact run_le p _ w
  | .getObj r k, w => by
    unfold Sem.run
    split
    · exact Nat.le_refl _
    · exact run_le p _ w
    · exact Nat.le_refl _
  | .setObj r o k, w => by
    unfold Sem.run
    split
    · exact Nat.le_refl _
    · exact run_le p k { w with heap := w.heap.setIfInBounds r o }
    · exact Nat.le_refl _
  | .choose q k, w => by
    unfold Sem.run
    split
    · exact run_le p _ w
    · exact (run_le p _ { w with drawn := w.drawn + 1 }).mono (Nat.le_succ _)
  | .sys c k, w => by
    unfold Sem.run
    exact (run_le p _ (w.sys c).2).mono (sys_le w c)
  | .program k, w => by
    unfold Sem.run
    exact run_le p _ w
  | .mark m k, w => by
    unfold Sem.run
    exact run_le p k w
  | .halt h, w => Nat.le_refl _
theorem runT_le {α : Type} (p : Program) : ∀ (s : Sem α) (w : World) (es : Array Event), RLe w.drawn (s.runT p w es).1
  | .pure a, w, es => Nat.le_refl _
  | .load m a k, w, es => by
    unfold Sem.runT
    split
    · exact runT_le p _ w _
    · split
      · exact runT_le p _ w _
      · exact Nat.le_refl _
  | .store m a v k, w, es => by
    cases v
    all_goals first
      | exact Nat.le_refl _
      | (simp only [Sem.runT]
         split
         · split
           · exact Nat.le_refl _
           · exact runT_le p k (w.setCell a _) _
         · split
           · rename_i w' l h
             exact (runT_le p k w' _).mono (by rw [farStore_dr h]; exact Nat.le_refl _)
           · exact Nat.le_refl _)
  | .new o k, w, es => by
    unfold Sem.runT
    exact runT_le p _ { w with heap := w.heap.push o } _
  | .shape r k, w, es => by
    unfold Sem.runT
    exact runT_le p _ w _
  | .freeze a n k, w, es => by
    unfold Sem.runT
    exact (runT_le p k (w.freeze a n) _).mono (by rw [freeze_dr]; exact Nat.le_refl _)
  | .frozen a k, w, es => by
    unfold Sem.runT
    exact runT_le p _ w _
  | .getObj r k, w, es => by
    unfold Sem.runT
    split
    · exact Nat.le_refl _
    · exact runT_le p _ w _
    · exact Nat.le_refl _
  | .setObj r o k, w, es => by
    unfold Sem.runT
    split
    · exact Nat.le_refl _
    · exact runT_le p k { w with heap := w.heap.setIfInBounds r o } _
    · exact Nat.le_refl _
  | .choose q k, w, es => by
    unfold Sem.runT
    split
    · exact runT_le p _ w _
    · exact (runT_le p _ { w with drawn := w.drawn + 1 } _).mono (Nat.le_succ _)
  | .sys c k, w, es => by
    unfold Sem.runT
    exact (runT_le p _ (w.sys c).2 _).mono (sys_le w c)
  | .program k, w, es => by
    unfold Sem.runT
    exact runT_le p _ w _
  | .mark m k, w, es => by
    unfold Sem.runT
    exact runT_le p k w _
  | .halt h, w, es => Nat.le_refl _
theorem run_ok {α : Type} {p : Program} {s : Sem α} {w w' : World} {v : α} (h : s.run p w = .ok v w') : w.drawn ≤ w'.drawn := by
  have := run_le p s w; rw [h] at this; exact this
theorem run_halt {α : Type} {p : Program} {s : Sem α} {w w' : World} {v : Halt} (h : s.run p w = .halt v w') : w.drawn ≤ w'.drawn := by
  have := run_le p s w; rw [h] at this; exact this
def GLe (d : Nat) : GStep → Prop
  | .go _ w _ => d ≤ w.drawn
  | .comm _ _ _ _ w _ => d ≤ w.drawn
  | .spawn _ _ w _ => d ≤ w.drawn
  | .count _ w _ => d ≤ w.drawn
  | .timer _ _ w _ => d ≤ w.drawn
  | .alone _ _ w _ => d ≤ w.drawn
  | .newcoro _ _ _ w _ => d ≤ w.drawn
  | .coroswitch _ _ _ w _ => d ≤ w.drawn
  | .collect _ w _ => d ≤ w.drawn
  | .watch _ w _ => d ≤ w.drawn
  | .ended _ _ _ => True
theorem GLe.after {d : Nat} {es : Array Event} {g : GStep} (h : GLe d g) : GLe d (GStep.after es g) := by
  cases g <;> exact h
theorem GLe.mono {d d' : Nat} {g : GStep} (h : GLe d' g) (hd : d ≤ d') : GLe d g := by
  cases g <;> first | exact trivial | exact Nat.le_trans hd h
theorem endWith_le {w : World} {fd : Nat} {t : ByteArray} {o : Outcome} {d : Nat} : GLe d (endWith w fd t o) := by
  unfold endWith
  dsimp only
  repeat' split
  all_goals exact trivial
theorem dieOf_le {fr : Frame} {l : List ByteArray} {m : String} {b : Bool} {w : World} : GLe w.drawn (dieOf fr l m b w) := Nat.le_refl _
theorem endThrow_le {fr : Frame} {m : String} {w : World} : GLe w.drawn (endThrow fr m w) := Nat.le_refl _
theorem endPrinting_le {p : Program} {fr : Frame} {v : Value} {w : World} : GLe w.drawn (endPrinting p fr v w) := by
  unfold endPrinting
  dsimp only
  split
  · exact endThrow_le
  · exact trivial
theorem endFatal_le {p : Program} {fr : Frame} {cs : List Frame} {dy : Option Dying} {m : String} {w : World} : GLe w.drawn (endFatal p fr cs dy m w) := by
  unfold endFatal
  dsimp only
  split
  · rename_i h
    exact dieOf_le.mono (run_ok h)
  · exact trivial
  · exact trivial
theorem runT_ok {α : Type} {p : Program} {s : Sem α} {w w' : World} {v : α} {es es' : Array Event} (h : s.runT p w es = (.ok v w', es')) : w.drawn ≤ w'.drawn := by
  have := runT_le p s w es; rw [h] at this; exact this
theorem runT_halt {α : Type} {p : Program} {s : Sem α} {w w' : World} {v : Halt} {es es' : Array Event} (h : s.runT p w es = (.halt v w', es')) : w.drawn ≤ w'.drawn := by
  have := runT_le p s w es; rw [h] at this; exact this
theorem runT_ok1 {α : Type} {p : Program} {s : Sem α} {w w' : World} {v : α} {es : Array Event} (h : (s.runT p w es).1 = .ok v w') : w.drawn ≤ w'.drawn := by
  have := runT_le p s w es; rw [h] at this; exact this
theorem runT_halt1 {α : Type} {p : Program} {s : Sem α} {w w' : World} {v : Halt} {es : Array Event} (h : (s.runT p w es).1 = .halt v w') : w.drawn ≤ w'.drawn := by
  have := runT_le p s w es; rw [h] at this; exact this
theorem writeOn_le {p : Program} {fr : Frame} {d : Dying} {f : Fatal} {w : World} : GLe w.drawn (writeOn p fr d f w) := by
  unfold writeOn
  dsimp only
  split
  · exact trivial
  · split
    · rename_i h; exact runT_ok h
    · rename_i h; exact runT_halt h
    · exact trivial
    · exact trivial
theorem die_le {p : Program} {fr : Frame} {d : Dying} {w : World} : GLe w.drawn (die p fr d w) := by
  unfold die
  split
  · exact writeOn_le
  · split
    · split
      · exact Nat.le_refl _
      · exact endWith_le
    · dsimp only
      split
      · exact Nat.le_refl _
      · split
        · rename_i h; exact run_ok h
        · exact trivial
      · refine GLe.after ?_
        split
        · rename_i h; exact runT_ok1 h
        · rename_i h; exact runT_ok1 h
        · exact trivial
        · rename_i h; exact endPrinting_le.mono (runT_halt1 h)
        · exact trivial
      · exact trivial
theorem doReturn_le {p : Program} {main : Bool} {fr : Frame} {cs : List Frame} {dy : Option Dying} {v : Value} {w : World} : GLe w.drawn (doReturn p main fr cs dy v w) := by
  unfold doReturn
  repeat' split
  all_goals first | exact Nat.le_refl _ | exact trivial
theorem callDeferred_le {p : Program} {fr : Frame} {cs : List Frame} {dy : Option Dying} {d : Deferred} {w : World} : GLe w.drawn (callDeferred p fr cs dy d w) := by
  unfold callDeferred
  repeat' (first | exact trivial | exact Nat.le_refl _ | exact runT_ok (by assumption) | exact runT_ok1 (by assumption) | exact runT_halt (by assumption) | exact runT_halt1 (by assumption) | exact run_ok (by assumption) | exact endThrow_le | exact endFatal_le | exact doReturn_le | exact endPrinting_le | exact endFatal_le.mono (runT_halt1 (by assumption)) | exact endThrow_le.mono (runT_halt1 (by assumption)) | exact endFatal_le.mono (runT_halt (by assumption)) | exact endThrow_le.mono (runT_halt (by assumption)) | exact doReturn_le.mono (runT_ok (by assumption)) | exact doReturn_le.mono (runT_ok1 (by assumption)) | exact run_halt (by assumption) | exact endFatal_le.mono (run_halt (by assumption)) | exact endThrow_le.mono (run_halt (by assumption)) | (dsimp only [GLe]; first | exact run_ok (by assumption) | exact run_halt (by assumption)) | apply GLe.after | split)
theorem unwind_le {p : Program} {main : Bool} {fr : Frame} {cs : List Frame} {dy : Option Dying} {w : World} : GLe w.drawn (unwind p main fr cs dy w) := by
  unfold unwind
  repeat' (first | exact callDeferred_le | exact trivial | split)
  all_goals (repeat' (first | exact trivial | exact Nat.le_refl _ | exact runT_ok (by assumption) | exact runT_ok1 (by assumption) | exact runT_halt (by assumption) | exact runT_halt1 (by assumption) | exact run_ok (by assumption) | exact endThrow_le | exact endFatal_le | exact doReturn_le | exact endPrinting_le | exact endFatal_le.mono (runT_halt1 (by assumption)) | exact endThrow_le.mono (runT_halt1 (by assumption)) | exact endFatal_le.mono (runT_halt (by assumption)) | exact endThrow_le.mono (runT_halt (by assumption)) | exact doReturn_le.mono (runT_ok (by assumption)) | exact doReturn_le.mono (runT_ok1 (by assumption)) | exact run_halt (by assumption) | exact endFatal_le.mono (run_halt (by assumption)) | exact endThrow_le.mono (run_halt (by assumption)) | (dsimp only [GLe]; first | exact run_ok (by assumption) | exact run_halt (by assumption)) | apply GLe.after | split))
theorem early_le {p : Program} {fr : Frame} {cs : List Frame} {dy : Option Dying} {g : Nat} {w : World} : GLe w.drawn (early p fr cs dy g w) := by
  unfold early
  dsimp only
  repeat' (first | exact trivial | exact Nat.le_refl _ | exact runT_ok (by assumption) | exact runT_ok1 (by assumption) | exact runT_halt (by assumption) | exact runT_halt1 (by assumption) | exact run_ok (by assumption) | exact endThrow_le | exact endFatal_le | exact doReturn_le | exact endPrinting_le | exact endFatal_le.mono (runT_halt1 (by assumption)) | exact endThrow_le.mono (runT_halt1 (by assumption)) | exact endFatal_le.mono (runT_halt (by assumption)) | exact endThrow_le.mono (runT_halt (by assumption)) | exact doReturn_le.mono (runT_ok (by assumption)) | exact doReturn_le.mono (runT_ok1 (by assumption)) | exact run_halt (by assumption) | exact endFatal_le.mono (run_halt (by assumption)) | exact endThrow_le.mono (run_halt (by assumption)) | (dsimp only [GLe]; first | exact run_ok (by assumption) | exact run_halt (by assumption)) | apply GLe.after | split)
theorem apply_le {p : Program} {listen : Bool} {fr : Frame} {cs : List Frame} {dy : Option Dying} {s : Sem Next} {w : World} : GLe w.drawn (stepG.apply p listen fr cs dy s w) := by
  cases listen <;> unfold stepG.apply <;> simp only [if_true, if_false, Bool.false_eq_true] <;> repeat' (first | exact early_le.mono (run_halt (by assumption)) | exact early_le.mono (runT_halt1 (by assumption)) | exact early_le.mono (runT_halt (by assumption)) | exact trivial | exact Nat.le_refl _ | exact runT_ok (by assumption) | exact runT_ok1 (by assumption) | exact runT_halt (by assumption) | exact runT_halt1 (by assumption) | exact run_ok (by assumption) | exact run_halt (by assumption) | exact endFatal_le.mono (runT_halt1 (by assumption)) | exact endThrow_le.mono (runT_halt1 (by assumption)) | exact endFatal_le.mono (run_halt (by assumption)) | exact endThrow_le.mono (run_halt (by assumption)) | apply GLe.after | split)
theorem oper_le {p : Program} {listen : Bool} {fr : Frame} {cs : List Frame} {dy : Option Dying} {w : World} : GLe w.drawn (stepG.oper p listen fr cs dy w) := by
  unfold stepG.oper
  repeat' (first | exact apply_le | exact trivial | split)
theorem elim_le {α : Type} {d : Nat} {o : Option α} {a : GStep} {f : α → GStep} (h1 : GLe d a) (h2 : ∀ x, GLe d (f x)) : GLe d (o.elim a f) := by
  cases o
  · exact h1
  · exact h2 _
theorem exec_le {p : Program} {main listen : Bool} {fr : Frame} {cs : List Frame} {dy : Option Dying} {w : World} : GLe w.drawn (stepG.exec p main listen fr cs dy w) := by
  unfold stepG.exec
  dsimp only
  repeat' (first | exact apply_le | exact oper_le | exact trivial | exact Nat.le_refl _ | exact apply_le.mono (runT_ok1 (by assumption)) | exact apply_le.mono (runT_ok (by assumption)) | exact run_ok (by assumption) | exact runT_ok1 (by assumption) | exact runT_halt1 (by assumption) | exact doReturn_le.mono (runT_ok1 (by assumption)) | apply GLe.after | refine elim_le ?_ (fun _ => ?_) | split)
theorem stepG_le {p : Program} {main listen : Bool} {g : Goroutine} {w : World} : GLe w.drawn (stepG p main g w listen) := by
  unfold stepG
  dsimp only
  repeat' (first | exact exec_le | exact unwind_le | exact die_le | split)
/-! ### The machine -/
def SLe (d : Nat) : Stepped → Prop
  | .next m => d ≤ m.world.drawn
  | .ended _ _ => True
theorem SLe.mono {d d' : Nat} {s : Stepped} (h : SLe d' s) (hd : d ≤ d') : SLe d s := by
  cases s <;> first | exact trivial | exact Nat.le_trans hd h
theorem look_le {p : Program} {gs : Array Goroutine} {rest : Rest} {w : World} : SLe w.drawn (look p gs rest w) := by
  unfold look
  dsimp only
  repeat' (first | exact trivial | (dsimp only [SLe]; exact run_ok (by assumption)) | split)
theorem waitingAt_dr {rest : Rest} {cs : Array CommCase} {w w' : World} (h : waitingAt rest cs w = some w') : w.drawn ≤ w'.drawn := by
  unfold waitingAt at h
  repeat' split at h
  all_goals first | (cases h; exact Nat.le_refl _) | cases h
theorem communicate_le {p : Program} {rest : Rest} {gs : Array Goroutine} {i : Nat} {g : Goroutine} {cases' : Array CommCase} {b : Bool} {sh : CommShape} {w : World} : SLe w.drawn (communicate p rest gs i g cases' b sh w).1 := by
  unfold communicate
  dsimp only
  repeat' (first | exact trivial | exact Nat.le_refl _ | exact waitingAt_dr (by assumption) | (dsimp only [SLe]; first | exact run_ok (by assumption) | exact Nat.le_trans (run_ok (by assumption)) (run_ok (by assumption)) | exact Nat.le_trans (run_ok (by assumption)) (run_halt (by assumption))) | split)
theorem serve_le {p : Program} {m : Machine} {k : Nat} : SLe m.world.drawn (serve p m k) := by
  unfold serve
  dsimp only
  repeat' (first | exact trivial | exact Nat.le_refl _ | split)
theorem drain_dr (w : World) (c : Nat) : (drain w c).2.drawn = w.drawn := by
  unfold drain
  split <;> rfl
theorem retime_dr (m : Machine) (k : Nat) (t : Timer) (a b : Nat) : (retime m k t a b).2.world.drawn = m.world.drawn := by
  unfold retime
  dsimp only
  cases t.chan with
  | none => rfl
  | some c => exact drain_dr _ _
theorem opened_dr {m m' : Machine} {v : Addr} (h : timerOp.opened m v = some m') : m'.world.drawn = m.world.drawn := by
  unfold timerOp.opened at h
  repeat' split at h
  all_goals first | (cases h; rfl) | cases h
theorem named_dr {m m' : Machine} {a : Addr} {f : Nat → Timer → Value × Machine} {d : Nat} {v : Value} (hf : ∀ k t, (f k t).2.world.drawn = d) (h : timerOp.named m a f = .ok (v, m')) : m'.world.drawn = d := by
  unfold timerOp.named at h
  split at h
  · rename_i k _
    have h2 : f k (m.rest.timers.getD k default) = (v, m') := Except.ok.inj h
    have := hf k (m.rest.timers.getD k default)
    rw [h2] at this
    exact this
  · cases h
theorem timerOp_dr {m m' : Machine} {op : TimerOp} {v : Value} (h : timerOp m op = .ok (v, m')) : m'.world.drawn = m.world.drawn := by
  unfold timerOp at h
  split at h
  · split at h
    · cases h; rfl
    · split at h
      · split at h
        · cases h
        · cases h; rfl
      · cases h
  · exact named_dr (fun k t => retime_dr _ _ _ _ _) h
  · split at h
    · rename_i h2
      exact named_dr (fun k t => (retime_dr _ _ _ _ _).trans (opened_dr h2)) h
    · cases h
  · cases h; rfl
theorem endThrow_go {fr : Frame} {s : String} {w w' : World} {g : Goroutine} {es : Array Event} (h : endThrow fr s w = .go g w' es) : w.drawn ≤ w'.drawn := by
  cases h
  exact Nat.le_refl _
theorem runM_le {p : Program} {m : Machine} {i : Nat} {listen : Bool} : SLe m.world.drawn (Go.runT p m i listen).1 := by
  unfold Go.runT
  have h := fun (g : Goroutine) => stepG_le (p := p) (main := i == 0) (g := g) (w := m.world) (listen := listen)
  dsimp only
  have h1 := h (m.gs.swapAt! i { (default : Goroutine) with status := .finished }).1
  split
  all_goals rename_i heq
  all_goals rw [heq] at h1
  · exact trivial
  · exact communicate_le.mono h1
  · exact h1
  · exact h1
  · split
    · exact trivial
    · exact h1
  · exact h1
  · exact look_le.mono h1
  · exact h1
  · exact h1
  · have h1 : m.world.drawn ≤ _ := h1
    repeat' (first | exact trivial | exact h1 | split)
    all_goals exact Nat.le_trans h1 (endThrow_go (by assumption))
  · have h1 : m.world.drawn ≤ _ := h1
    split
    · rename_i h2
      exact Nat.le_trans h1 (by rw [timerOp_dr h2]; exact Nat.le_refl _)
    · split
      · rename_i h2
        exact Nat.le_trans h1 (endThrow_go h2)
      · exact trivial
    · exact trivial
    · exact trivial
def MLe (p : Program) (d : Nat) : Move → Prop
  | .goroutine m _ => d ≤ m.world.drawn
  | .machine s _ => SLe d s
theorem MLe.mono {p : Program} {d d' : Nat} {s : Move} (h : MLe p d' s) (hd : d ≤ d') : MLe p d s := by
  cases s
  · exact Nat.le_trans hd h
  · exact SLe.mono h hd
theorem adv_dr (m : Machine) (t : Nat) : (m.advanceTo t).world.drawn = m.world.drawn := (rfl)
theorem askOn_le {p : Program} {m : Machine} : MLe p m.world.drawn (askOn p m) := by
  unfold askOn
  dsimp only
  split
  · exact trivial
  · rename_i k w1 h1
    have l1 := run_ok h1
    split
    · exact SLe.mono serve_le l1
    · split
      · split
        · exact l1
        · split
          · exact l1
          · split <;> exact trivial
      · split
        · skip
          split
          · exact trivial
          · rename_i h2
            have l2 := Nat.le_trans l1 (run_ok h2)
            split
            · exact l2
            · split
              · exact trivial
              · rename_i h3
                have l3 := Nat.le_trans l2 (run_ok h3)
                (try split)
                all_goals exact l3
        · split
          · exact trivial
          · rename_i h4
            have l4 := Nat.le_trans l1 (run_ok h4)
            split
            · exact trivial
            · rename_i h2
              have l2 := Nat.le_trans l4 (run_ok h2)
              split
              · exact l2
              · split
                · exact trivial
                · rename_i h3
                  have l3 := Nat.le_trans l2 (run_ok h3)
                  (try split)
                  all_goals exact l3
          · rename_i h4
            have l4 := Nat.le_trans l1 (run_ok h4)
            exact l4
          · rename_i h4
            have l4 := Nat.le_trans l1 (run_ok h4)
            split
            · exact trivial
            · rename_i h2
              have hh := run_ok h2
              rw [adv_dr] at hh
              have l2 := Nat.le_trans l4 hh
              split
              · exact l2
              · split
                · exact trivial
                · rename_i h3
                  have l3 := Nat.le_trans l2 (run_ok h3)
                  (try split)
                  all_goals exact l3
theorem ask_move_le {p : Program} {m : Machine} : MLe p m.world.drawn (Go.ask p m) := by
  unfold Go.ask
  split
  · split
    · exact trivial
    · rename_i w1 h1
      have l1 := run_ok h1
      split
      · rename_i h2
        have l2 := look_le (p := p) (gs := m.gs) (rest := m.rest) (w := w1)
        rw [h2] at l2
        exact askOn_le.mono (Nat.le_trans l1 l2)
      · rename_i h2
        exact SLe.mono look_le l1
    · rename_i h1
      exact MLe.mono (p := p) (d' := _) askOn_le (run_ok h1)
  · exact askOn_le
theorem move_le {p : Program} {m : Machine} : MLe p m.world.drawn (move p m) := by
  unfold move
  repeat' (first | exact trivial | exact Nat.le_refl _ | exact ask_move_le (m := m) | exact ask_move_le (m := { m with rest := { m.rest with slice := none } }) | split)
theorem step_le {p : Program} {m m' : Machine} (h : step p m = .next m') : m.world.drawn ≤ m'.world.drawn := by
  have h1 := move_le (p := p) (m := m)
  unfold step stepT at h
  split at h
  · rename_i m1 i hm
    rw [hm] at h1
    have h2 := runM_le (p := p) (m := m1) (i := i) (listen := true)
    rw [h] at h2
    exact Nat.le_trans h1 h2
  · rename_i s ops hm
    rw [hm] at h1
    have h1 : SLe m.world.drawn s := h1
    have h : s = .next m' := h
    rw [h] at h1
    exact h1
theorem runN_le {p : Program} : ∀ (n : Nat) {m m' : Machine}, runN p n m = .next m' → m.world.drawn ≤ m'.world.drawn
  | 0, m, m', h => by cases h; exact Nat.le_refl _
  | n + 1, m, m', h => by
    unfold runN at h
    split at h
    · rename_i m1 h1
      exact Nat.le_trans (step_le h1) (runN_le n h)
    · rename_i h1
      exact absurd h (h1 m')
/-- A call's draws. -/
theorem calls_mono {P : Program} {f : FuncId} {args : Array Value} {w : World} {R : Ending → World → Prop} (h : Calls P f args w fun e w' => R e w' ∧ e ≠ .outgrown) : Calls P f args w fun e w' => R e w' ∧ w.drawn ≤ w'.drawn := fun cs => by
  obtain ⟨e, w', fr, ⟨h1, h2⟩, h3, h4, h5⟩ := h cs
  refine ⟨e, w', fr, ⟨h1, ?_⟩, h3, h4, h5⟩
  cases e with
  | returned v => obtain ⟨n, h3⟩ := h3; exact runN_le n h3
  | panicked c => obtain ⟨n, h3⟩ := h3; exact runN_le n h3
  | outgrown => exact absurd rfl h2
end Go.Mono
end
