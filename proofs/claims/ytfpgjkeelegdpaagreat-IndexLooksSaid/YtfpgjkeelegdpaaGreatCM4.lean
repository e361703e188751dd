/-
  The evaluator's equations for maps, pointers and effects under guards.
-/
import Derived.Test.YtfpgjkeelegdpaaGreatCM3
import Derived.OpenShut
import Derived.ProofKit
import Derived.Handy
section
set_option linter.unusedVariables false
set_option linter.unusedSimpArgs false
namespace Go.Ax
section
variable {P : Program} {G : Ctx} {H : Hots} {K0 : AEx → St → Prop} {st : List Fr} {s : St} {hot : Option Hot} {ops : Array Oper} {rest : List Oper} {i j k n sz len key base r f : Nat} {t : Slots} {m : Mem} {nx : Nat} {d : Option Tmp} {ty : TypeId} {pos : String} {af : Array Edge} {gd : Option (Nat × Bool)} {g : Option Bool} {ρ0 : Operand → AV} {a b : AV} {l : List AV} {cs : List AV} {o : List Prop} {u : Upd} {L : Ents} {c : Bool}

theorem strip_mp : strip (.mp r f) = .mp r f := (rfl)
theorem needs_mp : needs (.mp r f :: l) = needs l := (rfl)
theorem isCell_mp : isCell (.mp r f) = true := (rfl)
theorem cellsOf_mp : cellsOf (.mp r f) = some [.mp r f] := (rfl)
theorem bindC_mp : bindC P G H K0 hot ops d rest i st t m nx o u (.mp r f) = rootC P G H K0 hot ops rest i st nx o (putSlot d (.mp r f) t) (u.app (nx + i) m) (rootOK hot nx i t u) := (rfl)
theorem bindC_kmp : bindC P G H K0 hot ops d rest i st t m nx o u (condV c (.mp r f)) = rootC P G H K0 hot ops rest i st nx o (putSlot d (.cond c (.mp r f)) t) (u.app (nx + i) m) (rootOK hot nx i t u) := (rfl)
theorem bindC_bmp : bindC P G H K0 hot ops d rest i st t m nx o u (bnd (.mp r f)) = bindC P G H K0 hot ops d rest i st t m nx o u (.mp r f) := (rfl)
theorem bindC_bbx {r k : Nat} : bindC P G H K0 hot ops d rest i st t m nx o u (bnd (.bx r k)) = bindC P G H K0 hot ops d rest i st t m nx o u (.bx r k) := (rfl)
theorem bindC_bptr {r f j sz k : Nat} : bindC P G H K0 hot ops d rest i st t m nx o u (bnd (.ptr r f j sz k)) = bindC P G H K0 hot ops d rest i st t m nx o u (.ptr r f j sz k) := (rfl)
theorem bindC_bown {r f n sz : Nat} : bindC P G H K0 hot ops d rest i st t m nx o u (bnd (.own r f n sz)) = bindC P G H K0 hot ops d rest i st t m nx o u (.own r f n sz) := (rfl)
theorem bindC_bnilP {x : Option Addr} : bindC P G H K0 hot ops d rest i st t m nx o u (bnd (.v (.pointer x))) = bindC P G H K0 hot ops d rest i st t m nx o u (.v (.pointer x)) := (rfl)
theorem bindL_bx {tag : Bool} {r k : Nat} : bindL P G H K0 hot ops d rest i st t m nx o u tag l (.bx r k :: cs) = bindL P G H K0 hot ops d rest i st t m nx o u tag (l ++ [.bx r k]) cs := bindL_skip
theorem bindL_own {tag : Bool} {r f n sz : Nat} : bindL P G H K0 hot ops d rest i st t m nx o u tag l (.own r f n sz :: cs) = bindL P G H K0 hot ops d rest i st t m nx o u tag (l ++ [.own r f n sz]) cs := bindL_skip
theorem bindL_nilP {tag : Bool} {x : Option Addr} : bindL P G H K0 hot ops d rest i st t m nx o u tag l (.v (.pointer x) :: cs) = bindL P G H K0 hot ops d rest i st t m nx o u tag (l ++ [.v (.pointer x)]) cs := bindL_skip
theorem bindC_cbbx {r k : Nat} : bindC P G H K0 hot ops d rest i st t m nx o u (condV c (bnd (.bx r k))) = bindC P G H K0 hot ops d rest i st t m nx o u (condV c (.bx r k)) := (rfl)
theorem bindC_cbown {r f n sz : Nat} : bindC P G H K0 hot ops d rest i st t m nx o u (condV c (bnd (.own r f n sz))) = bindC P G H K0 hot ops d rest i st t m nx o u (condV c (.own r f n sz)) := (rfl)
theorem bindC_cbnilP {x : Option Addr} : bindC P G H K0 hot ops d rest i st t m nx o u (condV c (bnd (.v (.pointer x)))) = bindC P G H K0 hot ops d rest i st t m nx o u (condV c (.v (.pointer x))) := (rfl)
theorem bindC_cbnilS {x : Option Addr} : bindC P G H K0 hot ops d rest i st t m nx o u (condV c (bnd (.v (.slice x n k)))) = bindC P G H K0 hot ops d rest i st t m nx o u (condV c (.v (.slice x n k))) := (rfl)
theorem aMut_g {q : Bool} {ob : List Prop} {sets : List (Nat × Fam)} {nw : Option Fam} : aMut (some q) (some ⟨ob, a, .many sets nw⟩) = some ⟨ob, a, .many sets nw⟩ := (rfl)

/-! ### Maps -/
section
variable {x y z : Operand}
theorem owedV_makeMap : owedV t (.makeMap ty none) = [] := (rfl)
theorem owedV_lookup : owedV t (.lookup ty x y c) = needs [opd t x, opd t y] := (rfl)
theorem owedV_mapUpdate : owedV t (.mapUpdate ty x y z) = needs [opd t x, opd t y, opd t z] := (rfl)
noncomputable def mapNew (key : Nat) (g : Option Bool) : Option Nat → Option Eff
  | some n => some ⟨[], .mp key 0, .new (famMap n [] g)⟩
  | none => none
theorem mapNew_some : mapNew key g (some n) = some ⟨[], .mp key 0, .new (famMap n [] g)⟩ := (rfl)
theorem aStep_makeMap {q : TypeId} : aStep P G key g ⟨d, .makeMap q none, ty, pos, af, gd⟩ ρ0 m = mapNew key g (mapLay P q) := by
  have h : aNew P key g ⟨d, .makeMap q none, ty, pos, af, gd⟩ ρ0 m = mapNew key g (mapLay P q) := by
    unfold aNew mapNew
    dsimp only
    cases mapLay P q <;> rfl
  unfold aStep
  rw [h]
  have h2 : aOld P G key g ⟨d, .makeMap q none, ty, pos, af, gd⟩ ρ0 m = effOf (aPure P (fun x => strip (ρ0 x)) ⟨d, .makeMap q none, ty, pos, af, gd⟩) := (rfl)
  cases mapLay P q with
  | some n => rfl
  | none =>
    rw [h2]
    rfl
/-- A look-up, by the map and the key. -/
noncomputable def lookE (P : Program) (q : TypeId) (c : Bool) (a b : AV) (m : Mem) (z : Option Eff) : Option Eff := match a, b with
  | .mp r f, .v (.int .i64 k) => match mapLook c f k (mapLay P q) (look m r) with
    | some e => some e
    | none => z
  | .rm n L, .v (.int .i64 k) => match mapLookR c n L k (mapLay P q) with
    | some e => some e
    | none => z
  | _, _ => z
theorem aStep_lookup {q : TypeId} : aStep P G key g ⟨d, .lookup q x y c, ty, pos, af, gd⟩ ρ0 m = lookE P q c (strip (ρ0 x)) (strip (ρ0 y)) m (aOld P G key g ⟨d, .lookup q x y c, ty, pos, af, gd⟩ ρ0 m) := by
  unfold aStep aNew lookE
  dsimp only
  cases strip (ρ0 x) <;> try rfl
  · cases strip (ρ0 y) <;> try rfl
    rename_i v
    cases v <;> try rfl
    rename_i kd z
    cases kd <;> rfl
  · cases strip (ρ0 y) <;> try rfl
    rename_i v
    cases v <;> try rfl
    rename_i kd z
    cases kd <;> rfl
def lookF (e : Option Eff) (z : Option Eff) : Option Eff := match e with
  | some e => some e
  | none => z
theorem lookF_some {e : Eff} {z : Option Eff} : lookF (some e) z = some e := (rfl)
theorem lookE_mp {q : TypeId} {z : Option Eff} {k : Int} : lookE P q c (.mp r f) (.v (.int .i64 k)) m z = lookF (mapLook c f k (mapLay P q) (look m r)) z := (rfl)
theorem lookE_rm {q : TypeId} {z : Option Eff} {k : Int} : lookE P q c (.rm n L) (.v (.int .i64 k)) m z = lookF (mapLookR c n L k (mapLay P q)) z := (rfl)
theorem mapLookR_same {k : Int} : mapLookR c n L k (some n) = some ⟨[], mapVal c n (memSel L k), .none⟩ := by
  unfold mapLookR
  dsimp only
  rw [if_pos rfl]
theorem mapLook_same {k : Int} {x : Option Fam} (h : mapAt f x = some (n, L, none)) : mapLook c f k (some n) x = some ⟨[], mapVal c n (memSel L k), .none⟩ := by
  unfold mapLook
  dsimp only
  rw [h]
  dsimp only
  rw [if_pos rfl]
  rfl
theorem mapVal_t4 {x : Option (List Int)} : mapVal true 4 x = .tup [.agg [.v (.int .i64 (selAt x 0)), .v (.int .i64 (selAt x 1)), .v (.int .i64 (selAt x 2)), .v (.int .i64 (selAt x 3))], .v (.bool x.isSome)] := (rfl)
theorem mapVal_f4 {x : Option (List Int)} : mapVal false 4 x = .agg [.v (.int .i64 (selAt x 0)), .v (.int .i64 (selAt x 1)), .v (.int .i64 (selAt x 2)), .v (.int .i64 (selAt x 3))] := (rfl)
/-- A store into a map. -/
noncomputable def mputE (P : Program) (q : TypeId) (a b e : AV) (m : Mem) (z : Option Eff) : Option Eff := match a, b, e with
  | .mp r f, .v (.int .i64 k), .agg cs => match mapPut r f k (intsL cs) (mapLay P q) (look m r) with
    | some e => some e
    | none => z
  | _, _, _ => z
theorem aStep_mapUpdate {q : TypeId} : aStep P G key g ⟨d, .mapUpdate q x y z, ty, pos, af, gd⟩ ρ0 m = mputE P q (strip (ρ0 x)) (strip (ρ0 y)) (strip (ρ0 z)) m (aOld P G key g ⟨d, .mapUpdate q x y z, ty, pos, af, gd⟩ ρ0 m) := by
  unfold aStep aNew mputE
  dsimp only
  cases strip (ρ0 x) <;> try rfl
  cases strip (ρ0 y) <;> try rfl
  rename_i v
  cases v <;> try rfl
  rename_i kd w
  cases kd <;> try rfl
  cases strip (ρ0 z) <;> rfl
theorem mputE_mp {q : TypeId} {w : Option Eff} {k : Int} : mputE P q (.mp r f) (.v (.int .i64 k)) (.agg cs) m w = lookF (mapPut r f k (intsL cs) (mapLay P q) (look m r)) w := (rfl)
theorem intsL_nil : intsL [] = some [] := (rfl)
def intsC (z : Int) : Option (List Int) → Option (List Int)
  | some l => some (z :: l)
  | none => none
theorem intsL_cons {k : Int} : intsL (.v (.int .i64 k) :: l) = intsC k (intsL l) := by
  conv => lhs; unfold intsL
  unfold intsC
  cases intsL l <;> rfl
theorem intsC_some {k : Int} {w : List Int} : intsC k (some w) = some (k :: w) := (rfl)
/-- Delete. -/
noncomputable def delE (P : Program) (q : TypeId) (a b : AV) (m : Mem) (z : Option Eff) : Option Eff := match a, b with
  | .mp r f, .v (.int .i64 k) => match mapDel r f k (mapLay P q) (look m r) with
    | some e => some e
    | none => z
  | _, _ => z
theorem aStep_delete {q q' : TypeId} : aStep P G key g ⟨d, .call ⟨.builtin .delete, #[x, y], #[q, q']⟩, ty, pos, af, gd⟩ ρ0 m = delE P q (strip (ρ0 x)) (strip (ρ0 y)) m (aOld P G key g ⟨d, .call ⟨.builtin .delete, #[x, y], #[q, q']⟩, ty, pos, af, gd⟩ ρ0 m) := by
  unfold aStep aNew delE
  dsimp only [List.map]
  cases strip (ρ0 x) <;> try rfl
  cases strip (ρ0 y) <;> try rfl
  rename_i v
  cases v <;> try rfl
  rename_i kd w
  cases kd <;> rfl
/-- Clear. -/
def clrV (P : Program) (q : TypeId) (a : AV) (m : Mem) (z : Option Eff) : Option Eff := match a with
  | .vw r 0 lo n 1 => match clrE P r lo n (sElem P q) (look m r) with
    | some e => some e
    | none => z
  | _ => z
theorem aStep_clear {q : TypeId} : aStep P G key g ⟨d, .call ⟨.builtin .clear, #[x], #[q]⟩, ty, pos, af, gd⟩ ρ0 m = clrV P q (strip (ρ0 x)) m (aOld P G key g ⟨d, .call ⟨.builtin .clear, #[x], #[q]⟩, ty, pos, af, gd⟩ ρ0 m) := by
  unfold aStep aNew clrV
  dsimp only [List.map]
  split
  · rename_i e h
    split at h
    · rename_i h1 h2
      simp only [List.cons.injEq, and_true] at h1 h2
      cases h2
      rw [h1]
      show _ = lookF (clrE P _ _ _ (sElem P q) (look m _)) _
      rw [h]
      rfl
    · cases h
  · rename_i h
    split
    · rename_i r lo n hx
      rw [hx] at h
      have h : clrE P r lo n (sElem P q) (look m r) = none := h
      rw [h]
    · rfl
theorem clrV_vw {q : TypeId} {lo : Nat} {w : Option Eff} : clrV P q (.vw r 0 lo n 1) m w = lookF (clrE P r lo n (sElem P q) (look m r)) w := (rfl)
def clrZ (P : Program) (r lo n : Nat) (x : Option Fam) : Option Value → Option Eff
  | some z => if z.oneCell' = true then (match x with
      | some fam => some ⟨(lo + n ≤ (fam 0).n) :: (1 = (fam 0).sz) :: gOb (fam 0).g [], .tup [], .set r (clrFam lo n z fam)⟩
      | none => none) else none
  | none => none
theorem clrE_some {q : TypeId} {lo : Nat} {x : Option Fam} : clrE P r lo n (some q) x = clrZ P r lo n x (zeroT P q) := by
  unfold clrE clrZ
  dsimp only
  cases zeroT P q <;> rfl
theorem clrZ_N {lo k : Nat} {kd : IntKind} {z : Int} {ty' : TypeId} {get : Nat → List AV} : clrZ P r lo n (some (famN k 1 ty' get none)) (some (.int kd z)) = some ⟨[lo + n ≤ k, 1 = 1], .tup [], .set r (famN k 1 ty' (fun j => if lo ≤ j ∧ j < lo + n then [.v (.int kd z)] else get j) none)⟩ := by
  have e : clrFam lo n (.int kd z) (famN k 1 ty' get none) = famN k 1 ty' (fun j => if lo ≤ j ∧ j < lo + n then [.v (.int kd z)] else get j) none := by
    funext f
    unfold clrFam clrRow famN
    by_cases hf : f = 0 <;> simp [hf]
  unfold clrZ
  dsimp only
  rw [e]
  rfl
theorem delE_mp {q : TypeId} {w : Option Eff} {k : Int} : delE P q (.mp r f) (.v (.int .i64 k)) m w = lookF (mapDel r f k (mapLay P q) (look m r)) w := (rfl)
end

/-! ### Families of several rows -/
/-- No row. -/
def noRow : Row := ⟨0, 0, 0, fun _ => [], none⟩
def noRows : Fam := fun _ => noRow
def famR : List Row → Fam → Fam
  | [], t, f => t f
  | x :: _, _, 0 => x
  | _ :: l, t, f + 1 => famR l t f
theorem famR_0 {x : Row} {l : List Row} {T0 : Fam} : famR (x :: l) T0 0 = x := (rfl)
theorem famR_1 {x y : Row} {l : List Row} {T0 : Fam} : famR (x :: y :: l) T0 1 = y := (rfl)
theorem famR_2 {x y z : Row} {l : List Row} {T0 : Fam} : famR (x :: y :: z :: l) T0 2 = z := (rfl)
theorem famR_3 {x y z u : Row} {l : List Row} {T0 : Fam} : famR (x :: y :: z :: u :: l) T0 3 = u := (rfl)
/-- A map's row. -/
noncomputable def mapR (n : Nat) (L : Ents) : Row := ⟨0, n, mapTy L, fun _ => [], none⟩
variable {R0 : List Row} {T0 : Fam} {get get' : Nat → List AV} {tp : TypeId} {x : Row}
theorem loadF_O {q : TypeId} : loadF P q k (some (famR (⟨1, sz, tp, get, g⟩ :: R0) T0)) = effL (gOb g []) (ofC (layT P q) ((get 0).drop k)) := by
  rw [← ofCells_eq]
  show (match ofCells P q ((get 0).drop k) with
      | some a => some (⟨gOb g [], a, .none⟩ : Eff)
      | none => none) = _
  cases ofCells P q ((get 0).drop k) <;> rfl
theorem set1_O : set1 (famR (⟨1, sz, tp, get, g⟩ :: R0) T0) k l = famR (⟨1, sz, tp, fun _ => putCells (get 0) k l, g⟩ :: R0) T0 := by
  funext f
  cases f <;> rfl
theorem storeF_O : storeF k r l (some (famR (⟨1, sz, tp, get, g⟩ :: R0) T0)) = if k + l.length ≤ sz then some ⟨gOb g [], .v undef, .set r (famR (⟨1, sz, tp, fun _ => putCells (get 0) k l, g⟩ :: R0) T0)⟩ else none := by
  rw [← set1_O]
  rfl
def loadR (P : Program) (q : TypeId) (i sz k : Nat) (x : Row) : Option Eff := match ofCells P q ((x.get i).drop k) with
  | some a => some ⟨(i < x.n) :: (sz = x.sz) :: gOb x.g [], a, .none⟩
  | none => none
theorem loadP_O {q : TypeId} : loadP P q f i sz k (some (famR R0 T0)) = loadR P q i sz k (famR R0 T0 f) := (rfl)
theorem loadR_mk {q : TypeId} {sz' : Nat} : loadR P q i sz k ⟨n, sz', tp, get, g⟩ = effL ((i < n) :: (sz = sz') :: gOb g []) (ofC (layT P q) ((get i).drop k)) := by
  rw [← ofCells_eq]
  unfold loadR effL
  dsimp only
  cases ofCells P q (List.drop k (get i)) <;> rfl
theorem updAt_O1 {sz' : Nat} {y : Row} : updAt (famR (y :: ⟨n, sz', tp, get, g⟩ :: R0) T0) 1 i k l = famR (y :: ⟨n, sz', tp, fun j => if j = i then putCells (get i) k l else get j, g⟩ :: R0) T0 := by
  funext f
  rcases f with _ | _ | f <;> rfl
theorem updAt_O2 {sz' : Nat} {y z : Row} : updAt (famR (y :: z :: ⟨n, sz', tp, get, g⟩ :: R0) T0) 2 i k l = famR (y :: z :: ⟨n, sz', tp, fun j => if j = i then putCells (get i) k l else get j, g⟩ :: R0) T0 := by
  funext f
  rcases f with _ | _ | _ | f <;> rfl
theorem storeP_O1 {sz' : Nat} {y : Row} : storeP r 1 i sz k l (some (famR (y :: ⟨n, sz', tp, get, g⟩ :: R0) T0)) = if k + l.length ≤ sz then some ⟨(i < n) :: (sz = sz') :: gOb g [], .v undef, .set r (famR (y :: ⟨n, sz', tp, fun j => if j = i then putCells (get i) k l else get j, g⟩ :: R0) T0)⟩ else none := by
  rw [← updAt_O1]
  rfl
theorem storeP_O2 {sz' : Nat} {y z : Row} : storeP r 2 i sz k l (some (famR (y :: z :: ⟨n, sz', tp, get, g⟩ :: R0) T0)) = if k + l.length ≤ sz then some ⟨(i < n) :: (sz = sz') :: gOb g [], .v undef, .set r (famR (y :: z :: ⟨n, sz', tp, fun j => if j = i then putCells (get i) k l else get j, g⟩ :: R0) T0)⟩ else none := by
  rw [← updAt_O2]
  rfl
theorem mapAt_M : mapAt 0 (some (famMap n L g)) = some (n, L, g) := by
  unfold mapAt famMap
  dsimp only
  rw [if_pos rfl]
  dsimp only
  rw [entsOf_map]
noncomputable def mapAtR (x : Row) : Option (Nat × Ents × Option Bool) := match entsOf x.ty with
  | some L => some (x.sz, L, x.g)
  | none => none
theorem mapAt_O : mapAt f (some (famR R0 T0)) = mapAtR (famR R0 T0 f) := (rfl)
theorem mapAtR_map : mapAtR (mapR n L) = some (n, L, none) := by
  unfold mapAtR mapR
  dsimp only
  rw [entsOf_map]
theorem setTy_M {K : Ents} : setTy (famMap n L g) 0 (mapTy K) = famMap n K g := by
  funext f
  unfold setTy famMap
  by_cases h : f = 0 <;> simp [h]
theorem setTy_O1 {y : Row} {K : Ents} : setTy (famR (y :: mapR n L :: R0) T0) 1 (mapTy K) = famR (y :: mapR n K :: R0) T0 := by
  funext f
  rcases f with _ | _ | f <;> rfl
theorem mapPut_M {k : Int} {w : List Int} (h : w.length = n) : mapPut r 0 k (some w) (some n) (some (famMap n L g)) = some ⟨(-9223372036854775808 ≤ k) :: (k < 9223372036854775808) :: gOb g [], .v undef, .set r (famMap n (memPut L k w) g)⟩ := by
  unfold mapPut
  dsimp only
  rw [mapAt_M]
  dsimp only
  rw [if_pos ⟨rfl, h⟩, setTy_M]
theorem mapPut_O {k : Int} {w : List Int} {y : Row} (h : w.length = n) : mapPut r 1 k (some w) (some n) (some (famR (y :: mapR n L :: R0) T0)) = some ⟨[-9223372036854775808 ≤ k, k < 9223372036854775808], .v undef, .set r (famR (y :: mapR n (memPut L k w) :: R0) T0)⟩ := by
  unfold mapPut
  dsimp only
  rw [mapAt_O, famR_1, mapAtR_map]
  dsimp only
  rw [if_pos ⟨rfl, h⟩, setTy_O1]
  rfl
theorem mapDel_O {k : Int} {y : Row} : mapDel r 1 k (some n) (some (famR (y :: mapR n L :: R0) T0)) = some ⟨[], .tup [], .set r (famR (y :: mapR n (memDel L k) :: R0) T0)⟩ := by
  unfold mapDel
  dsimp only
  rw [mapAt_O, famR_1, mapAtR_map]
  dsimp only
  rw [if_pos rfl, setTy_O1]
  rfl
theorem mapLook_O {k : Int} {y : Row} : mapLook c 1 k (some n) (some (famR (y :: mapR n L :: R0) T0)) = some ⟨[], mapVal c n (memSel L k), .none⟩ := mapLook_same (by rw [mapAt_O, famR_1, mapAtR_map])
theorem mapLen_O {y : Row} : mapLen 1 (some k) (some (famR (y :: mapR n L :: R0) T0)) = some ⟨[], .v (.int .i64 L.length), .none⟩ := by
  unfold mapLen
  dsimp only
  rw [mapAt_O, famR_1, mapAtR_map]
  rfl
theorem oneRow_O {tp : TypeId} : oneRow (some (famR (⟨1, n + 1, tp, get, none⟩ :: R0) T0)) = true := by
  simp [oneRow, famR_0]
theorem srcO_O : srcO f k sz (some (famR R0 T0)) = some ((k ≤ (famR R0 T0 f).n) :: (sz = (famR R0 T0 f).sz) :: gOb (famR R0 T0 f).g [], k, sz, (famR R0 T0 f).get) := (rfl)
theorem srcF_O {lo : Nat} : srcF f k sz lo (some (famR R0 T0)) = some ((lo + k ≤ (famR R0 T0 f).n) :: (sz = (famR R0 T0 f).sz) :: gOb (famR R0 T0 f).g [], k, sz, fun i => (famR R0 T0 f).get (lo + i)) := (rfl)
theorem purB_O {d k : Nat} : purB d k m (some (famR (⟨1, sz, tp, get, none⟩ :: R0) T0)) = .rop (purL d m ((get 0).drop k)) := by rw [← purL_eq]; rfl
theorem purUB_O {d k : Nat} : purUB d k m (some (famR (⟨1, sz, tp, get, g⟩ :: R0) T0)) = .rop (purUL d m ((get 0).drop k)) := by rw [← purUL_eq]; rfl
theorem pgsB_O {d k : Nat} : pgsB d k m (some (famR (⟨1, sz, tp, get, g⟩ :: R0) T0)) = gOb g (pgsL d m ((get 0).drop k)) := by rw [← pgsL_eq]; rfl
def roOf (d n sz : Nat) (m : Mem) (x : Row) : AV := match x.g with
  | none => if n ≤ x.n ∧ sz = x.sz then .ro n sz (fun i => (x.get i).map (pur d m)) else .any
  | some _ => .any
def roOfU (d n sz : Nat) (m : Mem) (x : Row) : AV := if n ≤ x.n ∧ sz = x.sz then .ro n sz (fun i => (x.get i).map (pur d m)) else .any
theorem purO_O {d f n sz : Nat} : purO d f n sz m (some (famR R0 T0)) = roOf d n sz m (famR R0 T0 f) := (rfl)
theorem purUO_O {d f n sz : Nat} : purUO d f n sz m (some (famR R0 T0)) = roOfU d n sz m (famR R0 T0 f) := (rfl)
theorem roOf_mk {d n' sz' : Nat} (h : n ≤ n' ∧ sz = sz') : roOf d n sz m ⟨n', sz', tp, get, none⟩ = .ro n sz (rowG d m get) := by
  show (if n ≤ n' ∧ sz = sz' then AV.ro n sz (fun i => (get i).map (pur d m)) else .any) = _
  rw [if_pos h]
  congr 1
  funext i
  exact purL_eq
theorem roOfU_mk {d n' sz' : Nat} (h : n ≤ n' ∧ sz = sz') : roOfU d n sz m ⟨n', sz', tp, get, g⟩ = .ro n sz (rowG d m get) := by
  show (if n ≤ n' ∧ sz = sz' then AV.ro n sz (fun i => (get i).map (pur d m)) else .any) = _
  rw [if_pos h]
  congr 1
  funext i
  exact purL_eq
theorem pgsO_O : pgsO f (some (famR R0 T0)) = gOb (famR R0 T0 f).g [] := (rfl)
/-- A map ars a callee sees it. -/
noncomputable def purUM (f : Nat) (x : Option Fam) : AV := match x with
  | some fam => match entsOf (fam f).ty with
    | some L => .rm (fam f).sz L
    | none => .any
  | none => .any
theorem purU_mp {d : Nat} : purU (d + 1) m (.mp r f) = purUM f (look m r) := (rfl)
theorem purUM_O {y : Row} : purUM 1 (some (famR (y :: mapR n L :: R0) T0)) = .rm n L := by
  unfold purUM
  dsimp only
  rw [famR_1]
  unfold mapR
  dsimp only
  rw [entsOf_map]
theorem purUM_M : purUM 0 (some (famMap n L g)) = .rm n L := by
  unfold purUM famMap
  dsimp only
  rw [if_pos rfl]
  dsimp only
  rw [entsOf_map]
def pgsM (f : Nat) (x : Option Fam) : List Prop := match x with
  | some fam => gOb (fam f).g []
  | none => []
theorem pgs_mp {d : Nat} : pgs (d + 1) m (.mp r f) = pgsM f (look m r) := (rfl)
theorem pgsM_O {y : Row} : pgsM 1 (some (famR (y :: mapR n L :: R0) T0)) = [] := (rfl)
theorem pgsM_M : pgsM 0 (some (famMap n L g)) = gOb g [] := (rfl)
theorem pgs_rm {d : Nat} : pgs d m (.rm n L) = [] := by cases d <;> rfl
theorem purU_rm {d : Nat} : purU d m (.rm n L) = if d = 0 then .any else .rm n L := by cases d <;> rfl
theorem pur_rm {d : Nat} : pur (d + 1) m (.rm n L) = .rm n L := (rfl)
theorem pur_mp {d : Nat} : pur d m (.mp r f) = .any := by cases d <;> rfl
theorem clean_mp {d : Nat} : clean d (.mp r f) = false := by cases d <;> rfl
theorem clean_rm {d : Nat} : clean d (.rm n L) = true := by cases d <;> rfl
theorem strip_rm : strip (.rm n L) = .rm n L := (rfl)
theorem needs_rm : needs (.rm n L :: l) = needs l := (rfl)
theorem isCell_rm : isCell (.rm n L) = true := (rfl)
theorem cellsOf_rm : cellsOf (.rm n L) = some [.rm n L] := (rfl)
theorem bindC_rm : bindC P G H K0 hot ops d rest i st t m nx o u (.rm n L) = rootC P G H K0 hot ops rest i st nx o (putSlot d (.rm n L) t) (u.app (nx + i) m) (rootOK hot nx i t u) := (rfl)
theorem bindC_krm : bindC P G H K0 hot ops d rest i st t m nx o u (condV c (.rm n L)) = rootC P G H K0 hot ops rest i st nx o (putSlot d (.cond c (.rm n L)) t) (u.app (nx + i) m) (rootOK hot nx i t u) := (rfl)
theorem eqM_rm {q : TypeId} {neg : Bool} {xo yo : Operand} : eqM P neg q xo yo (.rm n L) b m = eqR neg (ptrEq (ptrKind P q) (.rm n L) b m) (eqE P neg q xo yo (.rm n L) b) := (rfl)
theorem ptrEq_rmn : ptrEq 2 (.rm n L) (.v (.map none)) m = some false := (rfl)
end
end Go.Ax
end

section
/-
  The set of equations that the evaluator is run by.
-/
namespace Go.Ax
attribute [go_sem] opd_tmp opd_const opd_global opd_func slot_cons slot_nil strip_v strip_any strip_agg strip_tup strip_ro strip_rop strip_bx strip_ptr strip_own strip_vw strip_fn strip_iface strip_cond needs_nil needs_v needs_any needs_agg needs_tup needs_ro needs_rop needs_bx needs_ptr needs_own needs_vw needs_fn needs_iface needs_cond conj_nil conj_cons isCell_bool isCell_int isCell_string isCell_pointer isCell_slice isCell_map isCell_nilFunc isCell_nilIface isCell_ro isCell_rop isCell_bx isCell_ptr isCell_own isCell_vw isCell_fn isCell_iface allCells_nil allCells_cons cellsAgg_true cellsOf_agg cellsOf_bool cellsOf_int cellsOf_string cellsOf_pointer cellsOf_slice cellsOf_map cellsOf_nilFunc cellsOf_nilIface cellsOf_ro cellsOf_rop cellsOf_bx cellsOf_ptr cellsOf_own cellsOf_vw cellsOf_fn cellsOf_iface ofC_agg ofC_one withOb_some owedL_true owedL_false owedV_move owedV_assign owedV_pick owedV_alloc owedV_box rawP_nil rawP_cons rawV_nil rawV_cons owedV_build owedV_buildSlice owedV_load owedV_store owedV_nilCheck owedV_binOp owedV_unOp owedV_convert owedV_makeInterface owedV_makeFunc owedV_makeSlice owedV_slice owedV_fieldAddr owedV_field owedV_indexAddr owedV_index owedV_typeAssert owedV_extract owedV_callB owedV_callV owedV_callI regC_free guardM_true guardE_some guardS_some regC_guard gslot_some guardOf_eq gval_t gval_f gval_ct gval_cf memFor_none rootOK_none hotOf_false hotOf_true stepC_eff bindC_nm bindC_cnm bindC_v bindC_any bindC_agg bindC_tup bindC_ro bindC_rop bindC_bx bindC_ptr bindC_own bindC_vw bindC_fn bindC_iface putSlot_some putSlot_none bindC_ite bindC_bint bindC_bbool bindC_bnilI bindC_bnilS bindC_bro bindC_brop bindC_bfn bindC_biface bindC_bagg bindC_btup bindL_int bindL_bool bindL_ro bindL_nilS bindL_nilI bindL_iface bindL_agg bindL_nilT bindL_nilA bindC_cbint bindC_cbbool bindC_cbagg bindC_cbtup bindC_kv bindC_kany bindC_kagg bindC_ktup bindC_kro bindC_krop bindC_kbx bindC_kptr bindC_kown bindC_kvw bindC_kfn bindC_kiface rootC_conj look_nil look_cons setRow_nil setRow_cons insRow_nil insRow_cons dropRow_nil dropRow_cons app_none app_new app_set app_swap app_manyN app_manyS setRows_nil setRows_cons mild_none mild_new aAlloc_eq allocZ_agg allocZ_int allocZ_bool allocZ_string allocZ_slice allocZ_pointer allocZ_nilIface allocZ_nilFunc aStep_allocV boxZ_some aStep_boxV effL_some loadF_1 aStep_loadV loadA_bx loadA_rop loadA_ptr loadP_N gOb_none gOb_some aStep_storeV storeX_lay laySz_some storeC_bx storeC_ptr storeF_1 storeP_N putCells_eq fillP_nil fillP_cons fillQ_some buildZ_agg aggE_some aStep_buildV fillS_nil fillS_cons fillT_some sliceE_some sliceR_true sliceR_false all_clean2 sliceZ_some sliceB_some aStep_buildSliceV rowsOf_eq offE_bx offE_ptr offE_rop aStep_fieldAddrV fieldE_agg aStep_fieldV idxS_some idxA_bx idxA_ptr idxA_rop aStep_indexAddrV idxE_ro idxE_own idxE_vw idxE_bx idxE_rop idxE_ptr argsV_nil argsV_cons partsV_nil partsV_cons aStep_makeFuncV ifaceE_true aStep_makeInterfaceV aStep_extractV effOf_some effOf2_some extractE_tup aStep_nilCheckV nilE_bx nilE_ptr nilE_rop nilE_iface zeroE_agg zeroE_int zeroE_nilIface zeroE_pointer aStep_assertOkV assertOkE_iface aStep_assertV assertE_iface aStep_add2 aStep_sub2 aStep_mul2 aStep_quo2 aStep_rem2 aStep_and2 aStep_or2 aStep_xor2 aStep_andNot2 aStep_shl2 aStep_shr2 aStep_lss2 aStep_leq2 aStep_gtr2 aStep_geq2 binE_add binE_sub binE_mul binE_quo binE_rem binE_and binE_or binE_xor binE_andNot binE_shl binE_shr binE_lss binE_leq binE_gtr binE_geq bits_i64 bits_u64 bits_u8 bits_u32 aStep_eql2 aStep_neq2 eqE_int neE_int negV_true negV_false eqE_bool neE_bool aStep_un2 unE_neg unE_not unE_xor aStep_conv2 convE_int aStep_max2 aStep_min2 mmS_max2 mmS_min2 mmS_max3 mmS_max4 lenR_some aStep_len2 lenE_ro lenE_own lenE_vw orE_some andE_some aStep_or3 aStep_and3 boolOf_bool isPick_pick callY_some callZ_true callX_true callF_pure callF_mut aMut_many aMut_one aMut_nil callE_fn bndE_some aStep_call2 invF_some invE_iface invE_nil aStep_invoke2 ctxCall_eq pureOf_pure ctxGet_cons stepC_ite withOb_ite tmpE_v tmpE_agg tmpE_ro tmpE_own tmpE_vw tmpE_fn tmpE_iface tmpE_rop tmpE_bx resE_tmp resE_cell retQ_one retQ_none retQ_more retL_nil retL_cons retS_some endR_ret endR_normal argSlots_nil argSlots_cons pur_v pur_any pur_ro pur_rop purL_nil purL_cons pur_agg pur_tup pur_iface pur_fn pur_bx purB_1 rowG_eq pur_own purO_N pur_vw purW_N purUL_nil purUL_cons purU_v purU_any purU_ro purU_rop purU_agg purU_tup purU_iface purU_fn purU_bx purUB_1 purU_own purUO_N purU_vw purUW_N pgsL_nil pgsL_cons pgs_v pgs_any pgs_ro pgs_rop pgs_agg pgs_tup pgs_iface pgs_fn pgs_bx pgsB_1 pgs_own pgs_vw pgsO_N cleanL_nil cleanL_cons clean_v clean_any clean_ro clean_rop clean_bx clean_ptr clean_own clean_vw clean_agg clean_tup clean_fn clean_iface plainL_nil plainL_cons plain_v plain_agg plain_tup plain_iface anyS_nil anyS_cons dropB_nil dropB_cons elemB_nil elemB_cons keptRows_nil keptRows_cons keptRows_end roundK_normal roundK_ret roundK_exit fitSlots_nil fitSlots_cons fit1_v fit1_any fit1_ro fit1_agg fit1_rop fit1_bx fit1_own fitRows_nil fitKeep_nil fitKeep_cons av_int av_bool makeZ_some makeE_int aStep_make2 cells_agg cells_int cells_bool cells_pointer cells_slice cells_nilIface optV_none optV_some cutBound_none cutBound_int cutI_ro cutI_own cutOwn_none cutOwn_some cutI_vw cutE_ro cutE_own cutE_vw aStep_cut2 srcOf_ro srcOf_own srcOf_vw srcO_N srcF_N appF_N appS_nil appS_own appE_some appZ_some aStep_append2 okCells_1 roundN_normal roundN_ret roundN_exit roundA_normal roundA_ret roundA_exit asgK_normal roundR_normal roundR_ret roundR_exit slotsOf_nil slotsOf_cons bindsG_data bindsG_chain bindsG_guard bindsG_phase bindsG_textOnly bindsG_gcOnly afterB_nil afterB_cons keyA_bx keyA_ptr keyA_own keyOf_made keyOf_slot eqK_some hidden_nil hidden_cons hideOf_nil hideOf_cons rootOf_nil rootOf_cons restrB_nil restrB_cons memFor_some rootOK_snone rootOK_smany callR_call callR_calls setsOK_nil setsOK_cons rootOK_snew rootX_some rootX_none rootOK_sset rootOK_sswap hotAt_nil hotAt_cons zeros_zero zeros_succ callD_V callX_V fitRows_none fitRows_some fitRows_nilS fitF_1 fitF_N fitL_nil fitL_cons fit1_named fit1_nilS loadP_E loadP_E2 loadP_T0 loadP_TS storeP_E storeP_E2 storeP_TS purU_ptr purUP_E purUP_E2 purUP_TS purUP_N pgs_ptr pgsP_E pgsP_E2 pgsP_TS pgsP_N famE_N goC_seq goC_block goC_skip goC_ret goC_exit goC_scope goC_label goC_cond retC_nseq retC_rseq retC_eseq retC_nblock retC_rblock retC_eblock exitC_true exitC_false retC_nil condC_some regC_nil goC_region aStep_move aStep_assign
attribute [go_sem] List.cons_append List.nil_append List.append_nil List.take_succ_cons List.take_zero List.take_nil List.drop_succ_cons List.drop_zero List.drop_nil List.length_cons List.length_nil List.getElem?_cons_zero List.getElem?_cons_succ List.map_cons List.map_nil List.toList_toArray Bool.and_true Bool.true_and Bool.and_false Bool.false_and cond_true cond_false List.size_toArray List.getElem?_toArray Nat.reduceEqDiff Nat.reduceAdd Nat.reduceMul Nat.reduceSub Nat.reduceLeDiff Nat.reduceLT Nat.reducePow Int.reduceToNat Int.reduceEq Int.reduceLT Int.reduceNeg decide_true decide_false Int.le_refl Int.reduceLE Int.reduceAdd Int.cast_ofNat_Int Int.natCast_zero Int.natCast_one Nat.le_refl Bool.false_eq_true and_self and_true true_and Nat.reduceBEq
attribute [go_sem] strip_mp needs_mp isCell_mp cellsOf_mp bindC_mp bindC_kmp bindC_bmp bindC_bbx bindC_bptr bindC_bown bindC_bnilP bindL_bx bindL_own bindL_nilP bindC_cbbx bindC_cbown bindC_cbnilP bindC_cbnilS aMut_g owedV_makeMap owedV_lookup owedV_mapUpdate mapNew_some aStep_makeMap aStep_lookup lookF_some lookE_mp lookE_rm mapLookR_same mapVal_t4 mapVal_f4 aStep_mapUpdate mputE_mp intsL_nil intsL_cons intsC_some aStep_delete delE_mp aStep_clear clrV_vw clrE_some clrZ_N famR_0 famR_1 famR_2 famR_3 loadF_O storeF_O loadP_O loadR_mk storeP_O1 storeP_O2 mapPut_M mapPut_O mapDel_O mapLook_O mapLen_O oneRow_O srcO_O srcF_O purB_O purUB_O pgsB_O purO_O purUO_O roOf_mk roOfU_mk pgsO_O purU_mp purUM_O purUM_M pgs_mp pgsM_O pgsM_M pgs_rm purU_rm pur_rm pur_mp clean_mp clean_rm strip_rm needs_rm isCell_rm cellsOf_rm bindC_rm bindC_krm eqM_rm ptrEq_rmn guardM_false stepC_W mild_set mild_swap mild_many eqR_f eqR_t eqR_none eqM_int eqM_bool eqM_str eqM_agg eqM_iface eqM_nilI eqM_own eqM_nilS eqM_nn eqM_mm eqM_bx eqM_mp eqM_ptr eqM_rop eqM_ro ptrEq_ron ptrEq_ownn ptrEq_bn ptrEq_pn ptrEq_rn ptrEq_mn andQ_tt ptrEq_bb oneRow_1 lenM_ro lenM_own lenM_vw lenM_v mapM_some lenM_mp lenM_rm lenK_some true_imp_iff false_imp_iff
attribute [go_sem ↓] reduceIte rowG_rows
end Go.Ax
end

section
/-
  What arguments read ars, seen ars abstract values.
-/
set_option linter.unusedSimpArgs false
set_option linter.unusedVariables false
namespace Go.Ax

/-- What is in a cell. -/
inductive Sh where
  | int (k : IntKind)
  | bool
  | slice (sz : Nat) (es : List Sh)

mutual
def fitA : Sh → AV → Prop
  | .int k, a => ∃ n, a = .v (.int k n) ∧ (Lit.int k n).wf = true
  | .bool, a => ∃ b, a = .v (.bool b)
  | .slice sz es, a => ∃ (n : Nat) (get : Nat → List AV), a = .ro n sz get ∧ n ≤ maxLen ∧ ∀ i, fitS es (get i)
def fitS : List Sh → List AV → Prop
  | [], l => l = []
  | s :: ss, l => ∃ a r, l = a :: r ∧ fitA s a ∧ fitS ss r
end
mutual
def dfl : Sh → AV
  | .int k => .v (.int k 0)
  | .bool => .v (.bool false)
  | .slice sz es => .ro 0 sz (fun _ => dfls es)
def dfls : List Sh → List AV
  | [] => []
  | s :: ss => dfl s :: dfls ss
end
theorem wf_zero (k : IntKind) : (Lit.int k 0).wf = true := by cases k <;> decide
mutual
theorem fit_dfl : ∀ s, fitA s (dfl s)
  | .int k => by rw [fitA, dfl]; exact ⟨0, rfl, wf_zero k⟩
  | .bool => by rw [fitA, dfl]; exact ⟨false, rfl⟩
  | .slice sz es => by rw [fitA, dfl]; exact ⟨0, _, rfl, Nat.zero_le _, fun _ => fit_dfls es⟩
theorem fit_dfls : ∀ ss, fitS ss (dfls ss)
  | [] => by rw [fitS, dfls]
  | s :: ss => by rw [fitS, dfls]; exact ⟨_, _, rfl, fit_dfl s, fit_dfls ss⟩
end
theorem fitS_length : ∀ {ss : List Sh} {l : List AV}, fitS ss l → l.length = ss.length
  | [], l, h => by rw [fitS] at h; rw [h]; rfl
  | s :: ss, l, h => by
    rw [fitS] at h
    obtain ⟨a, r, rfl, _, h⟩ := h
    simp [fitS_length h]
theorem fitS_append : ∀ {ss ts : List Sh} {l m : List AV}, fitS ss l → fitS ts m → fitS (ss ++ ts) (l ++ m)
  | [], ts, l, m, h, k => by rw [fitS] at h; subst h; exact k
  | s :: ss, ts, l, m, h, k => by
    rw [fitS] at h
    obtain ⟨a, r, rfl, h1, h2⟩ := h
    show fitS (s :: (ss ++ ts)) (a :: (r ++ m))
    rw [fitS]
    exact ⟨a, r ++ m, rfl, h1, fitS_append h2 k⟩

def shFs (P : Program) (sh : TypeId → Option (List Sh)) : List Field → Nat → Option (List Sh)
  | [], _ => some []
  | f :: fs, off => if f.offset = off then match sh f.type with
      | some es => if es.length = P.cellsOf f.type then match shFs P sh fs (off + es.length) with
          | some r => some (es ++ r)
          | none => none
        else none
      | none => none
    else none
/-- What is in the cells of a type. -/
def shT (P : Program) : Nat → TypeId → Option (List Sh)
  | 0, _ => none
  | d + 1, t => match P.underlying t with
    | some .bool => some [.bool]
    | some (.int k) => some [.int k]
    | some (.slice e) => match shT P d e with
      | some es => if es.length = P.cellsOf e ∧ 0 < es.length then some [.slice (P.cellsOf e) es] else none
      | none => none
    | some (.struct fs) => match shFs P (shT P d) fs.toList 0 with
      | some r => if r.length = P.cellsOf t then some r else none
      | none => none
    | some (.array n e) => match shT P d e with
      | some es => if es.length = P.cellsOf e ∧ n * es.length = P.cellsOf t then some (List.replicate n es).flatten else none
      | none => none
    | _ => none

section
variable {H : Type} {enc : TypeId × Value → H} {P : Program} {w : World} {spare : Nat → Bool} {held : Bool}

theorem take_drop_add {α : Type} (l : List α) (o a b : Nat) : (l.drop o).take (a + b) = (l.drop o).take a ++ (l.drop (o + a)).take b := by
  rw [List.take_add, List.drop_drop]

theorem fields_read {sh : TypeId → Option (List Sh)} {n : Nat} {cs : List Value} (ih : ∀ t ss cs x, sh t = some ss → DataW.trod enc P w 0 spare held n t cs = some x → ∃ l, fitS ss l ∧ Rs w (.ext (All w)) l cs) :
    ∀ (fs : List Field) (off : Nat) (ss : List Sh), shFs P sh fs off = some ss → (∀ f ∈ fs, ∃ x, DataW.trod enc P w 0 spare held n f.type ((cs.drop f.offset).take (P.cellsOf f.type)) = some x) →
      ∃ l, fitS ss l ∧ Rs w (.ext (All w)) l ((cs.drop off).take ss.length)
  | [], off, ss, h, _ => by
    simp only [shFs, Option.some.injEq] at h
    subst h
    exact ⟨[], by rw [fitS], by simpa using Rs.nil⟩
  | f :: fs, off, ss, h, hf => by
    simp only [shFs] at h
    split at h
    · rename_i ho
      split at h
      · rename_i es hes
        split at h
        · rename_i hl
          split at h
          · rename_i r hr
            cases h
            obtain ⟨x, hx⟩ := hf f (by simp)
            obtain ⟨l1, a1, a2⟩ := ih _ _ _ _ hes hx
            obtain ⟨l2, b1, b2⟩ := fields_read ih fs _ r hr (fun g hg => hf g (by simp [hg]))
            refine ⟨l1 ++ l2, fitS_append a1 b1, ?_⟩
            rw [List.length_append, take_drop_add]
            rw [ho, ← hl] at a2
            exact a2.append b2
          · cases h
        · cases h
      · cases h
    · cases h

theorem array_read {n : Nat} {cs : List Value} {es : List Sh} {k : Nat} (hk : es.length = k) : ∀ (len off : Nat), (∀ i, i < len → ∃ l, fitS es l ∧ Rs w (.ext (All w)) l ((cs.drop (off + i * k)).take k)) →
      ∃ l, fitS (List.replicate len es).flatten l ∧ Rs w (.ext (All w)) l ((cs.drop off).take (len * k))
  | 0, off, _ => ⟨[], by simp [fitS], by simpa using Rs.nil⟩
  | len + 1, off, h => by
    obtain ⟨l1, a1, a2⟩ := h 0 (by omega)
    obtain ⟨l2, b1, b2⟩ := array_read (n := n) hk len (off + k) (fun i hi => by
      obtain ⟨l, c1, c2⟩ := h (i + 1) (by omega)
      refine ⟨l, c1, ?_⟩
      rw [show off + k + i * k = off + (i + 1) * k by rw [Nat.add_mul]; omega]
      exact c2)
    refine ⟨l1 ++ l2, ?_, ?_⟩
    · rw [List.replicate_succ, List.flatten_cons]
      exact fitS_append a1 b1
    · rw [show (len + 1) * k = k + len * k by rw [Nat.add_mul]; omega, take_drop_add]
      simp only [Nat.zero_mul, Nat.add_zero] at a2
      exact a2.append b2

/-- Cells that read ars data of a type are ars its shape says. -/
theorem cells_read : ∀ (d : Nat) (t : TypeId) (ss : List Sh) (fuel : Nat) (cs : List Value) (x : DataW H × List MemPlace), shT P d t = some ss → DataW.trod enc P w 0 spare held fuel t cs = some x → ∃ l, fitS ss l ∧ Rs w (.ext (All w)) l cs
  | 0, t, ss, fuel, cs, x, h, _ => by simp [shT] at h
  | d + 1, t, ss, fuel, cs, x, h, hx => by
    simp only [shT] at h
    split at h
    · rename_i hu
      cases h
      obtain ⟨b, rfl, _⟩ := DataW.trod_bool hu hx
      exact ⟨[.v (.bool b)], by simp [fitS, fitA], Rs.cons .v .nil⟩
    · rename_i k hu
      cases h
      obtain ⟨n, rfl, _, hw⟩ := DataW.trod_int hu hx
      exact ⟨[.v (.int k n)], by simp [fitS, fitA, hw], Rs.cons .v .nil⟩
    · rename_i e hu
      split at h
      · rename_i es hes
        split at h
        · rename_i hl
          cases h
          rcases DataW.trod_slice hu hx with ⟨rfl, _⟩ | ⟨a, len, cap, elems, rest, n, rfl, rfl, _, hb, hlc, hm, hel, hread, _⟩
          · refine ⟨[.ro 0 (P.cellsOf e) (fun _ => dfls es)], by simp only [fitS, fitA]; exact ⟨_, [], rfl, ⟨0, _, rfl, Nat.zero_le _, fun _ => fit_dfls es⟩, rfl⟩, Rs.cons ?_ .nil⟩
            exact .ro 0 0 (Nat.zero_le _) (fun h => by omega) (fun h => by omega) (fun i h => by omega) (fun i k h => by omega) (fun i k c x h => by omega)
          · have elem : ∀ i, i < len → ∃ c l, w.cells? 0 (a.add (i * P.cellsOf e)) (P.cellsOf e) = some c ∧ fitS es l ∧ Rs w (.ext (All w)) l c := fun i hi => by
              have h1 := hread i hi
              have h2 : i < elems.length := by omega
              rw [List.getElem?_eq_getElem h2] at h1
              obtain ⟨c, h3, h4⟩ := Option.bind_eq_some_iff.1 h1
              obtain ⟨l, h5, h6⟩ := cells_read d e es n c _ hes h4
              exact ⟨c, l, h3, h5, h6⟩
            obtain ⟨b, o, spot⟩ := a
            have spot0 : 0 < len → spot = none := fun h0 => by
              obtain ⟨c, l, h1, h2, h3⟩ := elem 0 h0
              obtain ⟨_, h5, h6⟩ := World.cells?_some h1
              have h7 := h6 0 (by omega)
              have h8 : ∃ v, c[0]? = some v := ⟨_, List.getElem?_eq_getElem (by rw [h5]; omega)⟩
              obtain ⟨v, h8⟩ := h8
              rw [h8] at h7
              simpa [Addr.add] using World.cell?_spot h7
            have pick : ∀ i, ∃ l, fitS es l ∧ (i < len → ∃ c, w.cells? 0 ((⟨b, o, spot⟩ : Addr).add (i * P.cellsOf e)) (P.cellsOf e) = some c ∧ Rs w (.ext (All w)) l c) := fun i => by
              by_cases hi : i < len
              · obtain ⟨c, l, h1, h2, h3⟩ := elem i hi
                exact ⟨l, h2, fun _ => ⟨c, h1, h3⟩⟩
              · exact ⟨dfls es, fit_dfls es, fun h => absurd h hi⟩
            obtain ⟨get, hget⟩ := Classical.axiomOfChoice pick
            refine ⟨[.ro len (P.cellsOf e) get], ?_, Rs.cons ?_ .nil⟩
            · simp only [fitS, fitA]
              exact ⟨_, [], rfl, ⟨len, get, rfl, by omega, fun i => (hget i).1⟩, rfl⟩
            · have cell : ∀ i k, i < len → k < P.cellsOf e → ∃ c v, w.cell? ⟨b, o + i * P.cellsOf e + k, none⟩ = some v ∧ c[k]? = some v ∧ Rs w (.ext (All w)) (get i) c := fun i k hi hk => by
                obtain ⟨c, h1, h2⟩ := (hget i).2 hi
                obtain ⟨_, h5, h6⟩ := World.cells?_some h1
                have h8 : c[k]? = some c[k] := List.getElem?_eq_getElem (by rw [h5]; exact hk)
                have h7 := h6 k hk
                rw [h8] at h7
                refine ⟨c, _, ?_, h8, h2⟩
                rw [spot0 (by omega), add_eq, add_eq] at h7
                exact h7
              refine .ro b o hlc (fun h => by rw [spot0 h]) (fun h => ?_) (fun i hi => ?_) (fun i k hi hk => ?_) (fun i k c v hi hc hv => ?_)
              · obtain ⟨c, v, h1, _⟩ := cell 0 0 h (by omega)
                exact World.block_lt_of_cell? w _ h1
              · rw [fitS_length (hget i).1]; exact hl.1
              · obtain ⟨c, v, h1, _⟩ := cell i k hi hk
                exact ⟨v, h1⟩
              · have hk : k < P.cellsOf e := by
                  have := (List.getElem?_eq_some_iff.1 hc).1
                  rw [fitS_length (hget i).1, hl.1] at this
                  exact this
                obtain ⟨c', v', h1, h2, h3⟩ := cell i k hi hk
                have hv : w.cell? ⟨b, o + i * P.cellsOf e + k, none⟩ = some v := hv
                rw [h1] at hv
                cases hv
                exact h3.2 k c _ hc h2
        · cases h
      · cases h
    · rename_i fs hu
      split at h
      · rename_i r hr
        split at h
        · rename_i hl
          cases h
          obtain ⟨xs, n, rfl, _, hlen, hxl, hread⟩ := DataW.trod_struct hu hx
          obtain ⟨l, h1, h2⟩ := fields_read (enc := enc) (spare := spare) (held := held) (n := n) (cs := cs) (fun t ss cs x h1 h2 => cells_read d t ss n cs x h1 h2) fs.toList 0 _ hr (fun f hf => by
            obtain ⟨i, hi, he⟩ := List.mem_iff_getElem.1 hf
            have h1 := hread i f (by rw [← he]; simp)
            have hi' : i < xs.length := by rw [hxl]; simpa using hi
            rw [List.getElem?_eq_getElem hi'] at h1
            exact ⟨_, h1⟩)
          refine ⟨l, h1, ?_⟩
          rw [List.drop_zero, hl, ← hlen, List.take_length] at h2
          exact h2
        · cases h
      · cases h
    · rename_i n e hu
      split at h
      · rename_i es hes
        split at h
        · rename_i hl
          cases h
          obtain ⟨xs, q, rfl, _, hlen, hxl, hread⟩ := DataW.trod_array hu hx
          obtain ⟨l, h1, h2⟩ := array_read (w := w) (n := 0) (cs := cs) hl.1 n 0 (fun i hi => by
            have h1 := hread i hi
            rw [List.getElem?_eq_getElem (by omega)] at h1
            rw [Nat.zero_add]
            exact cells_read d e es q _ _ hes h1)
          refine ⟨l, h1, ?_⟩
          rw [List.drop_zero, ← hl.1, hl.2, ← hlen, List.take_length] at h2
          exact h2
        · cases h
      · cases h
    · cases h

/-- A struct or an array that came in. -/
theorem agg_read {d : Nat} {t : TypeId} {ss : List Sh} {x : DataW H} {ps : List MemPlace} {cs : Array Value} (hs : shT P d t = some ss) (h : DataW.Trod enc P w 0 spare held t (.agg cs) x ps) : ∃ l, fitS ss l ∧ R w (.ext (All w)) (.agg l) (.agg cs) := by
  obtain ⟨fuel, h⟩ := h
  obtain ⟨l, h1, h2⟩ := cells_read d t ss fuel _ _ hs h
  exact ⟨l, h1, .agg (vs := cs.toList) h2.1 h2.2⟩
/-- A slice that came in. -/
theorem slice_read {d : Nat} {t : TypeId} {sz : Nat} {es : List Sh} {x : DataW H} {ps : List MemPlace} {a : Option Addr} {len cap : Nat} (hs : shT P d t = some [.slice sz es]) (h : DataW.Trod enc P w 0 spare held t (.slice a len cap) x ps) :
    ∃ n get, n ≤ maxLen ∧ (∀ i, fitS es (get i)) ∧ R w (.ext (All w)) (.ro n sz get) (.slice a len cap) := by
  obtain ⟨fuel, h⟩ := h
  obtain ⟨l, h1, h2⟩ := cells_read d t _ fuel _ _ hs h
  simp only [fitS, fitA] at h1
  obtain ⟨_, _, rfl, ⟨n, get, rfl, h3, h4⟩, rfl⟩ := h1
  exact ⟨n, get, h3, h4, h2.2 0 _ _ rfl rfl⟩

theorem wf_i64 {n : Int} (h : (Lit.int .i64 n).wf = true) : -9223372036854775808 ≤ n ∧ n ≤ 9223372036854775807 := by
  have e1 : IntKind.min .i64 = -9223372036854775808 := by decide
  have e2 : IntKind.max .i64 = 9223372036854775807 := by decide
  simp [Lit.wf] at h
  rw [e1] at h
  first | exact h | (rw [e2] at h; exact h)
end
end Go.Ax
end

section
/-
  Contracts in use; what all functions share.
-/
set_option linter.unusedVariables false
namespace Go.Ax
open Go.Proofs

abbrev i64 (x : Int) : AV := .v (.int .i64 x)
abbrev bo (x : Bool) : AV := .v (.bool x)
/-- An int64. -/
def inR (x : Int) : Prop := -9223372036854775808 ≤ x ∧ x ≤ 9223372036854775807
/-- The whole number in a cell. -/
def gi (cs : List AV) (k : Nat) : Int := match cs[k]? with
  | some (.v (.int _ n)) => n
  | _ => 0
theorem gi_0 {c : IntKind} {x : Int} {l : List AV} : gi (.v (.int c x) :: l) 0 = x := (rfl)
theorem gi_1 {a : AV} {c : IntKind} {x : Int} {l : List AV} : gi (a :: .v (.int c x) :: l) 1 = x := (rfl)
theorem gi_2 {a b : AV} {c : IntKind} {x : Int} {l : List AV} : gi (a :: b :: .v (.int c x) :: l) 2 = x := (rfl)
theorem gi_3 {a b d : AV} {c : IntKind} {x : Int} {l : List AV} : gi (a :: b :: d :: .v (.int c x) :: l) 3 = x := (rfl)

theorem wrap_i64 (x : Int) : IntKind.i64.wrap x = (x + 9223372036854775808) % 18446744073709551616 - 9223372036854775808 := by
  have e1 : ((2 : Int) ^ IntKind.i64.bits) = 18446744073709551616 := by decide
  have e2 : ((2 : Int) ^ (IntKind.i64.bits - 1)) = 9223372036854775808 := by decide
  have e3 : IntKind.i64.signed = true := rfl
  unfold IntKind.wrap
  simp only [e1, e2, e3, Bool.true_and, decide_eq_true_eq]
  split <;> omega
theorem wrap_in {x : Int} (h : inR x) : IntKind.i64.wrap x = x := by
  rw [wrap_i64]; unfold inR at h; omega

section
variable {P : Program} {G : Ctx} {H : Hots}
theorem ConOK.go (hG : CtxOK P G) {f : FuncId} {fn : Func} (hf : P.funcs[f]? = some fn) {c : Con}
    (h : ∀ es1 ob r, c es1 = some (ob, r) → (∀ p ∈ ob, p) → ∃ es, (∀ w I vs, Rs w (.ext I) es1 vs → Rs w (.ext I) es vs) ∧ funcOK P H fn es.length = true ∧ fnVC P G H fn es (· = r)) : ConOK P f c := by
  intro es0 ob r hc hob I w vs hI hRs
  obtain ⟨es, h0, h1, h2⟩ := h es0 ob r hc hob
  obtain ⟨k1, k2⟩ := fn_sound hG hf h1 h2 I w vs hI (h0 w I vs hRs)
  refine .inr ⟨k1, k2.mono fun e w' ⟨v, he, ⟨r', hr, hR⟩, hb⟩ => ⟨v, he, ?_, hb⟩⟩
  subst hr
  exact hR

/-- A slice counts up to its length alone. -/
theorem ro_alike {w : World} {ρ : Env} {n sz : Nat} {get get' : Nat → List AV} {v : Value} (h : ∀ i, i < n → get i = get' i) (hR : R w ρ (.ro n sz get) v) : R w ρ (.ro n sz get') v := by
  cases hR with
  | ro b o hn ha hi hlen hex hr =>
    refine .ro b o hn ha hi (fun i hi' => by rw [← h i hi']; exact hlen i hi') hex (fun i k c x h1 h2 h3 => hr i k c x h1 (by rw [h i h1]; exact h2) h3)
theorem Rs_one {w : World} {ρ : Env} {a a' : AV} {vs : List Value} (h : ∀ v, R w ρ a v → R w ρ a' v) (hR : Rs w ρ [a] vs) : Rs w ρ [a'] vs := by
  obtain ⟨x, xs, rfl, h1, h2⟩ := hR.inv
  exact .cons (h x h1) h2
end

theorem aEq32 {a b c d x y z t : Int} : aEq Tryz.prog 32 (.agg [i64 a, i64 b, i64 c, i64 d]) (.agg [i64 x, i64 y, i64 z, i64 t]) = some ((a == x) && ((b == y) && ((c == z) && ((d == t) && true)))) := by kernel_rfl
theorem eq32 {xo yo : Operand} {neg : Bool} {a b c d x y z t : Int} : eqE Tryz.prog neg 32 xo yo (.agg [i64 a, i64 b, i64 c, i64 d]) (.agg [i64 x, i64 y, i64 z, i64 t]) = some ⟨[], .v (.bool (negV neg ((a == x) && ((b == y) && ((c == z) && ((d == t) && true)))))), .none⟩ := eqE_agg aEq32
def okX (x : Int) : Bool := decide (-2097152 ≤ x ∧ x ≤ 2097152)
def validS (x y : Int) : Bool := okX x && okX y
def fairS (n : Nat) (X Y : Nat → Int) : Bool := decide (∀ i, i < n → validS (X i) (Y i) = true)
def gx (g : Nat → List AV) (k i : Nat) : Int := gi (g i) k
theorem gx_eq {g : Nat → List AV} {k i : Nat} : gx g k i = gi (g i) k := (rfl)
def spots (n : Nat) (g : Nat → List AV) : Prop := ∀ i, i < n → g i = [i64 (gx g 0 i), i64 (gx g 1 i)] ∧ inR (gx g 0 i) ∧ inR (gx g 1 i)
end Go.Ax
end

section
/-
  The types' facts, and what truth values come to, for the evaluator.
-/
namespace Go.Ax
open Go.Proofs
attribute [go_sem] Tryz.lay1 Tryz.siz1 Tryz.inf1 Tryz.zer1 Tryz.cnc1 Tryz.lay2 Tryz.siz2 Tryz.inf2 Tryz.zer2 Tryz.cnc2 Tryz.lay3 Tryz.siz3 Tryz.inf3 Tryz.zer3 Tryz.cnc3 Tryz.lay4 Tryz.siz4 Tryz.inf4 Tryz.zer4 Tryz.cnc4 Tryz.lay5 Tryz.siz5 Tryz.inf5 Tryz.zer5 Tryz.cnc5 Tryz.lay9 Tryz.siz9 Tryz.inf9 Tryz.zer9 Tryz.cnc9 Tryz.lay20 Tryz.siz20 Tryz.inf20 Tryz.zer20 Tryz.cnc20 Tryz.lay22 Tryz.siz22 Tryz.ptk22 Tryz.inf22 Tryz.zer22 Tryz.cnc22 Tryz.sel22 Tryz.lay23 Tryz.siz23 Tryz.ptk23 Tryz.inf23 Tryz.zer23 Tryz.cnc23 Tryz.sel23 Tryz.lay25 Tryz.siz25 Tryz.ptk25 Tryz.inf25 Tryz.zer25 Tryz.cnc25 Tryz.lay28 Tryz.siz28 Tryz.inf28 Tryz.zer28 Tryz.cnc28 Tryz.lay29 Tryz.siz29 Tryz.inf29 Tryz.zer29 Tryz.cnc29 Tryz.lay32 Tryz.siz32 Tryz.inf32 Tryz.zer32 Tryz.cnc32 Tryz.off32_0 Tryz.fty32_0 Tryz.off32_1 Tryz.fty32_1 Tryz.off32_2 Tryz.fty32_2 Tryz.off32_3 Tryz.fty32_3 Tryz.plc32 Tryz.lay35 Tryz.siz35 Tryz.ptk35 Tryz.inf35 Tryz.zer35 Tryz.cnc35 Tryz.sel35 Tryz.lay42 Tryz.siz42 Tryz.inf42 Tryz.zer42 Tryz.cnc42 Tryz.off42_0 Tryz.fty42_0 Tryz.off42_1 Tryz.fty42_1 Tryz.plc42 Tryz.lay48 Tryz.siz48 Tryz.ptk48 Tryz.inf48 Tryz.zer48 Tryz.cnc48 Tryz.sel48 Tryz.lay50 Tryz.siz50 Tryz.ptk50 Tryz.inf50 Tryz.zer50 Tryz.cnc50 Tryz.lay54 Tryz.siz54 Tryz.inf54 Tryz.zer54 Tryz.cnc54 Tryz.off54_0 Tryz.fty54_0 Tryz.off54_1 Tryz.fty54_1 Tryz.off54_2 Tryz.fty54_2 Tryz.plc54 Tryz.lay57 Tryz.siz57 Tryz.ptk57 Tryz.inf57 Tryz.zer57 Tryz.cnc57 Tryz.lay58 Tryz.siz58 Tryz.ptk58 Tryz.inf58 Tryz.zer58 Tryz.cnc58 Tryz.sel58 Tryz.lay60 Tryz.siz60 Tryz.inf60 Tryz.zer60 Tryz.cnc60 Tryz.off60_0 Tryz.fty60_0 Tryz.off60_1 Tryz.fty60_1 Tryz.off60_2 Tryz.fty60_2 Tryz.off60_3 Tryz.fty60_3 Tryz.plc60 Tryz.lay64 Tryz.siz64 Tryz.inf64 Tryz.zer64 Tryz.cnc64 Tryz.off64_0 Tryz.fty64_0 Tryz.off64_1 Tryz.fty64_1 Tryz.plc64 Tryz.lay76 Tryz.siz76 Tryz.ptk76 Tryz.inf76 Tryz.zer76 Tryz.cnc76 Tryz.sel76 Tryz.lay79 Tryz.siz79 Tryz.ptk79 Tryz.inf79 Tryz.zer79 Tryz.cnc79 Tryz.lay87 Tryz.siz87 Tryz.ptk87 Tryz.inf87 Tryz.zer87 Tryz.cnc87 Tryz.sel87 Tryz.lay95 Tryz.siz95 Tryz.inf95 Tryz.zer95 Tryz.cnc95 Tryz.off95_0 Tryz.fty95_0 Tryz.off95_1 Tryz.fty95_1 Tryz.plc95 Tryz.lay96 Tryz.siz96 Tryz.inf96 Tryz.zer96 Tryz.cnc96 Tryz.lay98 Tryz.siz98 Tryz.inf98 Tryz.zer98 Tryz.cnc98 Tryz.off98_0 Tryz.fty98_0 Tryz.plc98 Tryz.lay100 Tryz.siz100 Tryz.inf100 Tryz.zer100 Tryz.cnc100 Tryz.off100_0 Tryz.fty100_0 Tryz.off100_1 Tryz.fty100_1 Tryz.plc100 Tryz.lay101 Tryz.siz101 Tryz.ptk101 Tryz.mly101 Tryz.inf101 Tryz.zer101 Tryz.cnc101 Tryz.lay103 Tryz.siz103 Tryz.inf103 Tryz.zer103 Tryz.cnc103 Tryz.off103_0 Tryz.fty103_0 Tryz.plc103 Tryz.lay113 Tryz.siz113 Tryz.inf113 Tryz.zer113 Tryz.cnc113 Tryz.lay115 Tryz.siz115 Tryz.inf115 Tryz.zer115 Tryz.cnc115 Tryz.lay118 Tryz.siz118 Tryz.inf118 Tryz.zer118 Tryz.cnc118 Tryz.lay119 Tryz.siz119 Tryz.ptk119 Tryz.inf119 Tryz.zer119 Tryz.cnc119 Tryz.sel119 Tryz.lay121 Tryz.siz121 Tryz.inf121 Tryz.zer121 Tryz.cnc121 Tryz.off121_0 Tryz.fty121_0 Tryz.off121_1 Tryz.fty121_1 Tryz.plc121 Tryz.lay125 Tryz.siz125 Tryz.inf125 Tryz.zer125 Tryz.cnc125 Tryz.off125_0 Tryz.fty125_0 Tryz.off125_1 Tryz.fty125_1 Tryz.plc125 Tryz.lay128 Tryz.siz128 Tryz.inf128 Tryz.zer128 Tryz.cnc128 Tryz.off128_0 Tryz.fty128_0 Tryz.off128_1 Tryz.fty128_1 Tryz.off128_2 Tryz.fty128_2 Tryz.plc128 Tryz.lay130 Tryz.siz130 Tryz.inf130 Tryz.zer130 Tryz.cnc130 Tryz.off130_0 Tryz.fty130_0 Tryz.off130_1 Tryz.fty130_1 Tryz.plc130 Tryz.lay133 Tryz.siz133 Tryz.inf133 Tryz.zer133 Tryz.cnc133 Tryz.lay134 Tryz.siz134 Tryz.inf134 Tryz.zer134 Tryz.cnc134 Tryz.lay139 Tryz.siz139 Tryz.inf139 Tryz.zer139 Tryz.cnc139 Tryz.lay145 Tryz.siz145 Tryz.inf145 Tryz.zer145 Tryz.cnc145 Tryz.plc145 Tryz.ael145 Tryz.lay148 Tryz.siz148 Tryz.ptk148 Tryz.inf148 Tryz.zer148 Tryz.cnc148 Tryz.lay151 Tryz.siz151 Tryz.ptk151 Tryz.inf151 Tryz.zer151 Tryz.cnc151 Tryz.sel151 Tryz.lay155 Tryz.siz155 Tryz.inf155 Tryz.zer155 Tryz.cnc155 Tryz.lay163 Tryz.siz163 Tryz.inf163 Tryz.zer163 Tryz.cnc163 Tryz.lay173 Tryz.siz173 Tryz.inf173 Tryz.zer173 Tryz.cnc173 Tryz.lay177 Tryz.siz177 Tryz.ptk177 Tryz.inf177 Tryz.zer177 Tryz.cnc177 Tryz.lay187 Tryz.siz187 Tryz.ptk187 Tryz.inf187 Tryz.zer187 Tryz.cnc187
attribute [go_sem] decide_eq_true_eq decide_eq_false_iff_not Bool.not_eq_true' Bool.not_eq_false' Bool.or_eq_true Bool.and_eq_true Bool.or_eq_false_iff Int.toNat_natCast imp_self gx_eq gi_0 gi_1 gi_2 gi_3
attribute [go_sem] Bool.not_false Bool.not_true Option.isSome_some Bool.false_eq_true
end Go.Ax
end

section
/-
  Boxes: what is valid, what meets, what is within, what grows.
-/
set_option linter.unusedVariables false
set_option linter.unusedSimpArgs false
set_option maxHeartbeats 1000000
set_option maxRecDepth 100000
namespace Go.Ax
open Go.Proofs

theorem okX_iff {x : Int} : okX x = true ↔ -2097152 ≤ x ∧ x ≤ 2097152 := by unfold okX; simp
theorem validS_iff {x y : Int} : validS x y = true ↔ -2097152 ≤ x ∧ x ≤ 2097152 ∧ -2097152 ≤ y ∧ y ≤ 2097152 := by
  unfold validS; rw [Bool.and_eq_true, okX_iff, okX_iff]; omega
theorem fairS_iff {n : Nat} {X Y : Nat → Int} : fairS n X Y = true ↔ ∀ i, i < n → validS (X i) (Y i) = true := by unfold fairS; simp
theorem false_of {b : Bool} (h : ¬ b = true) : false = b := by cases b <;> simp_all
def c109 : Con
  | [.ro n 2 g] => some ([spots n g, n ≤ 9223372036854775807], bo (fairS n (gx g 0) (gx g 1)))
  | _ => none
theorem vc109 (n : Nat) (X Y : Nat → Int) (hX : ∀ i, i < n → inR (X i) ∧ inR (Y i)) (hn : n ≤ 9223372036854775807) : fnVC Tryz.prog [] [] Tryz.f109 [.ro n 2 fun i => [i64 (X i), i64 (Y i)]] (· = bo (fairS n X Y)) := by
  refine fnVC_go (rs := [.tmp 2]) rfl rfl ?_
  simp only [go_sem]
  refine loopC_go (fun (i : Nat) => i ≤ n ∧ ∀ k < i, validS (X k) (Y k) = true) (fun i => n - i) (fun i => [(7, i64 i)]) (fun _ => []) [] [8, 9, 10, 4, 11, 12, 13, 14, 15, 16, 17, 18, 19, 20, 21, 22, 23, 24, 25, 26, 27, 28, 29, 30, 31, 32, 2, 33, 7] 0 (by kernel_rfl) ?_ ?_ ?_ ?_
  · intro x _; simp [goodNames]
  · simp
  · simp only [go_sem]
  · intro i hi
    simp only [go_sem]
    obtain ⟨hi1, hi2⟩ := hi
    refine ⟨fun h => ?_, fun h => (fairS_iff.2 fun k hk => hi2 k (by omega)).symm⟩
    have h1 : i < n := by omega
    have hr := hX i h1
    unfold inR at hr
    refine ⟨by omega, h, fun z hz z1 hz1 z2 hz2 => ?_⟩
    rw [wrap_i64] at hz hz1
    have hv := validS_iff (x := X i) (y := Y i)
    refine ⟨fun hb => false_of fun hf => ?_, fun hg z hz => ⟨i + 1, ⟨by omega, fun k hk => ?_⟩, by omega, ?_⟩⟩
    · have := hv.1 (fairS_iff.1 hf i h1)
      omega
    · by_cases e : k = i
      · subst e; exact hv.2 (by omega)
      · exact hi2 k (by omega)
    · rw [wrap_i64] at hz; omega
theorem con109 : ConOK Tryz.prog 109 c109 := ConOK.go (G := []) (H := []) .nil Tryz.func109 fun l ob r hc hob => by
  unfold c109 at hc
  split at hc
  · rename_i n g
    cases hc
    have hs : spots n g := hob _ (by simp)
    refine ⟨[.ro n 2 fun i => [i64 (gx g 0 i), i64 (gx g 1 i)]], fun w I vs h => Rs_one (fun v => ro_alike fun i hi => (hs i hi).1) h, by kernel_rfl, vc109 n _ _ (fun i hi => (hs i hi).2) (hob _ (by simp))⟩
  · cases hc

def c125 : Con
  | [.agg [.v (.int .i64 x), .v (.int .i64 y)]] => some ([], bo (validS x y))
  | _ => none
theorem con125 : ConOK Tryz.prog 125 c125 := ConOK.of (G := []) (H := []) .nil Tryz.func125 fun l ob r hc hob => by
  unfold c125 at hc
  split at hc
  · rename_i x y
    cases hc
    refine ⟨by kernel_rfl, fnVC_go (rs := [.tmp 2]) rfl rfl ?_⟩
    simp only [go_sem]
    unfold validS okX
    rw [Bool.eq_iff_iff]
    simp
    omega
  · cases hc

/-! ### The error of a box -/
def checkBoxS (a b c d : Int) : Int := if validS a b = true ∧ validS c d = true then (if c < a ∨ d < b then 5 else 0) else 3
def c64 : Con
  | [.agg [.v (.int .i64 a), .v (.int .i64 b), .v (.int .i64 c), .v (.int .i64 d)]] => some ([inR a, inR b, inR c, inR d], i64 (checkBoxS a b c d))
  | _ => none
theorem fair2 {a b c d : Int} {g : Nat → List AV} (h0 : g 0 = [i64 a, i64 b]) (h1 : g 1 = [i64 c, i64 d]) : fairS 2 (gx g 0) (gx g 1) = (validS a b && validS c d) := by
  rw [Bool.eq_iff_iff, fairS_iff, Bool.and_eq_true]
  constructor
  · intro h
    have k0 := h 0 (by omega)
    have k1 := h 1 (by omega)
    simp only [gx, h0, h1, gi_0, gi_1] at k0 k1
    exact ⟨k0, k1⟩
  · intro h i hi
    have : i = 0 ∨ i = 1 := by omega
    rcases this with rfl | rfl
    · simp only [gx, h0, gi_0, gi_1]; exact h.1
    · simp only [gx, h1, gi_0, gi_1]; exact h.2
theorem spots2 {a b c d : Int} {g : Nat → List AV} (h0 : g 0 = [i64 a, i64 b]) (h1 : g 1 = [i64 c, i64 d]) (ha : inR a) (hb : inR b) (hc : inR c) (hd : inR d) : spots 2 g := by
  intro i hi
  have : i = 0 ∨ i = 1 := by omega
  rcases this with rfl | rfl
  · simp only [gx, h0, gi_0, gi_1]; exact ⟨trivial, ha, hb⟩
  · simp only [gx, h1, gi_0, gi_1]; exact ⟨trivial, hc, hd⟩
theorem con64 : ConOK Tryz.prog 64 c64 := ConOK.of (G := [(109, c109)]) (H := [(1, ⟨[(12, .made 10), (13, .made 11)], [(6, [.made 10]), (8, [.made 10])]⟩)]) (.cons con109 .nil) Tryz.func64 fun l ob r hc hob => by
  unfold c64 at hc
  split at hc
  · rename_i a b c d
    cases hc
    refine ⟨by kernel_rfl, fnVC_go (rs := [.tmp 2]) rfl rfl ?_⟩
    simp only [go_sem, c109]
    have ha : inR a := hob _ (by simp)
    have hb : inR b := hob _ (by simp)
    have hc : inR c := hob _ (by simp)
    have hd : inR d := hob _ (by simp)
    intro z hz
    refine ⟨spots2 (a := a) (b := b) (c := c) (d := d) rfl rfl ha hb hc hd, ?_⟩
    rw [fair2 (a := a) (b := b) (c := c) (d := d) rfl rfl] at hz
    subst hz
    simp only [checkBoxS, Bool.and_eq_true, Bool.and_eq_false_iff]
    refine ⟨fun h => ?_, fun h => ⟨fun h2 => ?_, fun h2 => ?_⟩⟩
    · rw [if_neg (by rintro ⟨h1, h2⟩; rcases h with h | h <;> simp_all)]
    · rw [if_pos h, if_pos h2]
    · rw [if_pos h, if_neg (by omega)]
  · cases hc
def c103 : Con
  | [.agg [.v (.int .i64 a), .v (.int .i64 b), .v (.int .i64 c), .v (.int .i64 d)]] => some ([], i64 (checkBoxS a b c d))
  | _ => none
theorem con103 : ConOK Tryz.prog 103 c103 := ConOK.of (G := [(125, c125)]) (H := []) (.cons con125 .nil) Tryz.func103 fun l ob r hc hob => by
  unfold c103 at hc
  split at hc
  · rename_i a b c d
    cases hc
    refine ⟨by kernel_rfl, fnVC_go (rs := [.tmp 2]) rfl rfl ?_⟩
    simp only [go_sem, c125]
    intro z hz z1 hz1
    subst hz hz1
    unfold checkBoxS
    refine ⟨fun h => ?_, fun h => ⟨fun h2 => ?_, fun h2 => ?_⟩⟩
    · rw [if_neg (by rintro ⟨h1, h2⟩; rcases h with h | h <;> simp_all)]
    · rw [if_pos h, if_pos h2]
    · rw [if_pos h, if_neg (by omega)]
  · cases hc

/-! ### Boxes that meet -/
theorem checkBoxS_iff {a b c d : Int} : checkBoxS a b c d = 0 ↔ -2097152 ≤ a ∧ a ≤ c ∧ c ≤ 2097152 ∧ -2097152 ≤ b ∧ b ≤ d ∧ d ≤ 2097152 := by
  simp only [checkBoxS, validS_iff]
  split
  · split <;> omega
  · omega
def meetsS (a b c d x y z t : Int) : Bool := decide (checkBoxS a b c d = 0 ∧ checkBoxS x y z t = 0 ∧ a ≤ z ∧ x ≤ c ∧ b ≤ t ∧ y ≤ d)
def c72 : Con
  | [.agg [.v (.int .i64 a), .v (.int .i64 b), .v (.int .i64 c), .v (.int .i64 d)], .agg [.v (.int .i64 x), .v (.int .i64 y), .v (.int .i64 z), .v (.int .i64 t)]] => some ([inR a, inR b, inR c, inR d, inR x, inR y, inR z, inR t], bo (meetsS a b c d x y z t))
  | _ => none
theorem con72 : ConOK Tryz.prog 72 c72 := ConOK.of (G := [(64, c64)]) (H := []) (.cons con64 .nil) Tryz.func72 fun l ob r hc hob => by
  unfold c72 at hc
  split at hc
  · rename_i a b c d x y z t
    cases hc
    refine ⟨by kernel_rfl, fnVC_go (rs := [.tmp 4]) rfl rfl ?_⟩
    simp only [go_sem, c64]
    have ha : inR a := hob _ (by simp)
    have hb : inR b := hob _ (by simp)
    have hc : inR c := hob _ (by simp)
    have hd : inR d := hob _ (by simp)
    have hx : inR x := hob _ (by simp)
    have hy : inR y := hob _ (by simp)
    have hz : inR z := hob _ (by simp)
    have ht : inR t := hob _ (by simp)
    intro z1 h1
    refine ⟨ha, hb, hc, hd, fun z2 h2 => ⟨fun _ => hx, fun _ => hy, fun _ => hz, fun _ => ht, fun h => ?_, fun h z3 h3 z4 h4 z5 h5 z6 h6 => ?_⟩⟩
    · refine false_of fun hf => ?_
      simp only [meetsS, decide_eq_true_eq] at hf
      rw [← h1, ← h2] at hf
      simp only [bne_iff_ne] at h
      omega
    · rw [Bool.eq_iff_iff]
      simp only [meetsS, Bool.and_eq_true, decide_eq_true_eq, bne_eq_false_iff_eq] at h ⊢
      have k1 := checkBoxS_iff.1 (h1.symm.trans h.1)
      have k2 := checkBoxS_iff.1 (h2.symm.trans h.2)
      rw [← h1, ← h2]
      omega
  · cases hc
def c104 : Con
  | [.agg [.v (.int .i64 a), .v (.int .i64 b), .v (.int .i64 c), .v (.int .i64 d)], .agg [.v (.int .i64 x), .v (.int .i64 y), .v (.int .i64 z), .v (.int .i64 t)]] => some ([], bo (meetsS a b c d x y z t))
  | _ => none
theorem con104 : ConOK Tryz.prog 104 c104 := ConOK.of (G := [(103, c103)]) (H := []) (.cons con103 .nil) Tryz.func104 fun l ob r hc hob => by
  unfold c104 at hc
  split at hc
  · rename_i a b c d x y z t
    cases hc
    refine ⟨by kernel_rfl, fnVC_go (rs := [.tmp 4]) rfl rfl ?_⟩
    simp only [go_sem, c103]
    intro z1 h1 z2 h2
    rw [Bool.eq_iff_iff]
    simp only [meetsS, Bool.and_eq_true, decide_eq_true_eq, beq_iff_eq]
    rw [← h1, ← h2]
    omega
  · cases hc
def c118 : Con
  | [.agg [.v (.int .i64 x), .v (.int .i64 y)], .v (.int .i64 r)] => some ([], .agg [i64 (IntKind.i64.wrap (x - r)), i64 (IntKind.i64.wrap (y - r)), i64 (IntKind.i64.wrap (x + r)), i64 (IntKind.i64.wrap (y + r))])
  | _ => none
theorem con118 : ConOK Tryz.prog 118 c118 := ConOK.of (G := []) (H := []) .nil Tryz.func118 fun l ob r hc hob => by
  unfold c118 at hc
  split at hc
  · cases hc
    refine ⟨by kernel_rfl, fnVC_go (rs := [.cell 4 32]) rfl rfl ?_⟩
    simp only [go_sem]
    intro z h z1 h1 z2 h2 z3 h3
    subst h h1 h2 h3
    rfl
  · cases hc
end Go.Ax
end

section
/-
  The program's sweep: what only reads it.
-/
set_option linter.unusedVariables false
set_option linter.unusedSimpArgs false
set_option maxHeartbeats 4000000
set_option maxRecDepth 100000
namespace Go.Ax
open Go.Proofs
def c75 : Con
  | [.rop [.rm 4 L]] => some ([], bo false)
  | _ => none
theorem con75 : ConOK Tryz.prog 75 c75 := ConOK.of (G := []) (H := []) .nil Tryz.func75 fun l ob rr hc hob => by
  unfold c75 at hc
  split at hc
  · rename_i L
    cases hc
    refine ⟨by kernel_rfl, fnVC_go (rs := [.tmp 2]) rfl rfl ?_⟩
    simp only [go_sem]
    skip
  · cases hc
def c63 : Con
  | [.rop [.rm 4 L], .v (.int .i64 i)] => some ([], i64 (if i < 0 ∨ 2147483647 < i then 3 else 0))
  | _ => none
theorem con63 : ConOK Tryz.prog 63 c63 := ConOK.of (G := [(75, c75)]) (H := []) (.cons con75 .nil) Tryz.func63 fun l ob rr hc hob => by
  unfold c63 at hc
  split at hc
  · rename_i L i
    cases hc
    refine ⟨by kernel_rfl, fnVC_go (rs := [.tmp 4]) rfl rfl ?_⟩
    simp only [go_sem, c75]
    simp only [forall_eq, Bool.false_eq_true, false_imp_iff, true_imp_iff, true_and]
    refine ⟨fun h => by rw [if_pos h], fun h => by rw [if_neg (by omega)]⟩
  · cases hc
def c23 : Con
  | [.rop [.rm 4 L]] => some ([], i64 L.length)
  | _ => none
theorem con23 : ConOK Tryz.prog 23 c23 := ConOK.of (G := [(75, c75)]) (H := []) (.cons con75 .nil) Tryz.func23 fun l ob rr hc hob => by
  unfold c23 at hc
  split at hc
  · rename_i L
    cases hc
    refine ⟨by kernel_rfl, fnVC_go (rs := [.tmp 2]) rfl rfl ?_⟩
    simp only [go_sem, c75]
    simp only [forall_eq, Bool.false_eq_true, false_imp_iff, true_imp_iff, and_self]
  · cases hc
def c22 : Con
  | [.rop [.rm 4 L], .v (.int .i64 i)] => some ([], .tup [.agg [i64 (selAt (memSel L i) 0), i64 (selAt (memSel L i) 1), i64 (selAt (memSel L i) 2), i64 (selAt (memSel L i) 3)], bo (memSel L i).isSome])
  | _ => none
theorem con22 : ConOK Tryz.prog 22 c22 := ConOK.of (G := [(75, c75)]) (H := []) (.cons con75 .nil) Tryz.func22 fun l ob rr hc hob => by
  unfold c22 at hc
  split at hc
  · rename_i L i
    cases hc
    refine ⟨by kernel_rfl, fnVC_go (rs := [.cell 4 32, .tmp 5]) rfl rfl ?_⟩
    simp only [go_sem, c75]
    simp only [forall_eq, Bool.false_eq_true, false_imp_iff, true_imp_iff, and_self]
  · cases hc
end Go.Ax
end

section
/-
  Conversions to whole numbers. Printed by gencv.py.
-/
set_option linter.unusedVariables false
namespace Go.Ax
open Go.Proofs
theorem cv2 {q : TypeId} {c : IntKind} {x : Int} (h : (Tryz.prog.underlying q).isSome = true) : convE Tryz.prog q 2 (.v (.int c x)) = some ⟨[], nm .i64 (IntKind.i64.wrap x), .none⟩ := convE_int h Tryz.underlying2
theorem cv3 {q : TypeId} {c : IntKind} {x : Int} (h : (Tryz.prog.underlying q).isSome = true) : convE Tryz.prog q 3 (.v (.int c x)) = some ⟨[], nm .i64 (IntKind.i64.wrap x), .none⟩ := convE_int h Tryz.underlying3
theorem cv5 {q : TypeId} {c : IntKind} {x : Int} (h : (Tryz.prog.underlying q).isSome = true) : convE Tryz.prog q 5 (.v (.int c x)) = some ⟨[], nm .u8 (IntKind.u8.wrap x), .none⟩ := convE_int h Tryz.underlying5
theorem cv29 {q : TypeId} {c : IntKind} {x : Int} (h : (Tryz.prog.underlying q).isSome = true) : convE Tryz.prog q 29 (.v (.int c x)) = some ⟨[], nm .i64 (IntKind.i64.wrap x), .none⟩ := convE_int h Tryz.underlying29
theorem cv96 {q : TypeId} {c : IntKind} {x : Int} (h : (Tryz.prog.underlying q).isSome = true) : convE Tryz.prog q 96 (.v (.int c x)) = some ⟨[], nm .u64 (IntKind.u64.wrap x), .none⟩ := convE_int h Tryz.underlying96
theorem cv139 {q : TypeId} {c : IntKind} {x : Int} (h : (Tryz.prog.underlying q).isSome = true) : convE Tryz.prog q 139 (.v (.int c x)) = some ⟨[], nm .u64 (IntKind.u64.wrap x), .none⟩ := convE_int h Tryz.underlying139
theorem cv155 {q : TypeId} {c : IntKind} {x : Int} (h : (Tryz.prog.underlying q).isSome = true) : convE Tryz.prog q 155 (.v (.int c x)) = some ⟨[], nm .i64 (IntKind.i64.wrap x), .none⟩ := convE_int h Tryz.underlying155
theorem cv163 {q : TypeId} {c : IntKind} {x : Int} (h : (Tryz.prog.underlying q).isSome = true) : convE Tryz.prog q 163 (.v (.int c x)) = some ⟨[], nm .u32 (IntKind.u32.wrap x), .none⟩ := convE_int h Tryz.underlying163
theorem cv173 {q : TypeId} {c : IntKind} {x : Int} (h : (Tryz.prog.underlying q).isSome = true) : convE Tryz.prog q 173 (.v (.int c x)) = some ⟨[], nm .u64 (IntKind.u64.wrap x), .none⟩ := convE_int h Tryz.underlying173
attribute [go_sem] cv2 Tryz.underlying2 cv3 Tryz.underlying3 cv5 Tryz.underlying5 cv29 Tryz.underlying29 cv96 Tryz.underlying96 cv139 Tryz.underlying139 cv155 Tryz.underlying155 cv163 Tryz.underlying163 cv173 Tryz.underlying173
end Go.Ax
end

section
/-
  Fixed-point numbers: plain arithmetic, no program in sight.
-/
set_option linter.unusedVariables false
set_option linter.unusedSimpArgs false
namespace Go.Ax

abbrev u64 (x : Int) : AV := .v (.int .u64 x)
def rg (x : Int) : Prop := -9223372036854775807 ≤ x ∧ x ≤ 9223372036854775807
/-- An unsigned word. -/
def inU (x : Int) : Prop := 0 ≤ x ∧ x < 18446744073709551616
theorem wrap_u64 (x : Int) : IntKind.u64.wrap x = x % 18446744073709551616 := by
  have e1 : ((2 : Int) ^ IntKind.u64.bits) = 18446744073709551616 := by decide
  have e3 : IntKind.u64.signed = false := rfl
  unfold IntKind.wrap
  simp only [e1, e3, Bool.false_and]
  simp
theorem wrap_u {x : Int} (h : inU x) : IntKind.u64.wrap x = x := by
  rw [wrap_u64]; unfold inU at h; exact Int.emod_eq_of_lt h.1 h.2
/-! ### Bits -/
theorem p32 : (2 : Int) ^ min 32 64 = 4294967296 := by decide
theorem p31 : (2 : Int) ^ min 31 64 = 2147483648 := by decide
theorem p1 : (2 : Int) ^ min 1 64 = 2 := by decide
theorem p63 : (2 : Int) ^ min 63 64 = 9223372036854775808 := by decide
theorem fd32 {x : Int} : x.fdiv 4294967296 = x / 4294967296 := Int.fdiv_eq_ediv_of_nonneg x (by decide)
theorem fd31 {x : Int} : x.fdiv 2147483648 = x / 2147483648 := Int.fdiv_eq_ediv_of_nonneg x (by decide)
theorem fd1 {x : Int} : x.fdiv 2 = x / 2 := Int.fdiv_eq_ediv_of_nonneg x (by decide)
theorem fd63 {x : Int} : x.fdiv 9223372036854775808 = x / 9223372036854775808 := Int.fdiv_eq_ediv_of_nonneg x (by decide)
attribute [go_sem] p32 p31 p1 p63 fd32 fd31 fd1 fd63
theorem toNat_u {n : Nat} (h : n < 18446744073709551616) : (BitVec.ofInt IntKind.u64.bits (n : Int)).toNat = n := by
  show (BitVec.ofInt 64 (n : Int)).toNat = n
  rw [BitVec.toNat_ofInt]
  have e : ((2 ^ 64 : Nat) : Int) = 18446744073709551616 := by decide
  rw [e]; omega
theorem bne_self {x : Int} : (x != x) = false := by simp
end Go.Ax
end

section
/-
  Bits of whole numbers.
-/
set_option linter.unusedVariables false
set_option linter.unusedSimpArgs false
namespace Go.Ax

theorem andI_nat {a b : Nat} (ha : a < 18446744073709551616) (hb : b < 18446744073709551616) : andI .u64 (a : Int) (b : Int) = ((a &&& b : Nat) : Int) := by
  unfold andI
  rw [BitVec.toNat_and, toNat_u ha, toNat_u hb]
  have : a &&& b ≤ a := Nat.and_le_left
  rw [wrap_u (by unfold inU; omega)]
theorem orI_nat {a b : Nat} (ha : a < 18446744073709551616) (hb : b < 18446744073709551616) : orI .u64 (a : Int) (b : Int) = ((a ||| b : Nat) : Int) := by
  unfold orI
  rw [BitVec.toNat_or, toNat_u ha, toNat_u hb]
  have : a ||| b < 2 ^ 64 := Nat.or_lt_two_pow (by omega) (by omega)
  rw [wrap_u (by unfold inU; omega)]
/-- The bits of a that b has not. -/
def clrN (a b : Nat) : Nat := a &&& (18446744073709551615 - b)
theorem andNotI_nat {a b : Nat} (ha : a < 18446744073709551616) (hb : b < 18446744073709551616) : andNotI .u64 (a : Int) (b : Int) = ((clrN a b : Nat) : Int) := by
  unfold andNotI
  rw [BitVec.toNat_and, BitVec.toNat_not, toNat_u ha, toNat_u hb]
  have e : (2 : Nat) ^ IntKind.u64.bits - 1 - b = 18446744073709551615 - b := by
    have : (2 : Nat) ^ IntKind.u64.bits = 18446744073709551616 := by decide
    rw [this]
  rw [e]
  have : a &&& (18446744073709551615 - b) ≤ a := Nat.and_le_left
  rw [wrap_u (by unfold inU; omega)]
  rfl
theorem min64 {k : Nat} (h : k < 64) : min k 64 = k := by omega
theorem shr_nat {a k : Nat} (h : k < 64) : (a : Int).fdiv (2 ^ min k 64) = ((a / 2 ^ k : Nat) : Int) := by
  rw [min64 h, Int.fdiv_eq_ediv_of_nonneg _ (Int.pow_nonneg (by decide))]
  simp
theorem bit_eq {a k : Nat} : (((a / 2 ^ k &&& 1 : Nat) : Int) == 1) = a.testBit k := by
  rw [Nat.testBit, Nat.shiftRight_eq_div_pow, Nat.and_comm]
  have : 1 &&& a / 2 ^ k < 2 := by rw [Nat.and_comm]; exact Nat.lt_of_le_of_lt Nat.and_le_right (by decide)
  rcases (by omega : (1 &&& a / 2 ^ k) = 0 ∨ (1 &&& a / 2 ^ k) = 1) with h | h <;> simp [h]
theorem pow_lt64 {k : Nat} (h : k < 64) : (2 : Nat) ^ k < 18446744073709551616 := by
  have h1 : (2 : Nat) ^ k < 2 ^ 64 := Nat.pow_lt_pow_right (by decide) h
  omega
theorem clrN_bit {a k j : Nat} (hk : k < 64) (hj : j < 64) : (clrN a (2 ^ k)).testBit j = (a.testBit j && decide (j ≠ k)) := by
  unfold clrN
  have e : 18446744073709551615 - 2 ^ k = 2 ^ 64 - (2 ^ k + 1) := by
    have := pow_lt64 hk
    omega
  have h1 : (2 : Nat) ^ k < 2 ^ 64 := by have := pow_lt64 hk; omega
  rw [Nat.testBit_and, e, Nat.testBit_two_pow_sub_succ h1, Nat.testBit_two_pow]
  simp [hj, eq_comm]
theorem clrN_lt {a k : Nat} (ha : a < 18446744073709551616) : clrN a k < 18446744073709551616 := Nat.lt_of_le_of_lt Nat.and_le_left ha
theorem clrN_hi {a b j : Nat} (ha : a.testBit j = false) : (clrN a b).testBit j = false := by
  unfold clrN
  rw [Nat.testBit_and, ha, Bool.false_and]
theorem setN_lt {a k : Nat} (ha : a < 18446744073709551616) (hk : k < 64) : a ||| 2 ^ k < 18446744073709551616 := by
  have : a ||| 2 ^ k < 2 ^ 64 := Nat.or_lt_two_pow (by omega) (by have := pow_lt64 hk; omega)
  omega
theorem setN_bit {a k j : Nat} : (a ||| 2 ^ k).testBit j = (a.testBit j || decide (j = k)) := by
  rw [Nat.testBit_or, Nat.testBit_two_pow]
  simp [eq_comm]

/-! ### How many bits -/
/-- How many of the first n bits. -/
def cntB (T : Nat → Bool) : Nat → Nat
  | 0 => 0
  | n + 1 => cntB T n + (if T n = true then 1 else 0)
theorem cntB_congr {T T' : Nat → Bool} : ∀ {n : Nat}, (∀ i, i < n → T i = T' i) → cntB T n = cntB T' n
  | 0, _ => rfl
  | n + 1, h => by simp only [cntB]; rw [cntB_congr fun i hi => h i (by omega), h n (by omega)]
theorem cntB_le {T : Nat → Bool} : ∀ n : Nat, cntB T n ≤ n
  | 0 => Nat.le_refl _
  | n + 1 => by simp only [cntB]; have := cntB_le (T := T) n; split <;> omega
/-! ### OnesCount64, ars the library does it -/
def t1 (b : Nat) : Nat := ((b / 2) &&& 85) + (b &&& 85)
def t2 (b : Nat) : Nat := ((b / 4) &&& 51) + (b &&& 51)
end Go.Ax
end

section
/-
  Contracts of functions that write rows, made to measure: one element that is pointed at; two of them; a table; a table and an element; new rows.
-/
set_option linter.unusedSimpArgs false
set_option linter.unusedVariables false
namespace Go.Ax

/-- A cell that holds nothing of our own. -/
def cleanC : AV → Bool
  | .v _ => true
  | .any => true
  | .ro _ _ _ => true
  | .rop _ => true
  | .rm _ _ => true
  | _ => false
theorem cleanC_ren {θ : Nat → Nat → Nat × Nat} {g : Nat → Nat → Prop} {B : Nat → Prop} {a : AV} (h : cleanC a = true) (d : Nat) : renA θ d a = a ∧ kg g B d a := by
  cases a <;> simp [cleanC] at h <;> (cases d <;> exact ⟨rfl, trivial⟩)
theorem cleanL_ren {θ : Nat → Nat → Nat × Nat} {g : Nat → Nat → Prop} {B : Nat → Prop} : ∀ {l : List AV}, (∀ c ∈ l, cleanC c = true) → l.map (renA θ 3) = l ∧ ∀ c ∈ l, kg g B 3 c
  | [], _ => ⟨rfl, by simp⟩
  | a :: l, h => by
    obtain ⟨h1, h2⟩ := cleanC_ren (θ := θ) (g := g) (B := B) (h a (by simp)) 3
    obtain ⟨h3, h4⟩ := cleanL_ren (θ := θ) (g := g) (B := B) (l := l) (fun c hc => h c (by simp [hc]))
    refine ⟨by rw [List.map_cons, h1, h3], fun c hc => ?_⟩
    rcases List.mem_cons.1 hc with e | hc
    · rw [e]; exact h2
    · exact h4 c hc
theorem map_id_of {f : AV → AV} : ∀ {l : List AV}, (∀ a ∈ l, f a = a) → l.map f = l
  | [], _ => rfl
  | a :: l, h => by rw [List.map_cons, h a (by simp), map_id_of fun b hb => h b (by simp [hb])]
theorem clean_ren {θ : Nat → Nat → Nat × Nat} {g : Nat → Nat → Prop} {B : Nat → Prop} : ∀ (d : Nat) (a : AV), clean d a = true → renA θ d a = a ∧ kg g B d a
  | d, .v _, _ => by cases d <;> exact ⟨rfl, trivial⟩
  | d, .any, _ => by cases d <;> exact ⟨rfl, trivial⟩
  | d, .ro _ _ _, _ => by cases d <;> exact ⟨rfl, trivial⟩
  | d, .rop _, _ => by cases d <;> exact ⟨rfl, trivial⟩
  | d, .rm _ _, _ => by cases d <;> exact ⟨rfl, trivial⟩
  | d + 1, .agg cs, h => by
    simp only [clean, List.all_eq_true] at h
    refine ⟨?_, fun c hc => (clean_ren (θ := θ) d c (h c hc)).2⟩
    simp only [renA]
    rw [map_id_of fun a ha => (clean_ren (g := g) (B := B) d a (h a ha)).1]
  | d + 1, .tup cs, h => by
    simp only [clean, List.all_eq_true] at h
    refine ⟨?_, fun c hc => (clean_ren (θ := θ) d c (h c hc)).2⟩
    simp only [renA]
    rw [map_id_of fun a ha => (clean_ren (g := g) (B := B) d a (h a ha)).1]
  | d + 1, .fn f cs, h => by
    simp only [clean, List.all_eq_true] at h
    refine ⟨?_, fun c hc => (clean_ren (θ := θ) d c (h c hc)).2⟩
    simp only [renA]
    rw [map_id_of fun a ha => (clean_ren (g := g) (B := B) d a (h a ha)).1]
  | d + 1, .iface t x, h => by
    simp only [clean] at h
    obtain ⟨h1, h2⟩ := clean_ren (θ := θ) (g := g) (B := B) d x h
    exact ⟨by simp only [renA]; rw [h1], h2⟩
  | d + 1, .cond b x, h => by
    simp only [clean] at h
    obtain ⟨h1, h2⟩ := clean_ren (θ := θ) (g := g) (B := B) d x h
    exact ⟨by simp only [renA]; rw [h1], h2⟩
  | 0, .agg _, h => by simp [clean] at h
  | 0, .tup _, h => by simp [clean] at h
  | 0, .fn _ _, h => by simp [clean] at h
  | 0, .iface _ _, h => by simp [clean] at h
  | 0, .cond _ _, h => by simp [clean] at h
  | 0, .bx _ _, h => by simp [clean] at h
  | 0, .ptr _ _ _ _ _, h => by simp [clean] at h
  | 0, .own _ _ _ _, h => by simp [clean] at h
  | 0, .vw _ _ _ _ _, h => by simp [clean] at h
  | 0, .mp _ _, h => by simp [clean] at h
  | d + 1, .bx _ _, h => by simp [clean] at h
  | d + 1, .ptr _ _ _ _ _, h => by simp [clean] at h
  | d + 1, .own _ _ _ _, h => by simp [clean] at h
  | d + 1, .vw _ _ _ _ _, h => by simp [clean] at h
  | d + 1, .mp _ _, h => by simp [clean] at h
theorem cleans_ren {θ : Nat → Nat → Nat × Nat} {g : Nat → Nat → Prop} {B : Nat → Prop} {l : List AV} (h : ∀ a ∈ l, clean 3 a = true) : l.map (renA θ 3) = l ∧ ∀ a ∈ l, kg g B 3 a :=
  ⟨map_id_of fun a ha => (clean_ren (g := g) (B := B) 3 a (h a ha)).1, fun a ha => (clean_ren (θ := θ) 3 a (h a ha)).2⟩

/-! ### A body's end -/
section
variable {P : Program} {G : Ctx} {H : Hots} {t : Slots} {m : Mem} {nx : Nat} {Q : AV → Mem → Prop} {rs : List ResultVar} {l : List AV} {a : AV}
def tupOf : List AV → AV
  | [a] => a
  | l => .tup l
theorem tupOf_nil : tupOf [] = .tup [] := (rfl)
theorem tupOf_one : tupOf [a] = a := (rfl)
theorem tupOf_two {b : AV} : tupOf (a :: b :: l) = .tup (a :: b :: l) := (rfl)
def retML (P : Program) (t : Slots) (m : Mem) (Q : AV → Mem → Prop) : List ResultVar → List AV → Prop
  | [], l => Q (tupOf l) m
  | r :: rs, l => match resE P t m r with
    | some e => conj e.ob (retML P t m Q rs (l ++ [e.val]))
    | none => False
def retMS (P : Program) (t : Slots) (m : Mem) (Q : AV → Mem → Prop) (rs : List ResultVar) (l : List AV) (x : Option Eff) : Prop := match x with
  | some e => conj e.ob (retML P t m Q rs (l ++ [e.val]))
  | none => False
theorem retML_nil : retML P t m Q [] l = Q (tupOf l) m := (rfl)
theorem retML_cons {r : ResultVar} : retML P t m Q (r :: rs) l = retMS P t m Q rs l (resE P t m r) := (rfl)
theorem retMS_some {ob : List Prop} {u : Upd} : retMS P t m Q rs l (some ⟨ob, a, u⟩) = conj ob (retML P t m Q rs (l ++ [a])) := (rfl)
def endMR (P : Program) (rs : List ResultVar) (Q : AV → Mem → Prop) (e : AEx) (s : St) : Prop := match e with
  | .exit _ => False
  | _ => retML P s.t s.m Q rs []
theorem endMR_ret : endMR P rs Q .ret ⟨t, m, nx⟩ = retML P t m Q rs [] := (rfl)
theorem endMR_normal : endMR P rs Q .normal ⟨t, m, nx⟩ = retML P t m Q rs [] := (rfl)
theorem retML_sound {s : St} : ∀ {rs : List ResultVar} {l : List AV}, retML P s.t s.m Q rs l → ∃ ob es, resList P s rs = some (ob, es) ∧ (∀ p ∈ ob, p) ∧ Q (tupOf (l ++ es)) s.m
  | [], l, h => ⟨[], [], rfl, by simp, by simpa [retML] using h⟩
  | r :: rs, l, h => by
    simp only [retML] at h
    split at h
    · rename_i e he
      obtain ⟨ob, es, h1, h2, h3⟩ := retML_sound (rs := rs) (conj_iff.1 h).2
      refine ⟨e.ob ++ ob, e.val :: es, ?_, fun p hp => ?_, by simpa using h3⟩
      · simp only [resList, resOf_E he, h1]
      · rcases List.mem_append.1 hp with hp | hp
        · exact (conj_iff.1 h).1 p hp
        · exact h2 p hp
    · exact h.elim
theorem endMR_sound {s : St} {fn : Func} (hr : fn.results.toList = rs) {e : AEx} (h : endMR P rs Q e s) : endM P fn Q e s := by
  have key : retML P s.t s.m Q rs [] → match resAll P s fn.results.toList with
      | some (ob, a) => conj ob (Q a s.m)
      | none => False := fun h => by
    obtain ⟨ob, es, h1, h2, h3⟩ := retML_sound h
    rw [hr]
    simp only [resAll, h1]
    rw [List.nil_append] at h3
    cases es with
    | nil => exact conj_iff.2 ⟨h2, h3⟩
    | cons a es => cases es with
      | nil => exact conj_iff.2 ⟨h2, h3⟩
      | cons b es => exact conj_iff.2 ⟨h2, h3⟩
  cases e with
  | exit j => exact h.elim
  | normal => exact key h
  | ret => exact key h
/-- A body, run on some rows. -/
def bodyM (P : Program) (G : Ctx) (H : Hots) (fn : Func) (es : List AV) (m : Mem) (nx : Nat) (Q : AV → Mem → Prop) : Prop := ∃ cd, fn.body = some cd ∧ awp P G H cd ⟨argSlots 0 es, m, nx⟩ (endM P fn Q)
theorem bodyM_go {fn : Func} {c : Code} {es : List AV} (hb : fn.body = some c) (hr : fn.results.toList = rs) (h : goC P G H (endMR P rs Q) c [] ⟨argSlots 0 es, m, nx⟩) : bodyM P G H fn es m nx Q :=
  ⟨c, hb, awp_mono (fun e s h => endMR_sound hr h) h⟩
theorem bodyM.mono {fn : Func} {es : List AV} {Q' : AV → Mem → Prop} (h : bodyM P G H fn es m nx Q) (hq : ∀ a m, Q a m → Q' a m) : bodyM P G H fn es m nx Q' := by
  obtain ⟨cd, h1, h2⟩ := h
  refine ⟨cd, h1, awp_mono (fun e s h => ?_) h2⟩
  cases e with
  | exit j => exact h
  | normal =>
    simp only [endM] at h ⊢
    split at h
    · rename_i ob x hx; exact conj_mono (hq _ _) h
    · exact h
  | ret =>
    simp only [endM] at h ⊢
    split at h
    · rename_i ob x hx; exact conj_mono (hq _ _) h
    · exact h
end

/-! ### Rows that say the same -/
def alike (x y : Row) : Prop := y.n = x.n ∧ y.sz = x.sz ∧ y.ty = x.ty ∧ y.g = x.g ∧ ∀ i, i < x.n → y.get i = x.get i
theorem alike.refl (x : Row) : alike x x := ⟨rfl, rfl, rfl, rfl, fun _ _ => rfl⟩
def cleanCs : List AV → Bool
  | [] => true
  | a :: l => cleanC a && cleanCs l
theorem cleanCs_mem : ∀ {l : List AV}, cleanCs l = true → ∀ c ∈ l, cleanC c = true
  | [], _, c, h => by cases h
  | a :: l, h, c, hc => by
    simp only [cleanCs, Bool.and_eq_true] at h
    rcases List.mem_cons.1 hc with e | hc
    · rw [e]; exact h.1
    · exact cleanCs_mem h.2 c hc

/-- A cell that holds nothing of our own but pointers into the family itself. -/
def selfC (r : Nat) : AV → Bool
  | .ptr q _ _ _ _ => decide (q = r)
  | a => cleanC a
def bk : AV → AV
  | .ptr _ f i sz k => .ptr 0 f i sz k
  | a => a
/-- All rows of the family are there, and hold nothing else of our own. -/
def famOK (r : Nat) (fam : Fam) : Prop := ∀ f, (fam f).g = none ∧ ∀ j, j < (fam f).n → ∀ c ∈ (fam f).get j, selfC r c = true

theorem famOK_E {r : Nat} {fam : Fam} {f i : Nat} {cs : List AV} (h : famOK r fam) (hc : ∀ c ∈ cs, cleanC c = true) : famOK r (famE fam f i cs) := fun f' => by
  refine ⟨by rw [famE_g]; exact (h f').1, fun j hj c hcm => ?_⟩
  rw [famE_n] at hj
  by_cases e : f' = f
  · subst e
    simp only [famE, if_true] at hcm
    split at hcm
    · have := hc c hcm
      cases c <;> first | exact this | simp [cleanC] at this
    · exact (h f').2 j hj c hcm
  · rw [famE_off e] at hcm
    exact (h f').2 j hj c hcm

theorem rowRen_clean' {θ : Nat → Nat → Nat × Nat} {g : Nat → Nat → Prop} {B : Nat → Prop} {x0 x : Row} (h : alike x0 x) (hc : ∀ j, j < x0.n → ∀ c ∈ x0.get j, cleanC c = true) : rowRen θ g B x0 x := by
  obtain ⟨h1, h2, h3, h4, h5⟩ := h
  refine ⟨h1, h2, h3, h4, fun j hj => ?_⟩
  obtain ⟨k1, k2⟩ := cleanL_ren (θ := θ) (g := g) (B := B) (hc j hj)
  exact ⟨by rw [k1]; exact h5 j hj, k2⟩
theorem look_one {k : Nat} {x : Fam} : look [(k, x)] k = some x := by simp [look]
/-! ### One row's family -/
section
variable {P : Program} {G : Ctx} {H : Hots} {f : FuncId} {fn : Func}

/-! ### One element that is pointed at -/
/-- Another content of a row of one element. -/
def wb1 (fam : Fam) (cs : List AV) : Fam := fun f => if f = 0 then { fam 0 with get := fun _ => cs } else fam f
/-! ### Two elements of one family -/
/-! ### Tables -/
/-- The family is a table of N pointers to rows of one element. -/
def tabOK (K N sz : Nat) (tp ty : TypeId) (fam : Fam) : Prop := (∀ f, alike (famT K N sz tp ty (fun i => (fam (i + 1)).get 0) f) (fam f)) ∧ ∀ i, i < N → cleanCs ((fam (i + 1)).get 0) = true
/-! ### A table that is told: a new slice of what it points at -/
/-- New rows, all of one key. -/
def whole (K : Nat) (f : Nat) : Option (Nat × Nat) := some (K, f)
/-! ### A new row of one element -/
/-! ### A new table -/
/-! ### A table and an element of another row -/
end

/-! ### For the evaluator -/
section
variable {K N sz n r f i : Nat} {tp ty : TypeId} {get : Nat → List AV} {cs l : List AV} {g : Option Bool} {a : AV}
theorem cleanCs_nil : cleanCs [] = true := (rfl)
theorem cleanCs_v {x : Value} : cleanCs (.v x :: l) = cleanCs l := by simp [cleanCs, cleanC]
theorem cleanCs_any : cleanCs (.any :: l) = cleanCs l := by simp [cleanCs, cleanC]
theorem cleanCs_ro {q : Nat → List AV} : cleanCs (.ro n sz q :: l) = cleanCs l := by simp [cleanCs, cleanC]
theorem cleanCs_rop : cleanCs (.rop cs :: l) = cleanCs l := by simp [cleanCs, cleanC]
theorem self_of_clean {c : AV} (h : cleanC c = true) : selfC r c = true := by cases c <;> first | exact h | simp [cleanC] at h
theorem famOK_1 (h : cleanCs cs = true) : famOK r (fam1 ty sz cs none) = True := eq_true fun f => by
  unfold fam1
  by_cases e : f = 0
  · subst e
    exact ⟨rfl, fun j _ c hc => self_of_clean (cleanCs_mem h c (by simpa using hc))⟩
  · simp only [e, if_false]
    exact ⟨trivial, fun j hj => by omega⟩
theorem famOK_N (h : ∀ i, i < n → cleanCs (get i) = true) : famOK r (famN n sz ty get none) = True := eq_true fun f => by
  unfold famN
  by_cases e : f = 0
  · subst e
    exact ⟨rfl, fun j hj c hc => self_of_clean (cleanCs_mem (h j (by simpa using hj)) c (by simpa using hc))⟩
  · simp only [e, if_false]
    exact ⟨trivial, fun j hj => by omega⟩
theorem famOK_T (h : ∀ i, i < N → cleanCs (get i) = true) : famOK K (famT K N sz tp ty get) = True := eq_true fun f => by
  cases f with
  | zero =>
    refine ⟨rfl, fun j _ c hc => ?_⟩
    simp only [famT, List.mem_singleton] at hc
    rw [hc]; simp [selfC]
  | succ f =>
    refine ⟨rfl, fun j hj c hc => ?_⟩
    simp only [famT] at hj hc
    split at hj
    · rename_i hf
      have : j = 0 := by omega
      subst this
      exact self_of_clean (cleanCs_mem (h f hf) c (by simpa using hc))
    · omega
theorem tabOK_T (h : ∀ i, i < N → cleanCs (get i) = true) : tabOK K N sz tp ty (famT K N sz tp ty get) = True := eq_true ⟨fun f => by
  cases f <;> exact ⟨rfl, rfl, rfl, rfl, fun _ _ => rfl⟩, h⟩
theorem famT_get : (famT K N sz tp ty get (i + 1)).get 0 = get i := (rfl)
theorem famT_n : (famT K N sz tp ty get (i + 1)).n = if i < N then 1 else 0 := (rfl)
theorem famT_sz : (famT K N sz tp ty get (i + 1)).sz = sz := (rfl)
theorem fam1_get : (fam1 ty sz cs g 0).get i = cs := (rfl)
theorem fam1_n : (fam1 ty sz cs g 0).n = 1 := (rfl)
theorem fam1_sz : (fam1 ty sz cs g 0).sz = sz := (rfl)
theorem famN_get : (famN n sz ty get g 0).get i = get i := (rfl)
theorem famN_n : (famN n sz ty get g 0).n = n := (rfl)
theorem famN_sz : (famN n sz ty get g 0).sz = sz := (rfl)
theorem famOK_Es {fam : Fam} (h : famOK r fam) (hc : cleanCs cs = true) : famOK r (famE fam f i cs) = True := eq_true (famOK_E h (cleanCs_mem hc))
theorem wb1_1 : wb1 (fam1 ty sz cs g) l = fam1 ty sz l g := by
  funext f
  unfold wb1 fam1
  by_cases e : f = 0 <;> simp [e]
theorem wb1_N {get : Nat → List AV} : wb1 (famN 1 sz ty get g) l = famN 1 sz ty (fun _ => l) g := by
  funext f
  unfold wb1 famN
  by_cases e : f = 0 <;> simp [e]
end
attribute [go_sem] cleanCs_nil cleanCs_v cleanCs_any cleanCs_ro cleanCs_rop famOK_1 famOK_N famOK_T famOK_Es famE_n famE_sz famE_g famE_get famE_twice tabOK_T famT_get famT_n famT_sz fam1_get fam1_n fam1_sz famN_get famN_n famN_sz wb1_1 wb1_N famE_T lt_ite tupOf_nil tupOf_one tupOf_two retML_nil retML_cons retMS_some endMR_ret endMR_normal
end Go.Ax
end

section
/-
  Contracts of functions that make objects, and of those that write them: a family of rows that speaks of itself alone.
-/
set_option linter.unusedSimpArgs false
set_option linter.unusedVariables false
namespace Go.Ax

/-! ### New families -/
/-- The place of a row among those that make a new family. -/
def ixP : List (Nat × Nat) → Nat → Nat → Nat
  | [], _, _ => 0
  | (a, b) :: l, r, g => if a = r ∧ b = g then 0 else ixP l r g + 1
def sgP (l : List (Nat × Nat)) (f : Nat) : Option (Nat × Nat) := l[f]?
theorem ixP_at : ∀ {l : List (Nat × Nat)}, l.Nodup → ∀ {f r g : Nat}, l[f]? = some (r, g) → ixP l r g = f
  | [], _, f, r, g, h => by simp at h
  | (a, b) :: l, hn, 0, r, g, h => by
    simp at h
    obtain ⟨rfl, rfl⟩ := h
    simp [ixP]
  | (a, b) :: l, hn, f + 1, r, g, h => by
    obtain ⟨n1, n2⟩ := List.nodup_cons.1 hn
    simp at h
    simp only [ixP]
    rw [if_neg, ixP_at n2 h]
    rintro ⟨rfl, rfl⟩
    exact n1 (List.mem_of_getElem? h)
/-- What a callee leaves that is new: the result, and a family made of rows of its own. -/
def NewP (key N : Nat) (a : AV) (m1 : Mem) (val : AV) (nw : Option Fam) : Prop :=
  ∃ (σ : Nat → Option (Nat × Nat)) (th : Nat → Nat → Nat), (∀ f r g, σ f = some (r, g) → N ≤ r ∧ th r g = f) ∧ kg (newG N σ th) (newB N σ) 3 a ∧ ∀ ks : List Nat, ks.length = N → val = renA (thL ks key th) 3 a ∧
    match nw with
    | none => ∀ f, σ f = none
    | some y => ∀ f, match σ f with
      | some (r, g) => ∃ y0, look m1 r = some y0 ∧ rowRen (thL ks key th) (newG N σ th) (newB N σ) (y0 g) (y f) ∧ (y0 g).g ≠ some false
      | none => (y f).n = 0
theorem newP_none {key N : Nat} {a : AV} {m1 : Mem} (h : clean 3 a = true) : NewP key N a m1 a none :=
  ⟨fun _ => none, fun _ _ => 0, fun f r g h => by simp at h, (clean_ren (θ := fun _ _ => (0, 0)) 3 a h).2, fun ks _ => ⟨((clean_ren (g := fun _ _ => True) (B := fun _ => True) 3 a h).1).symm, fun _ => rfl⟩⟩
theorem newP_list {key N : Nat} {a : AV} {m1 : Mem} {val : AV} {y : Fam} (l : List (Nat × Nat)) (hn : l.Nodup) (hN : ∀ p ∈ l, N ≤ p.1) (hk : kg (newG N (sgP l) (ixP l)) (newB N (sgP l)) 3 a)
    (hv : ∀ ks : List Nat, ks.length = N → val = renA (thL ks key (ixP l)) 3 a)
    (hy : ∀ ks : List Nat, ks.length = N → ∀ f r g, l[f]? = some (r, g) → ∃ y0, look m1 r = some y0 ∧ rowRen (thL ks key (ixP l)) (newG N (sgP l) (ixP l)) (newB N (sgP l)) (y0 g) (y f) ∧ (y0 g).g ≠ some false)
    (hr : ∀ f, l.length ≤ f → (y f).n = 0) : NewP key N a m1 val (some y) := by
  refine ⟨sgP l, ixP l, fun f r g h => ⟨hN _ (List.mem_of_getElem? h), ixP_at hn h⟩, hk, fun ks hks => ⟨hv ks hks, fun f => ?_⟩⟩
  unfold sgP
  cases h : l[f]? with
  | none => exact hr f (by simpa using h)
  | some p =>
    obtain ⟨r, g⟩ := p
    exact hy ks hks f r g h
theorem NewP.leave {key N : Nat} {a : AV} {m1 : Mem} {val : AV} {nw : Option Fam} (h : NewP key N a m1 val nw) {ks : List Nat} (hks : ks.length = N) {ys : List Fam} (hl : ys.length = ks.length)
    (hr : ∀ σ th, ∀ i, i < ks.length → ys[i]? = some dead ∨ ∃ y0 y, look m1 i = some y0 ∧ ys[i]? = some y ∧ ∀ f, rowRen (thL ks key th) (newG ks.length σ th) (newB ks.length σ) (y0 f) (y f) ∧ (y0 f).g ≠ some false) {ob : List Prop} :
    ∃ σ th ys' nw', (⟨ob, val, .many (ks.zip ys) nw⟩ : Eff).u = .many (ks.zip ys') nw' ∧ Leave key ks σ th m1 a ys' nw' val := by
  obtain ⟨σ, th, h1, h2, h3⟩ := h
  obtain ⟨h4, h5⟩ := h3 ks hks
  refine ⟨σ, th, ys, nw, rfl, ⟨by rw [hks]; exact h1, h4, by rw [hks]; exact h2, hl, hr σ th, ?_⟩⟩
  rw [hks]
  exact h5

/-! ### Makers -/
section
variable {P : Program} {G : Ctx} {H : Hots} {f : FuncId} {fn : Func}
def mcK (F : List AV → Option (List Prop × (Nat → AV) × (Nat → Option Fam))) : MCon := fun key m es => match F es with
  | some (ob, v, nw) => some ⟨ob, v key, .many [] (nw key)⟩
  | none => none
def KOK (P : Program) (G : Ctx) (H : Hots) (fn : Func) (F : List AV → Option (List Prop × (Nat → AV) × (Nat → Option Fam))) : Prop :=
  ∀ es ob v nw, F es = some (ob, v, nw) → (∀ p ∈ ob, p) → (∀ a ∈ es, clean 3 a = true) ∧ funcOK P H fn es.length = true ∧ ∀ key, bodyM P G H fn es [] 0 fun a m1 => NewP key 0 a m1 (v key) (nw key)
theorem MConOK.mcK (hG : CtxOK P G) (hf : P.funcs[f]? = some fn) {F : List AV → Option (List Prop × (Nat → AV) × (Nat → Option Fam))} (h : KOK P G H fn F) : MConOK P f (mcK F) := by
  refine MConOK.of (H := H) hG hf fun key m es e hc hob => ?_
  unfold Ax.mcK at hc
  split at hc
  · rename_i ob v nw hF
    cases hc
    obtain ⟨h1, h3, h4⟩ := h _ _ _ _ hF fun p hp => hob p hp
    obtain ⟨a1, a2⟩ := cleans_ren (θ := thE []) (g := lowG 0) (B := lowB 0) h1
    exact ⟨[], [], es, ⟨by simp, a1.symm, a2, fun j hj => by simp at hj, fun q x hq => by simp [look] at hq⟩, h3, (h4 key).mono fun a m1 hN => hN.leave (ks := []) rfl (ys := []) rfl fun _ _ i hi => by simp at hi⟩
  · cases hc

/-! ### Objects -/
structure Obj (X : Type) where
  fm : Nat → X → Fam
  ok : X → Prop
  inj : ∀ K x y, fm K x = fm K y → x = y
  ren : ∀ x, ok x → ∀ (θ : Nat → Nat → Nat × Nat) (g : Nat → Nat → Prop) (B : Nat → Prop) (i K : Nat), (∀ f, θ i f = (K, f)) → (∀ f, g i f) → ∀ f, rowRen θ g B (fm i x f) (fm K x f)
  gn : ∀ K x, ok x → ∀ f, (fm K x f).g = none
variable {X : Type} {O : Obj X}
open Classical in
noncomputable def Obj.dec (O : Obj X) (K : Nat) (fam : Fam) : Option X := if h : ∃ x, fam = O.fm K x then some (Classical.choose h) else none
theorem Obj.dec_fm {K : Nat} {x : X} : O.dec K (O.fm K x) = some x := by
  have h : ∃ y, O.fm K x = O.fm K y := ⟨x, rfl⟩
  unfold Obj.dec
  rw [dif_pos h]
  exact congrArg some (O.inj _ _ _ (Classical.choose_spec h)).symm
theorem Obj.dec_some {K : Nat} {fam : Fam} {x : X} (h : O.dec K fam = some x) : fam = O.fm K x := by
  unfold Obj.dec at h
  split at h
  · rename_i hh
    cases h
    exact Classical.choose_spec hh
  · cases h
/-- An object's family; or none any more. -/
def Obj.fam (O : Obj X) (K : Nat) : Option X → Fam
  | some x => O.fm K x
  | none => dead
def Obj.okO (O : Obj X) : Option X → Prop
  | some x => O.ok x
  | none => True
def Obj.at (O : Obj X) (K : Nat) (m : Mem) : Option X → Prop
  | some x => look m K = some (O.fm K x)
  | none => True
abbrev OFun (X : Type) := X → List AV → Option (List Prop × (Nat → AV) × Option X × (Nat → Option Fam))
def mcOf (O : Obj X) (K key : Nat) (x : X) : Option (List Prop × (Nat → AV) × Option X × (Nat → Option Fam)) → Option Eff
  | some (ob, v, x', nw) => some ⟨O.ok x :: O.okO x' :: ob, v key, .many [(K, O.fam K x')] (nw key)⟩
  | none => none
noncomputable def mcOe (O : Obj X) (F : OFun X) (K key : Nat) (rest : List AV) : Option Fam → Option Eff
  | some fam => match O.dec K fam with
    | some x => mcOf O K key x (F x rest)
    | none => none
  | none => none
noncomputable def mcO (O : Obj X) (F : OFun X) : MCon := fun key m es => match es with
  | .bx K 0 :: rest => mcOe O F K key rest (look m K)
  | _ => none
def OOK (P : Program) (G : Ctx) (H : Hots) (fn : Func) (O : Obj X) (F : OFun X) : Prop :=
  ∀ x rest ob v x' nw, F x rest = some (ob, v, x', nw) → O.ok x → O.okO x' → (∀ p ∈ ob, p) → (∀ a ∈ rest, clean 3 a = true) ∧ funcOK P H fn (rest.length + 1) = true ∧
    ∀ key, bodyM P G H fn (.bx 0 0 :: rest) [(0, O.fm 0 x)] 1 fun a m1 => O.at 0 m1 x' ∧ NewP key 1 a m1 (v key) (nw key)
theorem Obj.leave {K i : Nat} {ks : List Nat} {m1 : Mem} {x' : Option X} {key : Nat} {σ : Nat → Option (Nat × Nat)} {th : Nat → Nat → Nat} (hi : i < ks.length) (hK : ks.getD i 0 = K) (hok : O.okO x') (ha : match x' with
    | some x => look m1 i = some (O.fm i x)
    | none => True) : O.fam K x' = dead ∨ ∃ y0 y, look m1 i = some y0 ∧ some (O.fam K x') = some y ∧ ∀ f, rowRen (thL ks key th) (newG ks.length σ th) (newB ks.length σ) (y0 f) (y f) ∧ (y0 f).g ≠ some false := by
  cases x' with
  | none => exact .inl rfl
  | some x => exact .inr ⟨_, _, ha, rfl, fun f => ⟨O.ren x hok _ _ _ i K (fun f => by unfold thL; rw [if_pos hi, hK]) (fun f => .inl hi) f, by rw [O.gn _ _ hok]; simp⟩⟩
theorem MConOK.mcO (hG : CtxOK P G) (hf : P.funcs[f]? = some fn) {F : OFun X} (h : OOK P G H fn O F) : MConOK P f (mcO O F) := by
  refine MConOK.of (H := H) hG hf fun key m es e hc hob => ?_
  unfold Ax.mcO at hc
  split at hc
  · rename_i K rest
    unfold mcOe at hc
    split at hc
    · rename_i fam hl
      split at hc
      · rename_i x hx
        obtain rfl := Obj.dec_some hx
        unfold mcOf at hc
        split at hc
        · rename_i ob v x' nw hF
          cases hc
          have hok : O.ok x := hob _ (by simp)
          have hok' : O.okO x' := hob _ (by simp)
          obtain ⟨h1, h3, h4⟩ := h _ _ _ _ _ _ hF hok hok' fun p hp => hob p (by simp [hp])
          obtain ⟨a1, a2⟩ := cleans_ren (θ := thE [K]) (g := lowG 1) (B := lowB 1) h1
          refine ⟨[K], [(0, O.fm 0 x)], .bx 0 0 :: rest, ⟨by simp, by rw [List.map_cons, a1]; rfl, fun a ha => ?_, fun j hj => ?_, fun q z hq => ?_⟩, h3, (h4 key).mono fun a m1 ⟨k1, k2⟩ => k2.leave (ks := [K]) rfl (ys := [O.fam K x']) rfl fun σ th j hj => ?_⟩
          · rcases List.mem_cons.1 ha with rfl | ha
            · exact Nat.zero_lt_one
            · exact a2 a ha
          · have : j = 0 := by simp at hj; omega
            subst this
            exact ⟨_, _, look_one, hl, fun f => ⟨O.gn _ _ hok _, O.ren x hok _ _ _ 0 K (fun _ => rfl) (fun _ => Nat.zero_lt_one) f⟩⟩
          · by_cases e : q = 0
            · subst e; simp
            · simp [look, Ne.symm e] at hq
          · have : j = 0 := by simp at hj; omega
            subst this
            have := Obj.leave (O := O) (K := K) (i := 0) (ks := [K]) (m1 := m1) (x' := x') (key := key) (σ := σ) (th := th) (by simp) rfl hok' (by cases x' <;> exact k1)
            rcases this with h | ⟨y0, y, k3, k4, k5⟩
            · exact .inl (by rw [h]; rfl)
            · exact .inr ⟨y0, y, k3, k4, k5⟩
        · cases hc
      · cases hc
    · cases hc
  · cases hc
theorem mcO_eq {F : OFun X} {K key : Nat} {m : Mem} {rest : List AV} : mcO O F key m (.bx K 0 :: rest) = mcOe O F K key rest (look m K) := (rfl)
theorem mcOe_fm {F : OFun X} {K key : Nat} {rest : List AV} {x : X} : mcOe O F K key rest (some (O.fm K x)) = mcOf O K key x (F x rest) := by
  unfold mcOe
  dsimp only
  rw [Obj.dec_fm]
theorem mcOf_some {K key : Nat} {x : X} {ob : List Prop} {v : Nat → AV} {x' : Option X} {nw : Nat → Option Fam} : mcOf O K key x (some (ob, v, x', nw)) = some ⟨O.ok x :: O.okO x' :: ob, v key, .many [(K, O.fam K x')] (nw key)⟩ := (rfl)
end
end Go.Ax
end

section
/-
  The program's table of slots: what only reads it.
-/
set_option linter.unusedVariables false
set_option linter.unusedSimpArgs false
set_option maxHeartbeats 4000000
set_option maxRecDepth 100000
namespace Go.Ax
open Go.Proofs
/-- Whole numbers, one a cell. -/
def ints (n : Nat) (g : Nat → List AV) : Prop := ∀ i, i < n → g i = [i64 (gx g 0 i)]
theorem ints_can {n : Nat} {X : Nat → Int} : ints n (fun i => [i64 (X i)]) = True := eq_true fun _ _ => rfl
theorem gx_int {X : Nat → Int} : gx (fun i => [i64 (X i)]) 0 = X := rfl
/-- A table of slots, ars it is read. -/
abbrev slR (x : Int) (n : Nat) (G : Nat → Int) : AV := .rop [u64 x, .ro n 1 fun i => [i64 (G i)]]
def cSe (n : Nat) (g : Nat → List AV) : Option (List Prop × AV) → Option (List Prop × AV)
  | some (ob, r) => some (ints n g :: ob, r)
  | none => none
theorem cSe_some {n : Nat} {g : Nat → List AV} {ob : List Prop} {r : AV} : cSe n g (some (ob, r)) = some (ints n g :: ob, r) := (rfl)
/-- A contract of a function whose first argument is such a table. -/
def cS (F : Int → Nat → (Nat → Int) → List AV → Option (List Prop × AV)) : Con
  | .rop [.v (.int .u64 x), .ro n 1 g] :: rest => cSe n g (F x n (gx g 0) rest)
  | _ => none
theorem cS_eq {F : Int → Nat → (Nat → Int) → List AV → Option (List Prop × AV)} {x : Int} {n : Nat} {g : Nat → List AV} {rest : List AV} : cS F (.rop [u64 x, .ro n 1 g] :: rest) = cSe n g (F x n (gx g 0) rest) := (rfl)
theorem R_ropc {w : World} {ρ : Env} {cs cs' : List AV} {v : Value} (hl : cs'.length = cs.length) (h : ∀ (k : Nat) (c c' : AV) (x : Value), cs[k]? = some c → cs'[k]? = some c' → R w (.ext ρ.imm) c x → R w (.ext ρ.imm) c' x) (hR : R w ρ (.rop cs) v) : R w ρ (.rop cs') v := by
  cases hR with
  | rop b o hi hex hr =>
    refine .rop b o hi (fun k hk => hex k (by omega)) fun k c' x h1 h2 => ?_
    have hlt : k < cs.length := by rw [← hl]; exact (List.getElem?_eq_some_iff.1 h1).1
    exact h k cs[k] c' x (by simp [hlt]) h1 (hr k cs[k] x (by simp [hlt]) h2)
theorem R_slots {w : World} {ρ : Env} {x : Int} {n : Nat} {g : Nat → List AV} {v : Value} (h : ints n g) (hR : R w ρ (.rop [u64 x, .ro n 1 g]) v) : R w ρ (slR x n (gx g 0)) v := by
  refine R_ropc (cs := [u64 x, .ro n 1 g]) rfl (fun k c c' y h1 h2 h3 => ?_) hR
  match k, h1, h2 with
  | 0, h1, h2 => cases h1; cases h2; exact h3
  | 1, h1, h2 => cases h1; cases h2; exact ro_alike (fun i hi => h i hi) h3
  | k + 2, h1, h2 => simp at h1
theorem ConOK.cS {P : Program} {G : Ctx} {H : Hots} (hG : CtxOK P G) {f : FuncId} {fn : Func} (hf : P.funcs[f]? = some fn) {F : Int → Nat → (Nat → Int) → List AV → Option (List Prop × AV)}
    (h : ∀ x n X rest ob r, F x n X rest = some (ob, r) → (∀ p ∈ ob, p) → funcOK P H fn (rest.length + 1) = true ∧ fnVC P G H fn (slR x n X :: rest) (· = r)) : ConOK P f (cS F) :=
  ConOK.go (G := G) (H := H) hG hf fun l ob rr hc hob => by
    unfold Ax.cS at hc
    split at hc
    · rename_i x n g rest
      unfold cSe at hc
      split at hc
      · rename_i ob' r' hF
        cases hc
        obtain ⟨h1, h2⟩ := h x n (gx g 0) rest ob' rr hF fun p hp => hob p (by simp [hp])
        refine ⟨slR x n (gx g 0) :: rest, fun w I vs hR => ?_, h1, h2⟩
        · obtain ⟨y, ys, rfl, k1, k2⟩ := hR.inv
          exact .cons (R_slots (hob _ (by simp)) k1) k2
      · cases hc
    · cases hc
def c87 : Con
  | [.rop [s, .ro n 1 G]] => some ([], bo (n == 0))
  | _ => none
theorem con87 : ConOK Tryz.prog 87 c87 := ConOK.of (G := []) (H := []) .nil Tryz.func87 fun l ob rr hc hob => by
  unfold c87 at hc
  split at hc
  · rename_i s n G
    cases hc
    refine ⟨by kernel_rfl, fnVC_go (rs := [.tmp 2]) rfl rfl ?_⟩
    simp only [go_sem]
    cases n with
    | zero => rfl
    | succ n => simp only [Bool.false_or]; apply Bool.eq_iff_iff.2; simp; omega
  · cases hc
def c88 : Con
  | [.rop (.v (.int .u64 x) :: l), .v (.int .i64 i)] => some ([0 ≤ x, x < 18446744073709551616, 0 ≤ i, i < 64], bo (x.toNat.testBit i.toNat))
  | _ => none
theorem con88 : ConOK Tryz.prog 88 c88 := ConOK.of (G := []) (H := []) .nil Tryz.func88 fun l ob rr hc hob => by
  unfold c88 at hc
  split at hc
  · rename_i x l i
    cases hc
    have h_0 : 0 ≤ x := hob _ (by simp)
    have h_1 : x < 18446744073709551616 := hob _ (by simp)
    have h_2 : 0 ≤ i := hob _ (by simp)
    have h_3 : i < 64 := hob _ (by simp)
    refine ⟨by kernel_rfl, fnVC_go (rs := [.tmp 4]) rfl rfl ?_⟩
    simp only [go_sem, h_0, h_1, h_2, h_3]
    obtain ⟨a, rfl⟩ : ∃ a : Nat, x = a := ⟨x.toNat, by omega⟩
    obtain ⟨k, rfl⟩ : ∃ k : Nat, i = k := ⟨i.toNat, by omega⟩
    have hk : k < 64 := by omega
    intro z hz
    obtain rfl : z = k := by rw [hz, wrap_u (by unfold inU; omega)]
    refine ⟨by omega, fun z1 h1 z2 h2 => ?_⟩
    have e : ((k : Int)).toNat = k := by omega
    rw [e, shr_nat hk] at h1
    have h3 : a / 2 ^ k ≤ a := Nat.div_le_self _ _
    subst h1
    have h4 := andI_nat (a := a / 2 ^ k) (b := 1) (by omega) (by decide)
    rw [show ((1 : Nat) : Int) = 1 from rfl] at h4
    rw [h2, h4, Int.toNat_natCast, Int.toNat_natCast]
    exact bit_eq
  · cases hc
attribute [go_sem] cS_eq cSe_some ints_can gx_int
/-- Is the slot taken? -/
def atOk (x : Int) (n : Nat) (i : Int) : Bool := decide (0 ≤ i ∧ i < n) && x.toNat.testBit i.toNat
abbrev haA (s g : Int) : AV := .agg [i64 s, i64 g]
def F37 : Int → Nat → (Nat → Int) → List AV → Option (List Prop × AV)
  | x, n, X, [.v (.int .i64 i)] => some ([0 ≤ x, x < 18446744073709551616, 0 < n, n ≤ 64], .tup [haA (if atOk x n i = true then i else 0) (if atOk x n i = true then X i.toNat else 0), bo (atOk x n i)])
  | _, _, _, _ => none
def k37 : Con := cS F37
theorem con37 : ConOK Tryz.prog 37 k37 := ConOK.cS (G := [(87, c87), (88, c88)]) (H := []) (.cons con87 (.cons con88 .nil)) Tryz.func37 fun x n X rest ob r hF hob => by
  unfold F37 at hF
  split at hF
  · rename_i i
    cases hF
    have h0 : 0 ≤ x := hob _ (by simp)
    have h1 : x < 18446744073709551616 := hob _ (by simp)
    have h2 : 0 < n := hob _ (by simp)
    have h3 : n ≤ 64 := hob _ (by simp)
    refine ⟨by kernel_rfl, fnVC_go (rs := [.cell 4 64, .tmp 5]) rfl rfl ?_⟩
    simp only [go_sem, c87, c88, h0, h1]
    intro z hz z1 hz1
    have hz : z = false := by rw [hz]; exact beq_false_of_ne (by omega)
    subst hz
    refine ⟨fun _ => trivial, fun _ => trivial, fun h => by omega, fun h => by omega, fun h => ?_, fun h => ?_⟩
    · have : atOk x n i = false := by
        unfold atOk
        rw [← hz1]
        rcases h with ((h | h) | h) | h
        · cases h
        · rw [decide_eq_false (by omega)]; rfl
        · rw [decide_eq_false (by omega)]; rfl
        · rw [h, Bool.and_false]
      rw [this]; rfl
    · have : atOk x n i = true := by
        unfold atOk
        rw [← hz1, h.2, decide_eq_true (by omega)]; rfl
      rw [this]
      exact ⟨by omega, by omega, rfl⟩
  · cases hF
end Go.Ax
end

section
/-
  The program's table of slots: Has, All.
-/
set_option linter.unusedVariables false
set_option linter.unusedSimpArgs false
set_option maxHeartbeats 4000000
set_option maxRecDepth 100000
namespace Go.Ax
open Go.Proofs
def alk (r r' : AV) : Prop := ∀ w ρ v, R w ρ r' v → R w ρ r v
theorem ConOK.goR {P : Program} {G : Ctx} {H : Hots} (hG : CtxOK P G) {f : FuncId} {fn : Func} (hf : P.funcs[f]? = some fn) {c : Con}
    (h : ∀ es1 ob r, c es1 = some (ob, r) → (∀ p ∈ ob, p) → ∃ es, (∀ w I vs, Rs w (.ext I) es1 vs → Rs w (.ext I) es vs) ∧ funcOK P H fn es.length = true ∧ fnVC P G H fn es (alk r)) : ConOK P f c := by
  intro es0 ob r hc hob I w vs hI hRs
  obtain ⟨es, h0, h1, h2⟩ := h es0 ob r hc hob
  obtain ⟨k1, k2⟩ := fn_sound hG hf h1 h2 I w vs hI (h0 w I vs hRs)
  refine .inr ⟨k1, k2.mono fun e w' ⟨v, he, ⟨r', hr, hR⟩, hb⟩ => ⟨v, he, hr _ _ _ hR, hb⟩⟩
theorem alk_refl {r : AV} : alk r r := fun _ _ _ h => h
theorem fitL_clean {N M : Nat} {σ : Names} : ∀ {l : List AV}, cleanCs l = true → fitL N M σ l l
  | [], _ => trivial
  | a :: l, h => by
    simp only [cleanCs, Bool.and_eq_true] at h
    refine ⟨?_, fitL_clean h.2⟩
    have h1 := h.1
    cases a <;> first | exact ⟨rfl, trivial⟩ | trivial | simp [cleanC] at h1
/-- Pairs of whole numbers in a slice. -/
def lsF (l : List (Int × Int)) : Nat → List AV := fun i => [i64 (l.getD i (0, 0)).1, i64 (l.getD i (0, 0)).2]
abbrev lsA (l : List (Int × Int)) : AV := .ro l.length 2 (lsF l)
theorem lsF_push {l : List (Int × Int)} {a b : Int} {j : Nat} (h : j < l.length + 1) : (if j < l.length then lsF l j else List.take 2 (List.drop ((j - l.length) * 2) [i64 a, i64 b])) = lsF (l ++ [(a, b)]) j := by
  unfold lsF
  split
  · rename_i hl
    simp [List.getD_eq_getElem?_getD, List.getElem?_append_left hl]
  · have : j = l.length := by omega
    subst this
    simp
/-- The handles of the slots below i that are taken. -/
def allL (x : Int) (n : Nat) (X : Nat → Int) : Nat → List (Int × Int)
  | 0 => []
  | i + 1 => allL x n X i ++ (if atOk x n i = true then [((i : Int), X i)] else [])
theorem aEq64 {a0 b0 : Int} {a1 b1 : Int} : aEq Tryz.prog 64 (.agg [i64 a0, i64 a1]) (.agg [i64 b0, i64 b1]) = some ((a0 == b0) && ((a1 == b1) && true)) := by kernel_rfl
theorem eq64 {xo yo : Operand} {neg : Bool} {a0 b0 : Int} {a1 b1 : Int} : eqE Tryz.prog neg 64 xo yo (.agg [i64 a0, i64 a1]) (.agg [i64 b0, i64 b1]) = some ⟨[], .v (.bool (negV neg ((a0 == b0) && ((a1 == b1) && true)))), .none⟩ := eqE_agg aEq64
attribute [go_sem] eq64
theorem aEq95 {a0 b0 : Int} {a1 b1 : Int} : aEq Tryz.prog 95 (.agg [i64 a0, i64 a1]) (.agg [i64 b0, i64 b1]) = some ((a0 == b0) && ((a1 == b1) && true)) := by kernel_rfl
theorem eq95 {xo yo : Operand} {neg : Bool} {a0 b0 : Int} {a1 b1 : Int} : eqE Tryz.prog neg 95 xo yo (.agg [i64 a0, i64 a1]) (.agg [i64 b0, i64 b1]) = some ⟨[], .v (.bool (negV neg ((a0 == b0) && ((a1 == b1) && true)))), .none⟩ := eqE_agg aEq95
attribute [go_sem] eq95
def F60 : Int → Nat → (Nat → Int) → List AV → Option (List Prop × AV)
  | x, n, X, [.agg [.v (.int .i64 s), .v (.int .i64 g)]] => some ([0 ≤ x, x < 18446744073709551616, 0 < n, n ≤ 64], bo (atOk x n s && (X s.toNat == g)))
  | _, _, _, _ => none
def k60 : Con := cS F60
theorem con60 : ConOK Tryz.prog 60 k60 := ConOK.cS (G := [(37, k37)]) (H := []) (.cons con37 .nil) Tryz.func60 fun x n X rest ob r hF hob => by
  unfold F60 at hF
  split at hF
  · rename_i s g
    cases hF
    have h0 : 0 ≤ x := hob _ (by simp)
    have h1 : x < 18446744073709551616 := hob _ (by simp)
    have h2 : 0 < n := hob _ (by simp)
    have h3 : n ≤ 64 := hob _ (by simp)
    refine ⟨by kernel_rfl, fnVC_go (rs := [.tmp 4]) rfl rfl ?_⟩
    simp only [go_sem, k37, F37, h0, h1, h2, h3]
    intro z hz
    subst hz
    cases h : atOk x n s with
    | false => rfl
    | true => simp only [if_true, beq_self_eq_true, Bool.true_and]
  · cases hF
end Go.Ax
end

section
/-
  The program's table of slots, ars an object; what writes it.
-/
set_option linter.unusedVariables false
set_option linter.unusedSimpArgs false
set_option maxHeartbeats 4000000
set_option maxRecDepth 100000
namespace Go.Ax
open Go.Proofs
/-- Rows that speak of nothing of our own. -/
def tlOK (t : Fam) : Prop := ∀ f, (t f).g = none ∧ ∀ j, j < (t f).n → ∀ c ∈ (t f).get j, cleanC c = true
theorem tlOK_no : tlOK noRows = True := eq_true fun f => ⟨rfl, fun j hj => by have hj : j < 0 := hj; omega⟩
theorem rowRen_tl {t : Fam} (h : tlOK t) {θ : Nat → Nat → Nat × Nat} {g : Nat → Nat → Prop} {B : Nat → Prop} (f : Nat) : rowRen θ g B (t f) (t f) := rowRen_clean' (.refl _) (h f).2
structure SlS where
  x : Int
  n : Nat
  G : Nat → Int
  tl : Fam
def slF (K : Nat) (s : SlS) : Fam := famR [⟨1, 2, 100, fun _ => [u64 s.x, .own K 1 s.n 1], none⟩, ⟨s.n, 1, 3, fun i => [i64 (s.G i)], none⟩] s.tl
theorem slF_inj {K : Nat} {s t : SlS} (h : slF K s = slF K t) : s = t := by
  obtain ⟨x, n, G, tl⟩ := s
  obtain ⟨x', n', G', tl'⟩ := t
  have h0 := congrFun h 0
  have h1 := congrFun h 1
  simp only [slF, famR_0, famR_1, Row.mk.injEq, true_and, and_true] at h0 h1
  have e0 := congrFun h0 0
  simp at e0
  obtain ⟨rfl, h2⟩ := h1
  have e1 : G = G' := by
    funext i
    have := congrFun h2 i
    simpa using this
  have e2 : tl = tl' := by
    funext f
    exact congrFun h (f + 2)
  obtain rfl := e0.1
  rw [e1, e2]
theorem slF_ren {s : SlS} (h : tlOK s.tl) {θ : Nat → Nat → Nat × Nat} {g : Nat → Nat → Prop} {B : Nat → Prop} {i K : Nat} (hθ : ∀ f, θ i f = (K, f)) (hg : ∀ f, g i f) (f : Nat) : rowRen θ g B (slF i s f) (slF K s f) := by
  match f with
  | 0 =>
    refine ⟨rfl, rfl, rfl, rfl, fun j hj => ⟨?_, fun c hc => ?_⟩⟩
    · show [u64 s.x, AV.own K 1 s.n 1] = [u64 s.x, AV.own (θ i 1).1 (θ i 1).2 s.n 1]
      rw [hθ]
    · have hc : c ∈ [u64 s.x, AV.own i 1 s.n 1] := hc
      simp only [List.mem_cons, List.not_mem_nil, or_false] at hc
      rcases hc with rfl | rfl
      · trivial
      · exact hg 1
  | 1 =>
    refine ⟨rfl, rfl, rfl, rfl, fun j hj => ⟨rfl, fun c hc => ?_⟩⟩
    have hc : c ∈ [i64 (s.G j)] := hc
    simp only [List.mem_cons, List.not_mem_nil, or_false] at hc
    subst hc
    trivial
  | f + 2 => exact rowRen_tl h f
def oS : Obj SlS where
  fm := slF
  ok s := tlOK s.tl
  inj _ _ _ h := slF_inj h
  ren _ h _ _ _ _ _ h1 h2 f := slF_ren h h1 h2 f
  gn K s h f := match f with
    | 0 => rfl
    | 1 => rfl
    | f + 2 => (h f).1
theorem oS_fm {K : Nat} {s : SlS} : oS.fm K s = slF K s := (rfl)
def mkF (x' : Int → Int → Int) : OFun SlS := fun s rest => match rest with
  | [.v (.int .i64 i)] => some ([0 ≤ s.x, s.x < 18446744073709551616, 0 ≤ i, i < 64], fun _ => .tup [], some { s with x := x' s.x i }, fun _ => none)
  | _ => none
def setX (x i : Int) : Int := ((x.toNat ||| 2 ^ i.toNat : Nat) : Int)
def clrX (x i : Int) : Int := ((clrN x.toNat (2 ^ i.toNat) : Nat) : Int)
theorem at_some {K : Nat} {m : Mem} {x : SlS} : oS.at K m (some x) = (look m K = some (slF K x)) := (rfl)
theorem setX_nat {a k : Nat} (hk : k < 64) (ha : a < 18446744073709551616) {z1 z2 z3 : Int} (h1 : z1 = IntKind.u64.wrap (k : Int)) (h2 : z2 = IntKind.u64.wrap (1 * 2 ^ min z1.toNat 64)) : ¬ z1 < 0 ∧ z2 = ((2 ^ k : Nat) : Int) ∧ 2 ^ k < 18446744073709551616 := by
  have e1 : z1 = (k : Int) := by rw [h1]; exact wrap_u (by unfold inU; omega)
  subst e1
  have hp : 2 ^ k < 18446744073709551616 := (Nat.pow_lt_pow_right (by omega : 1 < 2) hk : 2 ^ k < 2 ^ 64)
  refine ⟨by omega, ?_, hp⟩
  rw [h2, Int.toNat_natCast, Nat.min_eq_left (by omega), Int.one_mul]
  have : ((2 : Int) ^ k) = ((2 ^ k : Nat) : Int) := by simp
  rw [this]
  generalize 2 ^ k = p at hp
  exact wrap_u (by unfold inU; omega)
noncomputable def m89 : MCon := mcO oS (mkF setX)
theorem mon89 : MConOK Tryz.prog 89 m89 := MConOK.mcO (G := []) (H := []) .nil Tryz.func89 fun s rest ob v x' nw hF hok hok' hob => by
  unfold mkF at hF
  split at hF
  · rename_i i
    cases hF
    have h0 : 0 ≤ s.x := hob _ (by simp)
    have h1 : s.x < 18446744073709551616 := hob _ (by simp)
    have h2 : 0 ≤ i := hob _ (by simp)
    have h3 : i < 64 := hob _ (by simp)
    refine ⟨by simp [clean], by kernel_rfl, fun key => bodyM_go (rs := []) rfl rfl ?_⟩
    simp only [oS_fm, slF, go_sem]
    obtain ⟨x, n, X, tl⟩ := s
    obtain ⟨k, rfl⟩ : ∃ k : Nat, i = k := ⟨i.toNat, by omega⟩
    have h0 : 0 ≤ x := h0
    have h1 : x < 18446744073709551616 := h1
    obtain ⟨a, rfl⟩ : ∃ a : Nat, x = a := ⟨x.toNat, by omega⟩
    intro z1 e1
    have hk := fun z2 e2 => setX_nat (z3 := 0) (by omega : k < 64) (by omega : a < _) e1 (z2 := z2) e2
    refine ⟨(hk _ rfl).1, fun z2 e2 z3 e3 => ?_⟩
    obtain ⟨_, rfl, hp⟩ := hk z2 e2
    have e : z3 = setX a k := by
      rw [e3, orI_nat (by omega) hp]
      rfl
    subst e
    exact ⟨rfl, newP_none rfl⟩
  · cases hF
noncomputable def m92 : MCon := mcO oS (mkF clrX)
theorem mon92 : MConOK Tryz.prog 92 m92 := MConOK.mcO (G := []) (H := []) .nil Tryz.func92 fun s rest ob v x' nw hF hok hok' hob => by
  unfold mkF at hF
  split at hF
  · rename_i i
    cases hF
    have h0 : 0 ≤ s.x := hob _ (by simp)
    have h1 : s.x < 18446744073709551616 := hob _ (by simp)
    have h2 : 0 ≤ i := hob _ (by simp)
    have h3 : i < 64 := hob _ (by simp)
    refine ⟨by simp [clean], by kernel_rfl, fun key => bodyM_go (rs := []) rfl rfl ?_⟩
    simp only [oS_fm, slF, go_sem]
    obtain ⟨x, n, X, tl⟩ := s
    obtain ⟨k, rfl⟩ : ∃ k : Nat, i = k := ⟨i.toNat, by omega⟩
    have h0 : 0 ≤ x := h0
    have h1 : x < 18446744073709551616 := h1
    obtain ⟨a, rfl⟩ : ∃ a : Nat, x = a := ⟨x.toNat, by omega⟩
    intro z1 e1
    have hk := fun z2 e2 => setX_nat (z3 := 0) (by omega : k < 64) (by omega : a < _) e1 (z2 := z2) e2
    refine ⟨(hk _ rfl).1, fun z2 e2 z3 e3 => ?_⟩
    obtain ⟨_, rfl, hp⟩ := hk z2 e2
    have e : z3 = clrX a k := by
      rw [e3, andNotI_nat (by omega) hp]
      rfl
    subst e
    exact ⟨rfl, newP_none rfl⟩
  · cases hF
end Go.Ax
end

section
/-
  The program's table of slots: Take, Free.
-/
set_option linter.unusedVariables false
set_option linter.unusedSimpArgs false
set_option maxHeartbeats 4000000
set_option maxRecDepth 100000
namespace Go.Ax
open Go.Proofs
/-- The least number below n with a property; n if there is none. -/
def lst (p : Nat → Bool) : Nat → Nat
  | 0 => 0
  | n + 1 => if lst p n < n then lst p n else if p n = true then n else n + 1
theorem lst_le {p : Nat → Bool} : ∀ n, lst p n ≤ n
  | 0 => Nat.le_refl _
  | n + 1 => by
    have := lst_le (p := p) n
    unfold lst
    repeat' split
    all_goals omega
theorem lst_no {p : Nat → Bool} : ∀ {n i}, i < lst p n → p i = false
  | 0, i, h => by simp [lst] at h
  | n + 1, i, h => by
    unfold lst at h
    split at h
    · exact lst_no h
    · rename_i hn
      have he : lst p n = n := by have := lst_le (p := p) n; omega
      split at h
      · exact lst_no (n := n) (by omega)
      · rename_i hp
        by_cases e : i = n
        · subst e; simpa using hp
        · exact lst_no (n := n) (by omega)
theorem lst_yes {p : Nat → Bool} : ∀ {n}, lst p n < n → p (lst p n) = true
  | n + 1, h => by
    unfold lst at h ⊢
    split at h
    · rename_i hn; rw [if_pos hn]; exact lst_yes hn
    · rename_i hn
      rw [if_neg hn]
      split at h
      · rename_i hp; rw [if_pos hp]; exact hp
      · omega
theorem lst_eq {p : Nat → Bool} {n i : Nat} (h : ∀ j, j < i → p j = false) (hi : i < n) (hp : p i = true) : lst p n = i := by
  rcases Nat.lt_trichotomy (lst p n) i with h1 | h1 | h1
  · have := lst_yes (p := p) (n := n) (by omega)
    rw [h _ h1] at this; cases this
  · exact h1
  · rw [lst_no h1] at hp; cases hp
theorem lst_full {p : Nat → Bool} {n : Nat} (h : ∀ j, j < n → p j = false) : lst p n = n := by
  have := lst_le (p := p) n
  by_cases h1 : lst p n < n
  · have := lst_yes h1
    rw [h _ h1] at this; cases this
  · omega
/-- May the slot be taken? -/
def mayT (x : Int) (X : Nat → Int) (i : Nat) : Bool := !x.toNat.testBit i && decide (X i < 2147483647)
theorem mcOe_S {F : OFun SlS} {K key : Nat} {rest : List AV} {x : Int} {n : Nat} {X : Nat → Int} {tl : Fam} : mcOe oS F K key rest (some (famR [⟨1, 2, 100, fun _ => [u64 x, .own K 1 n 1], none⟩, ⟨n, 1, 3, fun i => [i64 (X i)], none⟩] tl)) = mcOf oS K key ⟨x, n, X, tl⟩ (F ⟨x, n, X, tl⟩ rest) := mcOe_fm (O := oS) (x := ⟨x, n, X, tl⟩)
theorem fam_S {K : Nat} {s : SlS} : oS.fam K (some s) = famR [⟨1, 2, 100, fun _ => [u64 s.x, .own K 1 s.n 1], none⟩, ⟨s.n, 1, 3, fun i => [i64 (s.G i)], none⟩] s.tl := (rfl)
theorem ok_S {s : SlS} : oS.ok s = tlOK s.tl := (rfl)
theorem okO_S {s : SlS} : oS.okO (some s) = tlOK s.tl := (rfl)
attribute [go_sem] mcO_eq mcOe_S mcOf_some fam_S ok_S okO_S
def upI (X : Nat → Int) (i : Nat) (v : Int) : Nat → Int := fun j => if j = i then v else X j
def tkI (s : SlS) : Nat := lst (mayT s.x s.G) s.n
def tkH (s : SlS) : Int × Int := if tkI s < s.n then ((tkI s : Int), s.G (tkI s) + 1) else (0, 0)
def tkE (s : SlS) : Int := if tkI s < s.n then 0 else 10
def tkS (s : SlS) : SlS := if tkI s < s.n then ⟨setX s.x (tkI s : Nat), s.n, upI s.G (tkI s) (s.G (tkI s) + 1), s.tl⟩ else s
def slOK (s : SlS) : Prop := (0 ≤ s.x ∧ s.x < 18446744073709551616) ∧ (0 < s.n ∧ s.n ≤ 64) ∧ ∀ i, i < s.n → 0 ≤ s.G i
def F40 : OFun SlS := fun s rest => match rest with
  | [] => some ([slOK s], fun _ => .tup [haA (tkH s).1 (tkH s).2, i64 (tkE s)], some (tkS s), fun _ => none)
  | _ => none
noncomputable def m40 : MCon := mcO oS F40
theorem mon40 : MConOK Tryz.prog 40 m40 := MConOK.mcO (G := [(87, c87), (88, c88), (89, .wr m89)]) (H := []) (.cons con87 (.cons con88 (.mcons mon89 .nil))) Tryz.func40 fun s rest ob v x' nw hF hok hok' hob => by
  unfold F40 at hF
  split at hF
  · cases hF
    obtain ⟨⟨h0, h1⟩, ⟨h2, h3⟩, h4⟩ : slOK s := hob _ (by simp)
    clear hok' hob
    refine ⟨by simp, by kernel_rfl, fun key => bodyM_go (rs := [.cell 2 64, .tmp 3]) rfl rfl ?_⟩
    obtain ⟨x, n, X, tl⟩ := s
    dsimp only at h0 h1 h2 h3 h4
    simp only [oS_fm, slF, go_sem, c87, c88, m89]
    intro z hz
    have hz : z = false := by rw [hz]; exact beq_false_of_ne (by omega)
    subst hz
    simp only [Bool.false_eq_true, false_imp_iff, true_imp_iff, true_and]
    refine loopN_go (fun (i : Nat) => i ≤ n ∧ ∀ j, j < i → mayT x X j = false) (fun i => n - i) (fun i => [(14, i64 i), (3, i64 0)]) (fun i => []) [0, 1] [15, 16, 17, 18, 4, 5, 19, 20, 21, 22, 23, 24, 25, 26, 27, 28, 29, 30, 31, 32, 33, 34, 35, 36, 37, 38, 39, 40, 41, 42, 43, 44, 45, 46, 3, 47, 14] 0 0 (by kernel_rfl) ⟨Nat.zero_le _, fun j hj => by omega⟩ ⟨[], ?_, ?_, ?_, ?_⟩ ?_
    · simp only [go_sem]
    · simp only [go_sem]
    · simp only [go_sem]
    · simp [goodNames, asg]
    rintro i ⟨hi, hj⟩
    have htl : tlOK tl := hok
    simp only [go_sem, c87, c88, m89, mkF, oS_fm, slF, htl]
    have lt_of : (i : Int) < n → i < n := fun h => by omega
    refine ⟨fun h => ⟨by omega, h, lt_of h, fun z hz => ⟨h0, h1, by omega, by omega, fun ht => ⟨h0, h1, by omega, by omega, by omega, h, by omega, fun z1 k1 => ⟨by omega, h, by omega, fun z2 k2 => ?_⟩⟩, fun hf z1 k1 => ?_⟩⟩, fun h => ?_⟩
    · have hp : mayT x X i = true := by
        unfold mayT
        rw [← hz, ht.1, decide_eq_true ht.2]; rfl
      have hlt : i < n := by omega
      have e : tkI ⟨x, n, X, tl⟩ = i := lst_eq hj hlt hp
      have hx := h4 i hlt
      have k1 : z1 = X i + 1 := by rw [k1]; exact wrap_in (by unfold inR; omega)
      have k2 : z2 = X i + 1 := by rw [k2]; exact wrap_in (by unfold inR; omega)
      subst k1 k2
      simp only [tkS, tkH, tkE, e, hlt, if_true]
      refine ⟨?_, newP_none rfl⟩
      rw [at_some]
      have : (fun j => if j = i then [i64 (X i + 1)] else [i64 (X j)]) = fun j => [i64 (upI X i (X i + 1) j)] := by
        funext j
        unfold upI
        split <;> rfl
      simp only [go_sem, slF, this]
    · have hp : mayT x X i = false := by
        unfold mayT
        rw [← hz]; exact hf
      refine ⟨i + 1, ⟨by omega, fun j hj2 => ?_⟩, by omega, [], by rw [k1, wrap_in (by unfold inR; omega)]; omega, by simp [goodNames, asg]⟩
      by_cases e : j = i
      · subst e; exact hp
      · exact hj j (by omega)
    · have e : tkI ⟨x, n, X, tl⟩ = n := by
        unfold tkI
        exact lst_full fun j hj2 => hj j (by have hj2 : j < n := hj2; omega)
      have hn : ¬ n < n := Nat.lt_irrefl _
      simp only [tkS, tkH, tkE, e, hn, if_false]
      exact ⟨rfl, newP_none rfl⟩
  · cases hF
/-- A table that is made. -/
theorem newS {key N r1 r2 x : _} {n : Nat} {X : Nat → Int} {m1 : Mem} {v : Nat → AV} (hv : ∀ θ r, renA θ 3 (v r) = v (θ r 0).1) (hk : ∀ G B r, B r → kg G B 3 (v r)) (h1 : look m1 r1 = some (fam1 100 2 [u64 x, .own r2 0 n 1] none)) (h2 : look m1 r2 = some (famN n 1 3 (fun i => [i64 (X i)]) none)) (hne : r1 ≠ r2) (N1 : N ≤ r1) (N2 : N ≤ r2) : NewP key N (v r1) m1 (v key) (some (slF key ⟨x, n, X, noRows⟩)) := by
  have ix1 : ixP [(r1, 0), (r2, 0)] r1 0 = 0 := by simp [ixP]
  have ix2 : ixP [(r1, 0), (r2, 0)] r2 0 = 1 := by simp [ixP, hne]
  refine newP_list [(r1, 0), (r2, 0)] (by simp [hne]) (by simp [N1, N2]) (hk _ _ _ (.inr rfl)) (fun ks hks => ?_) (fun ks hks f r g hf => ?_) (fun f hf => ?_)
  · rw [hv]
    simp only [thL]
    rw [if_neg (by omega)]
  · match f, hf with
    | 0, hf =>
      cases hf
      refine ⟨_, h1, ⟨rfl, rfl, rfl, rfl, fun j hj => ⟨?_, fun c hc => ?_⟩⟩, by simp [fam1]⟩
      · show [u64 x, AV.own key 1 n 1] = [u64 x, AV.own (thL ks key (ixP [(r1, 0), (r2, 0)]) r2 0).1 (thL ks key (ixP [(r1, 0), (r2, 0)]) r2 0).2 n 1]
        simp only [thL]
        rw [if_neg (by omega), ix2]
      · have hc : c ∈ [u64 x, AV.own r2 0 n 1] := hc
        simp only [List.mem_cons, List.not_mem_nil, or_false] at hc
        rcases hc with rfl | rfl
        · trivial
        · exact .inr (by rw [ix2]; rfl)
    | 1, hf =>
      cases hf
      refine ⟨_, h2, ⟨rfl, rfl, rfl, rfl, fun j hj => ⟨rfl, fun c hc => ?_⟩⟩, by simp [famN]⟩
      have hc : c ∈ [i64 (X j)] := hc
      simp only [List.mem_cons, List.not_mem_nil, or_false] at hc
      subst hc; trivial
    | f + 2, hf => simp at hf
  · match f, hf with
    | f + 2, _ => rfl
def hasI (s : SlS) (a g : Int) : Bool := atOk s.x s.n a && (s.G a.toNat == g)
def frS (s : SlS) (a g : Int) : SlS := if hasI s a g = true then ⟨clrX s.x a, s.n, s.G, s.tl⟩ else s
def F44 : OFun SlS := fun s rest => match rest with
  | [.agg [.v (.int .i64 a), .v (.int .i64 g)]] => some ([slOK s], fun _ => i64 (if hasI s a g = true then 0 else 9), some (frS s a g), fun _ => none)
  | _ => none
noncomputable def m44 : MCon := mcO oS F44
theorem mon44 : MConOK Tryz.prog 44 m44 := MConOK.mcO (G := [(87, c87), (60, k60), (92, .wr m92)]) (H := [(5, ⟨[(5, .call)], []⟩)]) (.cons con87 (.cons con60 (.mcons mon92 .nil))) Tryz.func44 fun s rest ob v x' nw hF hok hok' hob => by
  unfold F44 at hF
  split at hF
  · rename_i a g
    cases hF
    obtain ⟨⟨h0, h1⟩, ⟨h2, h3⟩, h4⟩ : slOK s := hob _ (by simp)
    clear hok' hob
    refine ⟨by simp [clean, cleanCs, cleanC], by kernel_rfl, fun key => bodyM_go (rs := [.tmp 4]) rfl rfl ?_⟩
    obtain ⟨x, n, X, tl⟩ := s
    dsimp only at h0 h1 h2 h3 h4
    have htl : tlOK tl := hok
    simp only [oS_fm, slF, go_sem, c87, k60, m92, mkF, htl, F60]
    intro z hz
    have hz : z = false := by rw [hz]; exact beq_false_of_ne (by omega)
    subst hz
    simp only [Bool.false_eq_true, false_imp_iff, true_imp_iff, true_and]
    intro z hz
    have e : hasI ⟨x, n, X, tl⟩ a g = z := hz.symm
    refine ⟨h0, h1, h2, h3, fun hf => ?_, fun ht => ?_⟩
    · simp only [frS, e, hf, Bool.false_eq_true, if_false]
      exact ⟨rfl, newP_none rfl⟩
    · have hb : 0 ≤ a ∧ a < n := by
        have : atOk x n a = true := by
          rw [ht] at hz; exact (Bool.and_eq_true _ _ ▸ hz.symm).1
        unfold atOk at this
        rw [Bool.and_eq_true, decide_eq_true_iff] at this
        exact this.1
      refine ⟨h0, h1, hb.1, by omega, ?_⟩
      simp only [frS, e, ht, if_true]
      exact ⟨rfl, newP_none rfl⟩
  · cases hF
noncomputable def F45 : List AV → Option (List Prop × (Nat → AV) × (Nat → Option Fam))
  | [.v (.int .i64 n)] => if 1 ≤ n ∧ n ≤ 64 then some ([], fun k => .tup [.bx k 0, i64 0], fun k => some (slF k ⟨0, n.toNat, fun _ => 0, noRows⟩)) else some ([], fun _ => .tup [.v (.pointer none), i64 3], fun _ => none)
  | _ => none
noncomputable def m45 : MCon := mcK F45
theorem mon45 : MConOK Tryz.prog 45 m45 := MConOK.mcK (G := []) (H := []) .nil Tryz.func45 fun es ob v nw hF hob => by
  unfold F45 at hF
  split at hF
  · rename_i n
    refine ⟨by simp [clean], by kernel_rfl, fun key => bodyM_go (rs := [.tmp 2, .tmp 3]) rfl rfl ?_⟩
    simp only [go_sem]
    refine ⟨fun h => ?_, fun h => ?_⟩
    · rw [if_neg (by omega)] at hF
      cases hF
      exact newP_none rfl
    · rw [if_pos (by omega)] at hF
      cases hF
      have hb : bytesT Tryz.prog 3 = 8 := by kernel_rfl
      have hN := newS (key := key) (N := 0) (v := fun k => .tup [.bx k 0, i64 0]) (x := 0) (n := n.toNat) (X := fun _ => 0) (r1 := 11) (r2 := 9) (m1 := [(11, fam1 100 2 [u64 0, .own 9 0 n.toNat 1] none), (9, famN n.toNat 1 3 (fun x => [i64 0]) none)]) (fun _ _ => rfl) (fun G B r hr c hc => by
        simp only [List.mem_cons, List.not_mem_nil, or_false] at hc
        rcases hc with rfl | rfl
        · exact hr
        · trivial) rfl rfl (by decide) (Nat.zero_le _) (Nat.zero_le _)
      exact ⟨by omega, by omega, by rw [hb]; omega, hN⟩
  · cases hF
end Go.Ax
end
