/-
  The iterator over a polygon's edges.
-/
import Derived.Test.YtlpbblcepjlfpaaGreatCM4
set_option linter.unusedVariables false
set_option linter.unusedSimpArgs false
section
set_option maxHeartbeats 1000000
set_option maxRecDepth 100000
namespace Go.Ax
open Go.Proofs
def nxt (n i:Nat):Nat:=if i + 1 < n then i + 1 else 0
theorem nxt_lt {n i:Nat} (h:i < n):nxt n i < n:=by unfold nxt; split <;> omega
def edgeE (n:Nat) (g:Nat → List AV) (i:Nat):List AV:=[.agg [i64 (gx g 0 i),i64 (gx g 1 i)],.agg [i64 (gx g 0 (nxt n i)),i64 (gx g 1 (nxt n i))]]
def c161:Con
 | [.rop [.ro n 2 g]] => some ([spots n g,n ≤ 9223372036854775806],.ro n 2 (edgeE n g))
 | _ => none
structure At161 (I:Nat → Prop) (w:World) (J:Nat → World → Prop) (l n:Nat) (v1 x:Value) (i:Nat) (a:Act) (W:World):Prop where
 sz:a.tmps.size = 38
 de:a.defers = []
 t0:a.tmps.getD 0 undef = .func (.yield l) #[] #[]
 t1:a.tmps.getD 1 undef = v1
 t3:a.tmps.getD 3 undef = .int .i64 (IntKind.i64.wrap (n - 1))
 t12:a.tmps.getD 12 undef = x
 t13:a.tmps.getD 13 undef = .int .i64 n
 t14:a.tmps.getD 14 undef = .int .i64 i
 le:i ≤ n
 j:J i W
 same:Same I w W
def sg (g:Nat → List AV):Nat → List AV:=fun i => [i64 (gx g 0 i),i64 (gx g 1 i)]
theorem sg_eq {g:Nat → List AV}:sg g = fun i => [i64 (gx g 0 i),i64 (gx g 1 i)]:=(rfl)
theorem seq161:SeqOK Tryz.prog 161 c161:=by
 intro es ob N k sq hc hob
 unfold c161 at hc
 split at hc
 case h_2 => cases hc
 rename_i n g
 simp only [Option.some.injEq,Prod.mk.injEq,AV.ro.injEq] at hc
 obtain ⟨rfl,rfl,rfl,rfl⟩:=hc
 have hsp:spots n g:=hob _ (by simp)
 have hn:n ≤ 9223372036854775806:=hob _ (by simp)
 intro I w vs nn l J Jx hI hRs hJ hJx h0 hy
 obtain ⟨v1,rest,rfl,hv1,hrest⟩:=hRs.inv
 have:rest = []:=by have:=hrest.1; simpa using this
 subst this
 cases hv1 with
 | rop b o hib hex hr =>
 obtain ⟨x,hx⟩:=hex 0 (by simp)
 have hx:Has w b o x:=hx
 have hib:I b:=hib
 have hxr:R w (.ext I) (.ro n 2 (sg g)) x:=ro_alike (fun i hi => (hsp i hi).1) (hr 0 _ x rfl hx)
 have hvx:R w (.ext I) (.rop [.v x]) (.pointer (some ⟨b,o,none⟩)):=rop1 hib hx .v
 have hvr:R w (.ext I) (.rop [.ro n 2 (sg g)]) (.pointer (some ⟨b,o,none⟩)):=rop1 hib hx hxr
 refine ⟨callFunc_enter Tryz.func161 (by kernel_rfl) rfl,?_⟩
 refine callsIn_of_wp_marks (F:=Fence.wide) Tryz.func161 rfl trivial ?_
 have hm:Tryz.prog.follows .mixedOrders = true:=by kernel_rfl
 rw [show Tryz.f161.ntmps = 38 from by kernel_rfl]
 generalize hes:(#[Value.func (.yield l) #[] #[]] ++ [Value.pointer (some ⟨b,o,none⟩)].toArray:Array Value) = es
 have hes2:es.size = 2:=by rw [← hes]; rfl
 have hes0:es[0]? = some (.func (.yield l) #[] #[]):=by rw [← hes]; rfl
 have hes1:es[1]? = some (.pointer (some ⟨b,o,none⟩)):=by rw [← hes]; rfl
 generalize ha:(Act.mk (es ++ Array.replicate (38 - es.size) undef) []) = a
 have hsz:a.tmps.size = 38:=by rw [← ha]; exact start_size (by omega)
 have hde:a.defers = []:=by rw [← ha]
 have ht0:a.tmps.getD 0 undef = .func (.yield l) #[] #[]:=by rw [← ha]; exact start_get hes0
 have ht1:a.tmps.getD 1 undef = .pointer (some ⟨b,o,none⟩):=by rw [← ha]; exact start_get hes1
 clear ha hes hes0 hes1 hes2
 have keepR:∀ {av:AV} {v:Value} {W:World},R w (.ext I) av v → Same I w W → R W (.ext I) av v:=fun h hs => h.mono (.refl _) hs
 have ltI:∀ {W:World},Same I w W → ∀ b,I b → b < W.heap.size:=fun {W} hs b hb => by
  have h1:=hs b hb
  have h2:=hI b hb
  rw [Array.getElem?_eq_getElem h2] at h1
  exact (Array.getElem?_eq_some_iff.1 h1).1
 -- region 0
 refine wpIn_seq (pieceI (G:=[]) (H:=[]) .nil hm (l:=[(1,.rop [.ro n 2 (sg g)])]) (W:=[7,8,9,10,3]) (K:=fun e s => match e with | .normal => slot s.t 3 = i64 (IntKind.i64.wrap (n - 1)) | _ => False) (by kernel_rfl) (by kernel_rfl) (by kernel_rfl) ?_ hI hsz ?_ ?_)
 ·refine awp_go (K1:=fun e t _ => match e with | .normal => slot t 3 = i64 (IntKind.i64.wrap (n - 1)) | _ => False) ?_
  simp only [go_sem,List.range,List.range.loop]
  exact fun _ => trivial
 ·intro p hp; simp only [List.mem_singleton] at hp; subst hp; dsimp only; rw [ht1]; exact hvr
 intro e s1 ρ1 a1 w1 k1 k2
 cases e with
 | exit j => exact k1.elim
 | ret => exact k1.elim
 | normal =>
 have bel1:RowKit.Below w.heap.size w w1:=k2.rel.below
 have hs1:Same I w w1:=Same.of_below bel1 hI
 have hj1:J 0 w1:=hJ 0 w w1 h0 bel1
 have u0:a1.tmps.getD 0 undef = .func (.yield l) #[] #[]:=(k2.frame 0 (show ¬ (0:Nat) ∈ [7,8,9,10,3] by decide)).trans ht0
 have u1:a1.tmps.getD 1 undef = .pointer (some ⟨b,o,none⟩):=(k2.frame 1 (show ¬ (1:Nat) ∈ [7,8,9,10,3] by decide)).trans ht1
 have u3:=k2.val k1
 have usz:=k2.size
 have ude:a1.defers = []:=k2.defers.trans hde
 clear k1 k2 s1 ρ1 hsz hde ht0 ht1
 -- region 1
 refine wpIn_seq (region_split (G:=[]) (nt:=38) (s:=⟨[(1,.rop [.v x])] ++ anyS (List.range 38),[],0⟩) (ds:=⟨[],(· ∈ [11,12,13,14]),a1.tmps⟩) .nil 2 (by decide) (K:=fun s => slot s.t 12 = .v x) (by kernel_rfl) (fun j hj => hj) ?_ (SR.anew (ltI hs1) (slots_R usz ?_) usz ude (fun _ _ => rfl)) ?_)
 ·refine regP_go (K1:=fun t _ => slot t 12 = .v x) ?_
  simp only [go_sem,List.range,List.range.loop]
 ·intro p hp; simp only [List.mem_singleton] at hp; subst hp; dsimp only; rw [u1]; exact keepR hvx hs1
 intro s2 ρ2 a2 w2 k1 k2
 have bel2:RowKit.Below w1.heap.size w1 w2:=k2.rel.below
 have hs2:Same I w w2:=hs1.trans (Same.of_below bel2 (ltI hs1))
 have hj2:J 0 w2:=hJ 0 w1 w2 hj1 bel2
 have v0:=(k2.frame 0 (show ¬ (0:Nat) ∈ [11,12,13,14] by decide)).trans u0
 have v1:=(k2.frame 1 (show ¬ (1:Nat) ∈ [11,12,13,14] by decide)).trans u1
 have v3:=(k2.frame 3 (show ¬ (3:Nat) ∈ [11,12,13,14] by decide)).trans u3
 have v12:=k2.val k1
 have vsz:=k2.size
 have vde:a2.defers = []:=k2.defers
 clear k1 k2 s2 ρ2 usz ude u0 u1 u3 bel1 bel2 hj1 hs1
 refine region_rest (G:=[]) (nt:=38) (s:=⟨[(12,.ro n 2 (sg g))] ++ anyS (List.range 38),[],0⟩) (ds:=⟨[],(· ∈ [13,14]),a2.tmps⟩) .nil 2 (by decide) (K:=fun s => slot s.t 13 = i64 n ∧ slot s.t 14 = i64 0) (by kernel_rfl) (fun j hj => hj) ?_ (SR.anew (ltI hs2) (slots_R vsz ?_) vsz vde (fun _ _ => rfl)) ?_
 ·refine regP_go (K1:=fun t _ => slot t 13 = i64 n ∧ slot t 14 = i64 0) ?_
  simp only [go_sem,List.range,List.range.loop]
 ·intro p hp; simp only [List.mem_singleton] at hp; subst hp; dsimp only; rw [v12]; exact keepR hxr hs2
 intro s3 ρ3 a3 w3 k1 k2
 have bel3:RowKit.Below w2.heap.size w2 w3:=k2.rel.below
 have hs3:Same I w w3:=hs2.trans (Same.of_below bel3 (ltI hs2))
 have hAt0:At161 I w J l n (.pointer (some ⟨b,o,none⟩)) x 0 a3 w3:=
  ⟨k2.size,k2.defers,(k2.frame 0 (show ¬ (0:Nat) ∈ [13,14] by decide)).trans v0,(k2.frame 1 (show ¬ (1:Nat) ∈ [13,14] by decide)).trans v1,(k2.frame 3 (show ¬ (3:Nat) ∈ [13,14] by decide)).trans v3,
   (k2.frame 12 (show ¬ (12:Nat) ∈ [13,14] by decide)).trans v12,k2.val k1.1,k2.val k1.2,Nat.zero_le _,hJ 0 w2 w3 hj2 bel3,hs3⟩
 clear k1 k2 s3 ρ3 bel3 hs3 hj2 hs2 v0 v1 v3 v12 vsz vde
 refine wpIn_block (wpIn_loop_rounds (n + 1) ?_)
 obtain ⟨i,hAt,hlt⟩:∃ i,At161 I w J l n (.pointer (some ⟨b,o,none⟩)) x i a3 w3 ∧ n - i < n + 1:=⟨0,hAt0,by omega⟩
 clear hAt0
 generalize n + 1 = fuel at hlt ⊢
 induction fuel generalizing i a3 w3 with
 | zero => omega
 | succ fuel ih =>
 rw [roundsIn_succ]
 -- the guard
 refine wpIn_seq (pieceI (G:=[]) (H:=[]) .nil hm (l:=[(13,i64 n),(14,i64 i)]) (W:=[15]) (K:=fun e s => match e with | .normal => slot s.t 15 = bo (decide ((i:Int) < n)) | _ => False) (by kernel_rfl) (by kernel_rfl) (by kernel_rfl) ?_ (ltI hAt.same) hAt.sz ?_ ?_)
 ·refine awp_go (K1:=fun e t _ => match e with | .normal => slot t 15 = bo (decide ((i:Int) < n)) | _ => False) ?_
  simp only [go_sem,List.range,List.range.loop]
 ·intro p hp
  simp only [List.mem_cons,List.mem_singleton,List.not_mem_nil,or_false] at hp
  rcases hp with rfl | rfl
  ·dsimp only; rw [hAt.t13]; exact .v
  ·dsimp only; rw [hAt.t14]; exact .v
 intro e s1 ρ1 a1 w1 k1 k2
 cases e with
 | exit j => exact k1.elim
 | ret => exact k1.elim
 | normal =>
 have bel1:RowKit.Below w3.heap.size w3 w1:=k2.rel.below
 have hs1:Same I w w1:=hAt.same.trans (Same.of_below bel1 (ltI hAt.same))
 have hj1:J i w1:=hJ i w3 w1 hAt.j bel1
 have v15:=k2.val k1
 have d1:a1.defers = []:=k2.defers.trans hAt.de
 have z1:=k2.size
 have f1:∀ j,¬ j ∈ [15] → a1.tmps.getD j undef = a3.tmps.getD j undef:=k2.frame
 clear k1 k2 s1 ρ1
 refine wpIn_seq (wpIn_cond_split (t:=decide ((i:Int) < n)) v15 ?_ ?_)
 case refine_2 =>
  intro hf
  have hin:i = n:=by have:=hAt.le; simp at hf; omega
  subst hin
  refine wpIn_exit ?_
  show LeavesInM Fence.wide nn Tryz.prog Tryz.f161 a1.tmps _ a1.defers .returning w1
  exact leave_nil d1 rfl fun v => ⟨⟨v,rfl⟩,.inl hj1⟩
 intro ht
 have hin:i < n:=by simp at ht; omega
 refine wpIn_skip ?_
 have r0:gx (sg g) 0 i = gx g 0 i:=rfl
 obtain ⟨K1,hK1⟩:∃ K1:Slots → Prop,K1 = fun t => slot t 32 = .v (.func (.yield l) #[] #[]) ∧ [slot t 33,slot t 34] = edgeE n g i:=⟨_,rfl⟩
 refine wpIn_seq (wpIn_block (piece3 (G:=[]) (H:=[]) .nil hm (k:=3) (K1:=K1) (l:=[(0,.v (.func (.yield l) #[] #[])),(1,.rop [.ro n 2 (sg g)]),(3,i64 (IntKind.i64.wrap (n - 1))),(12,.ro n 2 (sg g)),(14,i64 i)]) (by decide) (by kernel_rfl) (by kernel_rfl) rfl ?_ (ltI hs1) z1 ?_ ?_))
 ·show goC Tryz.prog [] [] (preK Tryz.prog [] _ 3 K1) _ [] _
  simp only [go_sem,List.range,List.range.loop,preK_normal,sg_eq]
  have hw:IntKind.i64.wrap ((n:Int) - 1) = n - 1:=wrap_in (by unfold inR; omega)
  subst hK1
  refine ⟨by omega,by omega,by omega,fun h z hz => ?_,fun h => ?_⟩
  ·rw [hw] at h
   have e1:IntKind.i64.wrap ((i:Int) + 1) = i + 1:=wrap_in (by unfold inR; omega)
   rw [e1] at hz
   have e2:z.toNat = i + 1:=by omega
   have e3:nxt n i = i + 1:=by unfold nxt; rw [if_pos (by omega)]
   refine ⟨by omega,by omega,?_⟩
   simp only [slot_cons,Nat.reduceEqDiff,if_true,if_false,reduceIte,true_and,edgeE,e3,e2,gx]
  ·rw [hw] at h
   have e3:nxt n i = 0:=by unfold nxt; rw [if_neg (by omega)]
   simp only [slot_cons,Nat.reduceEqDiff,if_true,if_false,reduceIte,true_and,edgeE,e3,gx]
 ·intro p hp
  simp only [List.mem_cons,List.mem_singleton,List.not_mem_nil,or_false] at hp
  rcases hp with rfl | rfl | rfl | rfl | rfl
  ·dsimp only; rw [f1 0 (by decide),hAt.t0]; exact .v
  ·dsimp only; rw [f1 1 (by decide),hAt.t1]; exact keepR hvr hs1
  ·dsimp only; rw [f1 3 (by decide),hAt.t3]; exact .v
  ·dsimp only; rw [f1 12 (by decide),hAt.t12]; exact keepR hxr hs1
  ·dsimp only; rw [f1 14 (by decide),hAt.t14]; exact .v
 intro t' m' D' ρ' a2 w2 k1 k2
 subst hK1
 have bel2:RowKit.Below w1.heap.size w1 w2:=k2.rel.below
 have hs2:Same I w w2:=hs1.trans (Same.of_below bel2 (ltI hs1))
 have hj2:J i w2:=hJ i w1 w2 hj1 bel2
 have v32:=k2.val k1.1
 have e33:slot t' 33 = .agg [i64 (gx g 0 i),i64 (gx g 1 i)]:=by have:=k1.2; unfold edgeE at this; simpa using (List.cons.inj this).1
 have e34:slot t' 34 = .agg [i64 (gx g 0 (nxt n i)),i64 (gx g 1 (nxt n i))]:=by have:=k1.2; unfold edgeE at this; simpa using (List.cons.inj (List.cons.inj this).2).1
 have hargs:Rs w2 (.ext I) (edgeE n g i) [a2.tmps.getD 33 undef,a2.tmps.getD 34 undef]:=by
  have q33:=k2.slots 33
  have q34:=k2.slots 34
  rw [e33] at q33
  rw [e34] at q34
  exact .cons (plain_sound 3 rfl q33) (.cons (plain_sound 3 rfl q34) .nil)
 have d2:a2.defers = []:=k2.defers.trans d1
 have z2:=k2.size
 have f2:=k2.frame
 clear k1 e33 e34
 rw [show List.range' 3 (Array.size _ - 3) = [3,4] from rfl]
 have z35:35 < a2.tmps.size:=by rw [z2]; decide
 refine wpOps_free rfl rfl (yield_op (l:=l) [a2.tmps.getD 33 undef,a2.tmps.getD 34 undef] rfl v32 (by simp [Act.eval]) (hy i w2 _ hin hj2 hs2 hargs) ?_)
 intro e W hpost
 obtain ⟨r,he,hsm,hjt,hjf⟩:∃ r,e = .returned (.bool r) ∧ Same I w2 W ∧ (r = true → J (i + 1) W) ∧ (r = false → Jx W):=by
  obtain ⟨hsm,⟨rfl,hj⟩ | ⟨rfl,hj⟩⟩:=hpost
  ·exact ⟨true,rfl,hsm,fun _ => hj,fun h => (by cases h)⟩
  ·exact ⟨false,rfl,hsm,fun h => (by cases h),fun _ => hj⟩
 subst he
 refine ⟨_,rfl,?_⟩
 show wpOpsIn (Fw none) nn Tryz.prog _ _ [4] (a2.put (some 35) (.bool r)) W
 have hs4:Same I w W:=hs2.trans hsm
 refine region_rest (G:=[]) (nt:=38) (s:=⟨[(35,bo r)] ++ anyS (List.range 38),[],0⟩) (ds:=⟨[],(· ∈ [36]),(a2.put (some 35) (.bool r)).tmps⟩) .nil 4 (by decide) (K:=fun s => slot s.t 36 = bo (!r)) (by kernel_rfl) (fun j hj => hj) ?_ (SR.anew (ltI hs4) (slots_R ((put_size _ _).trans z2) ?_) ((put_size _ _).trans z2) d2 (fun _ _ => rfl)) ?_
 ·refine regP_go (K1:=fun t _ => slot t 36 = bo (!r)) ?_
  simp only [go_sem,List.range,List.range.loop]
 ·intro p hp; simp only [List.mem_singleton] at hp; subst hp; dsimp only; rw [put_at z35]; exact .v
 intro s5 ρ5 a5 w5 q1 q2
 have bel5:RowKit.Below W.heap.size W w5:=q2.rel.below
 have hs5:Same I w w5:=hs4.trans (Same.of_below bel5 (ltI hs4))
 have d5:a5.defers = []:=q2.defers
 have z5:=q2.size
 have f5:∀ j,¬ j ∈ [36] → 35 ≠ j → a5.tmps.getD j undef = a2.tmps.getD j undef:=fun j h1 h2 => (q2.frame j h1).trans (put_not z35 h2)
 have v36:=q2.val q1
 clear q1 q2
 refine wpIn_cond_split v36 (fun hb => ?_) (fun hb => ?_)
 ·have hr:r = false:=by simpa using hb
  have hjx:Jx w5:=hJx W w5 (hjf hr) bel5
  refine wpIn_ret ?_
  show LeavesInM Fence.wide nn Tryz.prog Tryz.f161 a5.tmps _ a5.defers .returning w5
  exact leave_nil d5 rfl fun v => ⟨⟨v,rfl⟩,.inr hjx⟩
 ·have hr:r = true:=by simpa using hb
  have hj5:J (i + 1) w5:=hJ (i + 1) W w5 (hjt hr) bel5
  refine wpIn_skip ?_
  show Code.wpIn Fence.wide nn Tryz.prog (Code.region 8 _ false) _ a5 w5
  have g2:∀ j,¬ j ∈ [15] → ¬ j ∈ [16,17,18,5,4,19,20,21,22,6,23,24,25,26,27,28,29,30,31,32,33,34,35,36] → a5.tmps.getD j undef = a3.tmps.getD j undef:=fun j h1 h2 => by
   rw [f5 j (fun h => h2 (by simp at h; subst h; decide)) (fun h => h2 (by subst h; decide)),f2 j h2,f1 j h1]
  refine pieceI (G:=[]) (H:=[]) .nil hm (l:=[(14,i64 i)]) (W:=[37,14]) (K:=fun e s => match e with | .normal => slot s.t 14 = i64 (i + 1) | _ => False) (by kernel_rfl) (by kernel_rfl) (by kernel_rfl) ?_ (ltI hs5) z5 ?_ ?_
  ·refine awp_go (K1:=fun e t _ => match e with | .normal => slot t 14 = i64 (i + 1) | _ => False) ?_
   simp only [go_sem,List.range,List.range.loop]
   intro z hz
   have e1:IntKind.i64.wrap ((i:Int) + 1) = i + 1:=wrap_in (by unfold inR; omega)
   rw [hz,e1]
  ·intro p hp; simp only [List.mem_singleton] at hp; subst hp; dsimp only; rw [g2 14 (by decide) (by decide),hAt.t14]; exact .v
  intro e s6 ρ6 a6 w6 q1 q2
  cases e with
  | exit j => exact q1.elim
  | ret => exact q1.elim
  | normal =>
  have bel6:RowKit.Below w5.heap.size w5 w6:=q2.rel.below
  have f6:∀ j,¬ j ∈ [37,14] → a6.tmps.getD j undef = a5.tmps.getD j undef:=q2.frame
  refine ih a6 w6 (i + 1) ⟨q2.size,q2.defers.trans d5,?_,?_,?_,?_,?_,?_,by omega,hJ (i + 1) w5 w6 hj5 bel6,hs5.trans (Same.of_below bel6 (ltI hs5))⟩ (by omega)
  ·rw [f6 0 (by decide),g2 0 (by decide) (by decide),hAt.t0]
  ·rw [f6 1 (by decide),g2 1 (by decide) (by decide),hAt.t1]
  ·rw [f6 3 (by decide),g2 3 (by decide) (by decide),hAt.t3]
  ·rw [f6 12 (by decide),g2 12 (by decide) (by decide),hAt.t12]
  ·rw [f6 13 (by decide),g2 13 (by decide) (by decide),hAt.t13]
  ·have:=q2.val q1; rw [this]; rfl
end Go.Ax
end
section
/-
  Spots: sides, convex spots.
-/
set_option maxHeartbeats 1000000
set_option maxRecDepth 100000
namespace Go.Ax
open Go.Proofs
def c85:Con
 | [.agg [.ro n 2 g]] => some ([],.fn 161 [.rop [.ro n 2 g]])
 | _ => none
theorem con85:ConOK Tryz.prog 85 c85:=ConOK.of (G:=[]) (H:=[]) .nil Tryz.func85 fun l ob r hc hob => by
 unfold c85 at hc
 split at hc
 ·rename_i n g
  cases hc
  refine ⟨by kernel_rfl,fnVC_go (rs:=[.tmp 2]) rfl rfl ?_⟩
  simp only [go_sem]
 ·cases hc
theorem tmod_nxt {n i:Nat} (h:i < n):Int.tmod ((i:Int) + 1) n = (nxt n i:Nat):=by
 unfold nxt
 by_cases e:i + 1 < n
 ·rw [if_pos e,Int.tmod_eq_of_lt (by omega) (by omega)]; rfl
 ·have:i + 1 = n:=by omega
  rw [if_neg e,show (i:Int) + 1 = n by omega,Int.tmod_self]; rfl
def convexS (n:Nat) (X Y:Nat → Int):Bool:=decide (3 ≤ n ∧ (∀ i,i < n → validS (X i) (Y i) = true) ∧ ∀ i,i < n → ∀ k,k < n → k ≠ i → k ≠ nxt n i → 0 < turnS (X i) (Y i) (X (nxt n i)) (Y (nxt n i)) (X k) (Y k))
theorem convexS_iff {n:Nat} {X Y:Nat → Int}:convexS n X Y = true ↔ 3 ≤ n ∧ (∀ i,i < n → validS (X i) (Y i) = true) ∧ ∀ i,i < n → ∀ k,k < n → k ≠ i → k ≠ nxt n i → 0 < turnS (X i) (Y i) (X (nxt n i)) (Y (nxt n i)) (X k) (Y k):=by unfold convexS; simp
def c37:Con
 | [.ro n 2 g] => some ([spots n g,n ≤ 9223372036854775806],bo (convexS n (gx g 0) (gx g 1)))
 | _ => none
theorem vc37 (n:Nat) (X Y:Nat → Int) (hX:∀ i,i < n → inR (X i) ∧ inR (Y i)) (hn:n ≤ 9223372036854775806):fnVC Tryz.prog [(50,c50),(86,c86),(85,c85),(1000000 + 161,c161)] [] Tryz.f37 [.ro n 2 fun i => [i64 (X i),i64 (Y i)]] (· = bo (convexS n X Y)):=by
 refine fnVC_go (rs:=[.cell 2 4]) rfl rfl ?_
 simp only [go_sem,c50,c85]
 intro z hz
 have hg:spots n fun i => [i64 (X i),i64 (Y i)]:=fun i hi => ⟨rfl,hX i hi⟩
 have hzz:z = true ↔ ∀ i,i < n → validS (X i) (Y i) = true:=by rw [hz]; exact fairS_iff
 refine ⟨fun _ => hg,fun _ => by omega,fun h => false_of fun hc => ?_,fun h => ?_⟩
 ·have:=convexS_iff.1 hc
  rcases h with h | h
  ·omega
  ·rw [hzz.2 this.2.1] at h; cases h
 have hv:=hzz.1 h.2
 have h3:3 ≤ n:=by omega
 let good:Nat → Prop:=fun i => ∀ k,k < n → k ≠ i → k ≠ nxt n i → 0 < turnS (X i) (Y i) (X (nxt n i)) (Y (nxt n i)) (X k) (Y k)
 refine rangeC_go (fun (i:Nat) => i ≤ n ∧ ∀ j,j < i → good j) (fun i => i) (fun i => [(10,fam1 3 1 [i64 i] none)]) [1,0] [19,20,4,5,21,22,23,24,25,26,27,7,6,28,29,30,31,32,33,34,35,36,37,38,39,40,41,42,43,44,45,46,47,23,48,49] 0 0 (N:=n) (sq:=edgeE n fun i => [i64 (X i),i64 (Y i)]) (ob:=[spots n fun i => [i64 (X i),i64 (Y i)],n ≤ 9223372036854775806]) rfl (by simp [hg,hn]) (by kernel_rfl) rfl (fun i _ => ⟨rfl,rfl⟩) ⟨Nat.zero_le _,fun j hj => by omega⟩ rfl ⟨[],?_,?_,?_⟩ ?_ ?_
 ·simp only [go_sem]
 ·simp only [go_sem]
 ·simp [goodNames,asg]
 ·intro i hi hlt
  simp only [go_sem,edgeE]
  have hnl:nxt n i < n:=nxt_lt hlt
  have hin:i < n:=hlt
  refine loopC_go (fun (k:Nat) => k ≤ n ∧ ∀ q,q < k → q ≠ i → q ≠ nxt n i → 0 < turnS (X i) (Y i) (X (nxt n i)) (Y (nxt n i)) (X q) (Y q)) (fun k => n - k) (fun k => [(23,i64 k)]) (fun _ => []) [17,15,10,1,0] [24,25,26,27,7,6,28,29,30,31,32,33,34,35,36,37,38,39,40,41,42,43,44,45,46,47,23] 0 (by kernel_rfl) ?_ ⟨Nat.zero_le _,fun j hj => by omega⟩ ?_ ?_
  ·intro x _; simp [goodNames]
  ·simp only [go_sem]
  ·intro k hk
   have hn0:((n:Int) = 0) = False:=eq_false (by omega)
   simp only [go_sem,c86,hn0]
   have ei:IntKind.i64.wrap ((i:Int) + 1) = i + 1:=wrap_in (by unfold inR; omega)
   have ek:k < n → IntKind.i64.wrap ((k:Int) + 1) = k + 1:=fun h => wrap_in (by unfold inR; omega)
   have bn:∀ x y:Nat,((x:Int) != (y:Int)) = true ↔ x ≠ y:=fun x y => by rw [bne_iff_ne]; omega
   refine ⟨fun hkn => ⟨by omega,hkn,fun z1 hz1 z2 hz2 t ht => ?_⟩,fun hkn z1 hz1 => ⟨i + 1,⟨by omega,fun j hj => ?_⟩,rfl,[],?_,?_⟩⟩
   ·rw [ei] at hz1
    rw [hz1,tmod_nxt hin] at hz2
    subst hz2
    have hkn':k < n:=by omega
    refine ⟨fun _ => hv i hin,fun _ => hv _ hnl,fun _ => hv k hkn',fun hb => false_of fun hc => ?_,fun hb z3 hz3 => ⟨k + 1,⟨by omega,fun q hq h1 h2 => ?_⟩,by omega,?_⟩⟩
    ·have:=(convexS_iff.1 hc).2.2 i hin k hkn' ((bn _ _).1 hb.1.1) ((bn _ _).1 hb.1.2)
     omega
    ·by_cases e:q = k
     ·subst e
      rw [(bn q i).2 h1,(bn q (nxt n i)).2 h2] at hb
      simp at hb
      omega
     ·exact hk.2 q (by omega) h1 h2
    ·rw [hz3,ek hkn']; omega
   ·by_cases e:j = i
    ·subst e
     intro q hq h1 h2
     exact hk.2 q (by omega) h1 h2
    ·exact hi.2 j (by omega)
   ·simp only [go_sem]
    rw [hz1,ei]; rfl
   ·simp [goodNames,asg]
 ·intro i hi he
  simp only [go_sem]
  refine (convexS_iff.2 ⟨h3,hv,fun j hj => ?_⟩).symm ▸ rfl
  exact hi.2 j (by omega)
theorem con37:ConOK Tryz.prog 37 c37:=ConOK.go (G:=[(50,c50),(86,c86),(85,c85),(1000000 + 161,c161)]) (H:=[]) (.cons con50 (.cons con86 (.cons con85 (.seq seq161 .nil)))) Tryz.func37 fun l ob r hc hob => by
 unfold c37 at hc
 split at hc
 ·rename_i n g
  cases hc
  have hs:spots n g:=hob _ (by simp)
  refine ⟨[.ro n 2 fun i => [i64 (gx g 0 i),i64 (gx g 1 i)]],fun w I vs h => Rs_one (fun v => ro_alike fun i hi => (hs i hi).1) h,by kernel_rfl,vc37 n _ _ (fun i hi => (hs i hi).2) (hob _ (by simp))⟩
 ·cases hc
end Go.Ax
end
section
/-
  Spots: what the reference says; copies of spots.
-/
set_option maxHeartbeats 1000000
set_option maxRecDepth 100000
namespace Go.Ax
open Go.Proofs
def c71:Con
 | [.ro n 2 g,.ro m 2 g'] => some ([spots n g,spots m g',n ≤ 9223372036854775806,m ≤ 9223372036854775806],bo (decide (n = m ∧ ∀ i,i < n → gx g 0 i = gx g' 0 i ∧ gx g 1 i = gx g' 1 i)))
 | _ => none
theorem vc71 (n m:Nat) (X Y Z T:Nat → Int) (hn:n ≤ 9223372036854775806):fnVC Tryz.prog [] [] Tryz.f71 [.ro n 2 fun i => [i64 (X i),i64 (Y i)],.ro m 2 fun i => [i64 (Z i),i64 (T i)]] (· = bo (decide (n = m ∧ ∀ i,i < n → X i = Z i ∧ Y i = T i))):=by
 refine fnVC_go (rs:=[.tmp 4]) rfl rfl ?_
 simp only [go_sem]
 refine ⟨fun h => ?_,fun h => ?_⟩
 ·refine (decide_eq_false fun hc => ?_).symm
  rw [bne_iff_ne] at h; omega
 refine loopC_go (fun (i:Nat) => i ≤ n ∧ ∀ j,j < i → X j = Z j ∧ Y j = T j) (fun i => n - i) (fun i => [(5,i64 i)]) (fun _ => []) [] [11,12,13,14,17,18,19,20,21,22,23,24,25,4,15,16,5] 0 (by kernel_rfl) ?_ ⟨Nat.zero_le _,fun j hj => by omega⟩ ?_ ?_
 ·intro x _; simp [goodNames]
 ·simp only [go_sem]
 ·intro i hi
  simp only [go_sem]
  have hnm:n = m:=by
   have:¬ ((n:Int) != m) = true:=by rw [h]; simp
   rw [bne_iff_ne] at this; omega
  subst hnm
  refine ⟨fun hin => ⟨by omega,hin,by omega,hin,fun hb => ?_,fun hb z hz => ⟨i + 1,⟨by omega,fun j hj => ?_⟩,by omega,?_⟩⟩,fun hin => ?_⟩
  ·refine (decide_eq_false fun hc => ?_).symm
   have:=hc.2 i (by omega)
   rw [this.1,this.2] at hb
   simp at hb
  ·by_cases e:j = i
   ·subst e; exact ⟨by simpa using hb.1,by simpa using hb.2⟩
   ·exact hi.2 j (by omega)
  ·rw [hz,wrap_in (by unfold inR; omega)]; rfl
  ·exact (decide_eq_true ⟨rfl,fun j hj => hi.2 j (by omega)⟩).symm
theorem con71:ConOK Tryz.prog 71 c71:=ConOK.go (G:=[]) (H:=[]) .nil Tryz.func71 fun l ob r hc hob => by
 unfold c71 at hc
 split at hc
 ·rename_i n g m g'
  cases hc
  have hs:spots n g:=hob _ (by simp)
  have hs':spots m g':=hob _ (by simp)
  refine ⟨[.ro n 2 fun i => [i64 (gx g 0 i),i64 (gx g 1 i)],.ro m 2 fun i => [i64 (gx g' 0 i),i64 (gx g' 1 i)]],fun w I vs h => ?_,by kernel_rfl,vc71 n m _ _ _ _ (hob _ (by simp))⟩
  obtain ⟨x,xs,rfl,h1,h2⟩:=h.inv
  exact .cons (ro_alike (fun i hi => (hs i hi).1) h1) (Rs_one (fun v => ro_alike fun i hi => (hs' i hi).1) h2)
 ·cases hc
end Go.Ax
end
section
/-
  Forms: what is valid; copies; which spots a form has.
-/
set_option maxHeartbeats 1000000
set_option maxRecDepth 100000
namespace Go.Ax
open Go.Proofs
abbrev formA (k x y r:Int) (n:Nat) (g:Nat → List AV):AV:=.agg [i64 k,i64 x,i64 y,i64 r,.ro n 2 g]
theorem Rs_form {w:World} {ρ:Env} {k x y r:Int} {n:Nat} {g:Nat → List AV} (hs:spots n g) (v:Value) (h:R w ρ (formA k x y r n g) v):R w ρ (formA k x y r n fun i => [i64 (gx g 0 i),i64 (gx g 1 i)]) v:=by
 cases h with
 | agg hl hh =>
  refine .agg hl fun i a z h1 h2 => ?_
  match i with
  | 0 => exact hh 0 a z h1 h2
  | 1 => exact hh 1 a z h1 h2
  | 2 => exact hh 2 a z h1 h2
  | 3 => exact hh 3 a z h1 h2
  | 4 =>
   simp at h1; subst h1
   exact ro_alike (fun i hi => (hs i hi).1) (hh 4 _ z rfl h2)
  | j + 5 => simp at h1
theorem Rs_poly {w:World} {ρ:Env} {n:Nat} {g:Nat → List AV} (hs:spots n g) (v:Value) (h:R w ρ (.agg [.ro n 2 g]) v):R w ρ (.agg [.ro n 2 fun i => [i64 (gx g 0 i),i64 (gx g 1 i)]]) v:=by
 cases h with
 | agg hl hh =>
  refine .agg hl fun i a z h1 h2 => ?_
  match i with
  | 0 =>
   simp at h1; subst h1
   exact ro_alike (fun i hi => (hs i hi).1) (hh 0 _ z rfl h2)
  | j + 1 => simp at h1
theorem Rs_two {w:World} {ρ:Env} {a a' b b':AV} {vs:List Value} (h:∀ v,R w ρ a v → R w ρ a' v) (k:∀ v,R w ρ b v → R w ρ b' v) (hR:Rs w ρ [a,b] vs):Rs w ρ [a',b'] vs:=by
 obtain ⟨x,xs,rfl,h1,h2⟩:=hR.inv
 exact .cons (h x h1) (Rs_one k h2)
def sameF (k x y r:Int) (n:Nat) (g:Nat → List AV) (k' x' y' r':Int) (n':Nat) (g':Nat → List AV):Bool:=
 (k == k') && (x == x' && y == y') && (r == r') && decide (n = n' ∧ ∀ i,i < n → gx g 0 i = gx g' 0 i ∧ gx g 1 i = gx g' 1 i)
def c22:Con
 | [.agg [.v (.int .i64 k),.v (.int .i64 x),.v (.int .i64 y),.v (.int .i64 r),.ro n 2 g],.agg [.v (.int .i64 k'),.v (.int .i64 x'),.v (.int .i64 y'),.v (.int .i64 r'),.ro n' 2 g']] => some ([spots n g,spots n' g',n ≤ 9223372036854775806,n' ≤ 9223372036854775806],bo (sameF k x y r n g k' x' y' r' n' g'))
 | _ => none
theorem con22:ConOK Tryz.prog 22 c22:=ConOK.of (G:=[(71,c71)]) (H:=[]) (.cons con71 .nil) Tryz.func22 fun l ob r hc hob => by
 unfold c22 at hc
 split at hc
 ·rename_i k x y r n g k' x' y' r' n' g'
  cases hc
  have hs:spots n g:=hob _ (by simp)
  have hs':spots n' g':=hob _ (by simp)
  have hn:n ≤ 9223372036854775806:=hob _ (by simp)
  have hn':n' ≤ 9223372036854775806:=hob _ (by simp)
  refine ⟨by kernel_rfl,fnVC_go (rs:=[.tmp 4]) rfl rfl ?_⟩
  simp only [go_sem,c71]
  intro z hz
  refine ⟨fun _ => hs,fun _ => hs',fun _ => hn,fun _ => hn',?_⟩
  rw [hz]; rfl
 ·cases hc
def c105:Con
 | [.agg [.v (.int .i64 a),.v (.int .i64 b)],.agg [.v (.int .i64 c),.v (.int .i64 d)]] => some ([],i64 (IntKind.i64.wrap (IntKind.i64.wrap (a * c) + IntKind.i64.wrap (b * d))))
 | _ => none
theorem con105:ConOK Tryz.prog 105 c105:=ConOK.of (G:=[]) (H:=[]) .nil Tryz.func105 fun l ob r hc hob => by
 unfold c105 at hc
 split at hc
 ·cases hc
  refine ⟨by kernel_rfl,fnVC_go (rs:=[.tmp 4]) rfl rfl ?_⟩
  simp only [go_sem]
  intro z h z1 h1 z2 h2
  rw [h2,h1,h]
 ·cases hc
theorem wrap_inR (x:Int):inR (IntKind.i64.wrap x):=by rw [wrap_i64]; unfold inR; omega
theorem fair1 {a b:Int} {g:Nat → List AV} (h0:g 0 = [i64 a,i64 b]):fairS 1 (gx g 0) (gx g 1) = validS a b:=by
 rw [Bool.eq_iff_iff,fairS_iff]
 constructor
 ·intro h
  have k0:=h 0 (by omega)
  simp only [gx,h0,gi_0,gi_1] at k0
  exact k0
 ·intro h i hi
  have:i = 0:=by omega
  subst this
  simp only [gx,h0,gi_0,gi_1]; exact h
theorem spots1 {a b:Int} {g:Nat → List AV} (h0:g 0 = [i64 a,i64 b]) (ha:inR a) (hb:inR b):spots 1 g:=by
 intro i hi
 have:i = 0:=by omega
 subst this
 simp only [gx,h0,gi_0,gi_1]; exact ⟨trivial,ha,hb⟩
def checkS (k x y r:Int) (n:Nat) (X Y:Nat → Int):Int:=
 if k ≠ 1 ∧ k ≠ 2 then 8
 else if ¬ (validS x y = true ∧ ∀ i,i < n → validS (X i) (Y i) = true) then 3
 else if k = 1 then (if 1 ≤ r ∧ (2097152 < r ∨ checkBoxS (x - r) (y - r) (x + r) (y + r) ≠ 0) then 3 else if r < 1 ∨ 0 < n then 5 else 0)
 else if r ≠ 0 ∨ 8 < n ∨ convexS n X Y = false then 5 else 0
instance {n:Nat} {X Y:Nat → Int}:Decidable (∀ i,i < n → validS (X i) (Y i) = true):=inferInstance
def c10:Con
 | [.agg [.v (.int .i64 k),.v (.int .i64 x),.v (.int .i64 y),.v (.int .i64 r),.ro n 2 g]] => some ([spots n g,n ≤ 9223372036854775806,inR x,inR y,inR r],i64 (checkS k x y r n (gx g 0) (gx g 1)))
 | _ => none
theorem con10:ConOK Tryz.prog 10 c10:=ConOK.of (G:=[(15,c15),(37,c37),(50,c50),(51,c51)]) (H:=[]) (.cons con15 (.cons con37 (.cons con50 (.cons con51 .nil)))) Tryz.func10 fun l ob r hc hob => by
 unfold c10 at hc
 split at hc
 ·rename_i k x y r n g
  cases hc
  have hs:spots n g:=hob _ (by simp)
  have hn:n ≤ 9223372036854775806:=hob _ (by simp)
  have hx:inR x:=hob _ (by simp)
  have hy:inR y:=hob _ (by simp)
  have hr:inR r:=hob _ (by simp)
  refine ⟨by kernel_rfl,fnVC_go (rs:=[.tmp 2]) rfl rfl ?_⟩
  simp only [go_sem,c15,c37,c50,c51]
  have hfa:fairS 1 (gx (rowsOf 2 [AV.v (Value.int IntKind.i64 x),AV.v (Value.int IntKind.i64 y)]) 0) (gx (rowsOf 2 [AV.v (Value.int IntKind.i64 x),AV.v (Value.int IntKind.i64 y)]) 1) = validS x y:=fair1 rfl
  have hsp:spots 1 (rowsOf 2 [AV.v (Value.int IntKind.i64 x),AV.v (Value.int IntKind.i64 y)]):=spots1 rfl hx hy
  rw [hfa]
  refine ⟨fun h => ?_,fun h z hz => ⟨hsp,fun z1 hz1 => ⟨fun _ => hs,fun _ => by omega,fun h3 => ?_,fun h3 z2 hz2 => ⟨fun _ => wrap_inR _,fun _ => wrap_inR _,fun _ => wrap_inR _,fun _ => wrap_inR _,fun a b => ⟨a,b⟩,fun h4 => ?_,fun h4 => ⟨fun a b => ⟨a,b⟩,fun h5 => ?_,fun h5 => ⟨fun a b => ⟨a,b⟩,fun z3 hz3 => ⟨fun _ => hs,fun _ => hn,fun a b => ⟨a,b⟩,fun h6 => ?_,fun h6 => ?_⟩⟩⟩⟩⟩⟩⟩
  ·have h1:k ≠ 1 ∧ k ≠ 2:=by simpa using h
   unfold checkS; rw [if_pos h1]
  ·have h1:¬ (k ≠ 1 ∧ k ≠ 2):=by simp at h; omega
   have h2:¬ (validS x y = true ∧ ∀ i,i < n → validS (gx g 0 i) (gx g 1 i) = true):=by
    rintro ⟨v1,v2⟩
    rw [← fairS_iff] at v2
    rw [v1] at hz; rw [v2] at hz1
    simp [hz,hz1] at h3
   unfold checkS; rw [if_neg h1,if_pos h2]
  all_goals
   have h1:¬ (k ≠ 1 ∧ k ≠ 2):=by simp at h; omega
   have v1:validS x y = true:=by rw [← hz]; exact h3.1
   have v2:∀ i,i < n → validS (gx g 0 i) (gx g 1 i) = true:=by rw [← fairS_iff,← hz1]; exact h3.2
   have v3:=validS_iff.1 v1
   have h2:¬ ¬ (validS x y = true ∧ ∀ i,i < n → validS (gx g 0 i) (gx g 1 i) = true):=fun hn => hn ⟨v1,v2⟩
   have hb:0 < r → ¬ 2097152 < r → z2 = checkBoxS (x - r) (y - r) (x + r) (y + r):=fun a b => by
    rw [hz2,wrap_in (x:=x - r) (by unfold inR; omega),wrap_in (x:=y - r) (by unfold inR; omega),wrap_in (x:=x + r) (by unfold inR; omega),wrap_in (x:=y + r) (by unfold inR; omega)]
   unfold checkS
   rw [if_neg h1,if_neg h2]
  ·simp only [beq_iff_eq,bne_iff_ne,ne_eq] at h4
   rw [if_pos h4.1.1,if_pos]
   refine ⟨by omega,?_⟩
   by_cases hr2:2097152 < r
   ·exact .inl hr2
   ·rw [← hb h4.1.2 hr2]; exact .inr (h4.2.resolve_left hr2)
  all_goals
   have h4':k = 1 → ¬ (1 ≤ r ∧ (2097152 < r ∨ checkBoxS (x - r) (y - r) (x + r) (y + r) ≠ 0)):=by
    rintro hk ⟨a,b⟩
    have a':0 < r:=by omega
    simp only [hk,beq_self_eq_true,Bool.true_and,a',decide_true,Bool.or_eq_false_iff,decide_eq_false_iff_not,bne_eq_false_iff_eq] at h4
    rw [← hb a' h4.1] at b
    rcases b with b | b
    ·exact h4.1 b
    ·exact b h4.2
  ·have hk:k = 1:=by simpa using h5.1
   rw [if_pos hk,if_neg (h4' hk),if_pos (by have:=h5.2; omega)]
  ·have hk:k ≠ 1:=by simpa using h6.1
   rw [if_neg hk,if_pos]
   rw [← hz3]
   have:=h6.2
   simp only [bne_iff_ne] at this
   rcases this with (a | a) | a
   ·exact .inl a
   ·exact .inr (.inl (by omega))
   ·exact .inr (.inr a)
  ·by_cases hk:k = 1
   ·simp only [hk,beq_self_eq_true,Bool.true_and,Bool.or_eq_false_iff,decide_eq_false_iff_not] at h5
    rw [if_pos hk,if_neg (h4' hk),if_neg (by omega)]
   ·have hk':(k == 1) = false:=by simpa using hk
    rw [if_neg hk,if_neg]
    rw [← hz3]
    simp only [hk',Bool.not_false,Bool.true_and,Bool.or_eq_false_iff,bne_eq_false_iff_eq,decide_eq_false_iff_not,Bool.not_eq_false'] at h6
    rintro (a | a | a)
    ·exact a h6.1.1
    ·exact h6.1.2 (by omega)
    ·rw [h6.2] at a; cases a
 ·cases hc
end Go.Ax
end
section
/-
  Forms: the reference's check; which spots a form has.
-/
set_option maxHeartbeats 1000000
set_option maxRecDepth 100000
namespace Go.Ax
open Go.Proofs
def c53:Con
 | [.agg [.v (.int .i64 k),.v (.int .i64 x),.v (.int .i64 y),.v (.int .i64 r),.ro n 2 g]] => some ([spots n g,n ≤ 9223372036854775806,inR x,inR y,inR r],if checkS k x y r n (gx g 0) (gx g 1) = 0 then (if k = 1 then .iface 107 (.agg [i64 x,i64 y,i64 r]) else .iface 112 (.agg [.ro n 2 g])) else .v .nilIface)
 | _ => none
theorem con53:ConOK Tryz.prog 53 c53:=ConOK.of (G:=[(10,c10)]) (H:=[]) (.cons con10 .nil) Tryz.func53 fun l ob rr hc hob => by
 unfold c53 at hc
 split at hc
 ·rename_i k x y r n g
  cases hc
  have hs:spots n g:=hob _ (by simp)
  have hn:n ≤ 9223372036854775806:=hob _ (by simp)
  have hx:inR x:=hob _ (by simp)
  have hy:inR y:=hob _ (by simp)
  have hr:inR r:=hob _ (by simp)
  refine ⟨by kernel_rfl,fnVC_go (rs:=[.tmp 2]) rfl rfl ?_⟩
  simp only [go_sem,c10]
  intro z hz
  refine ⟨hs,hn,hx,hy,hr,fun h => ?_,fun h => ⟨fun h2 => ?_,fun h2 => ?_⟩⟩
  ·rw [if_neg]; rw [← hz]; simpa using h
  ·rw [if_pos (by rw [← hz]; simpa using h),if_pos (by simpa using h2)]
  ·rw [if_pos (by rw [← hz]; simpa using h),if_neg (by simpa using h2)]
 ·cases hc
def dist2 (x y px py:Int):Int:=(px - x) * (px - x) + (py - y) * (py - y)
theorem sq0 (a:Int):0 ≤ a * a:=by rw [← Int.natAbs_mul_self]; exact Int.natCast_nonneg _
theorem dist2_bd {x y px py:Int} (h1:validS x y = true) (h2:validS px py = true):0 ≤ (px - x) * (px - x) ∧ (px - x) * (px - x) ≤ 17592186044416 ∧ 0 ≤ (py - y) * (py - y) ∧ (py - y) * (py - y) ≤ 17592186044416 ∧ sm (px - x) ∧ sm (py - y):=by
 rw [validS_iff] at h1 h2
 have a1:sm (px - x):=by unfold sm; omega
 have a2:sm (py - y):=by unfold sm; omega
 have b1:=sm_mul a1 a1
 have b2:=sm_mul a2 a2
 have c1:0 ≤ (px - x) * (px - x):=sq0 _
 have c2:0 ≤ (py - y) * (py - y):=sq0 _
 exact ⟨c1,b1.2,c2,b2.2,a1,a2⟩
theorem dist2_wrap {x y px py:Int} (h1:validS x y = true) (h2:validS px py = true) :
  IntKind.i64.wrap (IntKind.i64.wrap (IntKind.i64.wrap (px - x) * IntKind.i64.wrap (px - x)) + IntKind.i64.wrap (IntKind.i64.wrap (py - y) * IntKind.i64.wrap (py - y))) = dist2 x y px py:=by
 obtain ⟨c1,b1,c2,b2,a1,a2⟩:=dist2_bd h1 h2
 unfold sm at a1 a2
 rw [wrap_in (x:=px - x) (by unfold inR; omega),wrap_in (x:=py - y) (by unfold inR; omega),wrap_in (x:=(px - x) * (px - x)) (by unfold inR; omega),wrap_in (x:=(py - y) * (py - y)) (by unfold inR; omega),wrap_in (by unfold inR; omega)]
 rfl
theorem sq_wrap {r:Int} (h:sm r):IntKind.i64.wrap (r * r) = r * r:=by
 have:=sm_mul h h
 exact wrap_in (by unfold inR; omega)
def c233:Con
 | [.agg [.v (.int .i64 x),.v (.int .i64 y),.v (.int .i64 r)],.agg [.v (.int .i64 px),.v (.int .i64 py)]] => some ([validS x y = true,validS px py = true,sm r],bo (decide (dist2 x y px py ≤ r * r)))
 | _ => none
theorem con233:ConOK Tryz.prog 233 c233:=ConOK.of (G:=[(104,c104),(105,c105)]) (H:=[]) (.cons con104 (.cons con105 .nil)) Tryz.func233 fun l ob rr hc hob => by
 unfold c233 at hc
 split at hc
 ·rename_i x y r px py
  cases hc
  have h1:validS x y = true:=hob _ (by simp)
  have h2:validS px py = true:=hob _ (by simp)
  have h3:sm r:=hob _ (by simp)
  refine ⟨by kernel_rfl,fnVC_go (rs:=[.tmp 4]) rfl rfl ?_⟩
  simp only [go_sem,c104,c105]
  intro z hz z1 hz1 z2 hz2 z3 hz3
  subst hz hz1
  rw [hz2,hz3,dist2_wrap h1 h2,sq_wrap h3]
 ·cases hc
def inS (n:Nat) (X Y:Nat → Int) (px py:Int):Bool:=decide (∀ i,i < n → 0 ≤ turnS (X i) (Y i) (X (nxt n i)) (Y (nxt n i)) px py)
theorem inS_iff {n:Nat} {X Y:Nat → Int} {px py:Int}:inS n X Y px py = true ↔ ∀ i,i < n → 0 ≤ turnS (X i) (Y i) (X (nxt n i)) (Y (nxt n i)) px py:=by unfold inS; simp
def c106:Con
 | [.agg [.ro n 2 g],.agg [.v (.int .i64 px),.v (.int .i64 py)]] => some ([spots n g,n ≤ 9223372036854775806,∀ i,i < n → validS (gx g 0 i) (gx g 1 i) = true,validS px py = true],bo (inS n (gx g 0) (gx g 1) px py))
 | _ => none
theorem vc106 (n:Nat) (X Y:Nat → Int) (px py:Int) (hX:∀ i,i < n → inR (X i) ∧ inR (Y i)) (hn:n ≤ 9223372036854775806) (hv:∀ i,i < n → validS (X i) (Y i) = true) (hp:validS px py = true):fnVC Tryz.prog [(86,c86),(85,c85),(1000000 + 161,c161)] [] Tryz.f106 [.agg [.ro n 2 fun i => [i64 (X i),i64 (Y i)]],.agg [i64 px,i64 py]] (· = bo (inS n X Y px py)):=by
 refine fnVC_go (rs:=[.cell 4 4]) rfl rfl ?_
 simp only [go_sem,c85]
 have hg:spots n fun i => [i64 (X i),i64 (Y i)]:=fun i hi => ⟨rfl,hX i hi⟩
 refine rangeC_go (fun (i:Nat) => i ≤ n ∧ ∀ j,j < i → 0 ≤ turnS (X j) (Y j) (X (nxt n j)) (Y (nxt n j)) px py) (fun i => i) (fun _ => []) [2,1,0] [9,10,5,6,11,12,13,14,15] 0 0 (N:=n) (sq:=edgeE n fun i => [i64 (X i),i64 (Y i)]) (ob:=[spots n fun i => [i64 (X i),i64 (Y i)],n ≤ 9223372036854775806]) rfl (by simp [hg,hn]) (by kernel_rfl) rfl (fun i _ => ⟨rfl,rfl⟩) ⟨Nat.zero_le _,fun j hj => by omega⟩ rfl ⟨[],?_,?_,?_⟩ ?_ ?_
 ·simp only [go_sem]
 ·simp only [go_sem]
 ·simp [goodNames,asg]
 ·intro i hi hlt
  simp only [go_sem,edgeE,c86]
  refine fun z hz => ⟨hv i hlt,hv _ (nxt_lt hlt),hp,fun h => false_of fun hc => ?_,fun h => ⟨i + 1,⟨by have:i < n:=hlt; omega,fun j hj => ?_⟩,rfl,[],?_⟩⟩
  ·have:=inS_iff.1 hc i hlt; omega
  ·by_cases e:j = i
   ·subst e; omega
   ·exact hi.2 j (by omega)
  ·simp [goodNames]
 ·intro i hi he
  simp only [go_sem]
  exact (inS_iff.2 fun j hj => hi.2 j (by omega)).symm
theorem con106:ConOK Tryz.prog 106 c106:=ConOK.go (G:=[(86,c86),(85,c85),(1000000 + 161,c161)]) (H:=[]) (.cons con86 (.cons con85 (.seq seq161 .nil))) Tryz.func106 fun l ob rr hc hob => by
 unfold c106 at hc
 split at hc
 ·rename_i n g px py
  cases hc
  have hs:spots n g:=hob _ (by simp)
  refine ⟨[.agg [.ro n 2 fun i => [i64 (gx g 0 i),i64 (gx g 1 i)]],.agg [i64 px,i64 py]],fun w I vs h => Rs_two (Rs_poly hs) (fun v h => h) h,by kernel_rfl,vc106 n _ _ px py (fun i hi => (hs i hi).2) (hob _ (by simp)) (hob _ (by simp)) (hob _ (by simp))⟩
 ·cases hc
def holdsS (k x y r:Int) (n:Nat) (X Y:Nat → Int) (px py:Int):Bool:=if k = 1 then decide (dist2 x y px py ≤ r * r) else inS n X Y px py
theorem check_1 {k x y r:Int} {n:Nat} {X Y:Nat → Int} (h:checkS k x y r n X Y = 0):(k = 1 ∨ k = 2) ∧ validS x y = true ∧ (∀ i,i < n → validS (X i) (Y i) = true) ∧ (k = 1 → 1 ≤ r ∧ r ≤ 2097152 ∧ checkBoxS (x - r) (y - r) (x + r) (y + r) = 0 ∧ n = 0) ∧ (k ≠ 1 → r = 0 ∧ n ≤ 8 ∧ convexS n X Y = true):=by
 unfold checkS at h
 split at h
 ·omega
 ·split at h
  ·omega
  ·rename_i h1 h2
   have h2:validS x y = true ∧ ∀ i,i < n → validS (X i) (Y i) = true:=Decidable.of_not_not h2
   split at h
   ·rename_i h3
    split at h
    ·omega
    ·rename_i h4
     split at h
     ·omega
     ·rename_i h5
      refine ⟨.inl h3,h2.1,h2.2,fun _ => ⟨by omega,by omega,?_,by omega⟩,fun h => absurd h3 h⟩
      by_cases e:checkBoxS (x - r) (y - r) (x + r) (y + r) = 0
      ·exact e
      ·exact absurd ⟨by omega,.inr e⟩ h4
   ·rename_i h3
    split at h
    ·omega
    ·rename_i h5
     refine ⟨by omega,h2.1,h2.2,fun h => absurd h h3,fun _ => ⟨by omega,by omega,?_⟩⟩
     cases hc:convexS n X Y
     ·exact absurd (.inr (.inr hc)) h5
     ·rfl
end Go.Ax
end
section
/-
  Forms: their boxes; the law of spots in forms.
-/
set_option maxHeartbeats 2000000
set_option maxRecDepth 100000
namespace Go.Ax
open Go.Proofs
def c232:Con
 | [.agg [.v (.int .i64 x),.v (.int .i64 y),.v (.int .i64 r)]] => some ([],.agg [i64 (IntKind.i64.wrap (x - r)),i64 (IntKind.i64.wrap (y - r)),i64 (IntKind.i64.wrap (x + r)),i64 (IntKind.i64.wrap (y + r))])
 | _ => none
theorem con232:ConOK Tryz.prog 232 c232:=ConOK.of (G:=[(51,c51)]) (H:=[]) (.cons con51 .nil) Tryz.func232 fun l ob r hc hob => by
 unfold c232 at hc
 split at hc
 ·cases hc
  refine ⟨by kernel_rfl,fnVC_go (rs:=[.cell 2 47]) rfl rfl ?_⟩
  simp only [go_sem,c51]
  intro z h z1 h1 z2 h2 z3 h3
  subst h h1 h2 h3
  rfl
 ·cases hc
def bxS (n:Nat) (X Y:Nat → Int):Nat → Int
 | 0 => mnS X n
 | 1 => mnS Y n
 | 2 => mxS X n
 | _ => mxS Y n
def upto (i:Nat) (Z:Nat → Int) (j:Nat):Int:=if j < i then Z j else 0
theorem upto_zero {Z:Nat → Int} {j:Nat}:upto 0 Z j = 0:=by unfold upto; rw [if_neg (by omega)]
theorem upto_self {i:Nat} {Z:Nat → Int}:upto (i + 1) Z i = Z i:=by unfold upto; rw [if_pos (by omega)]
theorem upto_lt {i j:Nat} {Z:Nat → Int} (h:j < i):upto i Z j = Z j:=by unfold upto; rw [if_pos h]
theorem upto_ne {i j:Nat} {Z:Nat → Int} (h:j ≠ i):upto (i + 1) Z j = upto i Z j:=by
 unfold upto
 by_cases e:j < i
 ·rw [if_pos e,if_pos (by omega)]
 ·rw [if_neg e,if_neg (by omega)]
theorem mnS_upto {Z:Nat → Int}:∀ {n m:Nat},n ≤ m → mnS (upto m Z) n = mnS Z n
 | 0,m,_ => rfl
 | n + 1,m,h => by
  simp only [mnS]
  rw [mnS_upto (Z:=Z) (n:=n) (by omega),upto_lt (i:=m) (j:=n) (by omega),upto_lt (i:=m) (j:=0) (by omega)]
theorem mxS_upto {Z:Nat → Int}:∀ {n m:Nat},n ≤ m → mxS (upto m Z) n = mxS Z n
 | 0,m,_ => rfl
 | n + 1,m,h => by
  simp only [mxS]
  rw [mxS_upto (Z:=Z) (n:=n) (by omega),upto_lt (i:=m) (j:=n) (by omega),upto_lt (i:=m) (j:=0) (by omega)]
def c237:Con
 | [.agg [.ro n 2 g]] => some ([spots n g,n ≤ 1000,∀ i,i < n → validS (gx g 0 i) (gx g 1 i) = true],.agg [i64 (bxS n (gx g 0) (gx g 1) 0),i64 (bxS n (gx g 0) (gx g 1) 1),i64 (bxS n (gx g 0) (gx g 1) 2),i64 (bxS n (gx g 0) (gx g 1) 3)])
 | _ => none
theorem vc237 (n:Nat) (X Y:Nat → Int) (hX:∀ i,i < n → inR (X i) ∧ inR (Y i)) (hn:n ≤ 1000) (hv:∀ i,i < n → validS (X i) (Y i) = true):fnVC Tryz.prog [(29,c29),(51,c51)] [] Tryz.f237 [.agg [.ro n 2 fun i => [i64 (X i),i64 (Y i)]]] (· = .agg [i64 (bxS n X Y 0),i64 (bxS n X Y 1),i64 (bxS n X Y 2),i64 (bxS n X Y 3)]):=by
 refine fnVC_go (rs:=[.cell 2 47]) rfl rfl ?_
 simp only [go_sem]
 refine ⟨by omega,by omega,by rw [show bytesT Tryz.prog 47 = 32 by kernel_rfl]; omega,?_⟩
 refine loopC_go (fun (i:Nat) => i ≤ n) (fun i => n - i) (fun i => [(13,i64 i)]) (fun i => [(5,famN n 4 47 (fun j => [i64 (upto i X j),i64 (upto i Y j),i64 (upto i X j),i64 (upto i Y j)]) none)]) [1,0] [14,15,16,17,5,4,18,19,20,21,22,23,13] 0 (by kernel_rfl) ?_ (Nat.zero_le _) ?_ ?_
 ·intro x _; simp [goodNames,asg]
 ·simp only [go_sem,upto_zero,implies_true]
 ·intro i hi
  simp only [go_sem,c29,c51]
  refine ⟨fun hin => ?_,fun hin => ?_⟩
  ·have hin':i < n:=by omega
   have v:=validS_iff.1 (hv i hin')
   refine ⟨by omega,hin,fun z hz z1 hz1 z2 hz2 z3 hz3 => ⟨by omega,hin,hin',fun z4 hz4 => ⟨i + 1,by omega,by omega,?_,fun j hj => ?_⟩⟩⟩
   ·rw [hz4,wrap_in (by unfold inR; omega)]; rfl
   ·rw [wrap_in (by unfold inR; omega)] at hz hz1 hz2 hz3
    by_cases e:j = i
    ·subst e
     rw [if_pos rfl]
     simp only [go_sem,upto_self]
     omega
    ·rw [if_neg e]
     have:∀ Z,upto (i + 1) Z j = upto i Z j:=fun Z => upto_ne e
     simp only [go_sem,this]
  ·have e:i = n:=by omega
   subst e
   have ok:okB i (upto i X) (upto i Y) (upto i X) (upto i Y):=fun j hj => by
    rw [upto_lt hj,upto_lt hj]
    have v:=validS_iff.1 (hv j hj)
    unfold checkBoxS
    rw [if_pos ⟨hv j hj,hv j hj⟩,if_neg (by omega)]
   have hb:boxes i (fun j => [i64 (upto i X j),i64 (upto i Y j),i64 (upto i X j),i64 (upto i Y j)]):=fun j hj => by
    simp only [gx,gi_0,gi_1,gi_2,gi_3,upto_lt hj]
    exact ⟨trivial,(hX j hj).1,(hX j hj).2,(hX j hj).1,(hX j hj).2⟩
   obtain ⟨j1,j2,j3,j4⟩:=joinS_ok ok
   intro z hz z1 hz1 z2 hz2 z3 hz3
   have hz:z = joinS i (upto i X) (upto i Y) (upto i X) (upto i Y) 0:=hz
   have hz1:z1 = joinS i (upto i X) (upto i Y) (upto i X) (upto i Y) 1:=hz1
   have hz2:z2 = joinS i (upto i X) (upto i Y) (upto i X) (upto i Y) 2:=hz2
   have hz3:z3 = joinS i (upto i X) (upto i Y) (upto i X) (upto i Y) 3:=hz3
   rw [j1,mnS_upto (Nat.le_refl _)] at hz
   rw [j2,mnS_upto (Nat.le_refl _)] at hz1
   rw [j3,mxS_upto (Nat.le_refl _)] at hz2
   rw [j4,mxS_upto (Nat.le_refl _)] at hz3
   subst hz hz1 hz2 hz3
   exact ⟨hb,by omega,rfl⟩
theorem con237:ConOK Tryz.prog 237 c237:=ConOK.go (G:=[(29,c29),(51,c51)]) (H:=[]) (.cons con29 (.cons con51 .nil)) Tryz.func237 fun l ob r hc hob => by
 unfold c237 at hc
 split at hc
 ·rename_i n g
  cases hc
  have hs:spots n g:=hob _ (by simp)
  exact ⟨[.agg [.ro n 2 fun i => [i64 (gx g 0 i),i64 (gx g 1 i)]]],fun w I vs h => Rs_one (Rs_poly hs) h,by kernel_rfl,vc237 n _ _ (fun i hi => (hs i hi).2) (hob _ (by simp)) (hob _ (by simp))⟩
 ·cases hc
def boxS (k x y r:Int) (n:Nat) (X Y:Nat → Int) (q:Nat):Int:=
 if checkS k x y r n X Y = 0 then (if k = 1 then (match q with
  | 0 => x - r
  | 1 => y - r
  | 2 => x + r
  | _ => y + r) else bxS n X Y q) else 0
def c12:Con
 | [.agg [.v (.int .i64 k),.v (.int .i64 x),.v (.int .i64 y),.v (.int .i64 r),.ro n 2 g]] => some ([spots n g,n ≤ 9223372036854775806,inR x,inR y,inR r],.agg [i64 (boxS k x y r n (gx g 0) (gx g 1) 0),i64 (boxS k x y r n (gx g 0) (gx g 1) 1),i64 (boxS k x y r n (gx g 0) (gx g 1) 2),i64 (boxS k x y r n (gx g 0) (gx g 1) 3)])
 | _ => none
theorem boxS_disc {k x y r:Int} {n:Nat} {X Y:Nat → Int} {q:Nat} (hc:checkS k x y r n X Y = 0) (hk:k = 1):boxS k x y r n X Y q = match q with
  | 0 => x - r
  | 1 => y - r
  | 2 => x + r
  | _ => y + r:=by unfold boxS; rw [if_pos hc,if_pos hk]
theorem boxS_poly {k x y r:Int} {n:Nat} {X Y:Nat → Int} {q:Nat} (hc:checkS k x y r n X Y = 0) (hk:k ≠ 1):boxS k x y r n X Y q = bxS n X Y q:=by unfold boxS; rw [if_pos hc,if_neg hk]
theorem boxS_none {k x y r:Int} {n:Nat} {X Y:Nat → Int} {q:Nat} (hc:¬ checkS k x y r n X Y = 0):boxS k x y r n X Y q = 0:=by unfold boxS; rw [if_neg hc]
theorem con12:ConOK Tryz.prog 12 c12:=ConOK.of (G:=[(53,c53),(237,c237),(232,c232)]) (H:=[]) (.cons con53 (.cons con237 (.cons con232 .nil))) Tryz.func12 fun l ob rr hc hob => by
 unfold c12 at hc
 split at hc
 ·rename_i k x y r n g
  cases hc
  have hs:spots n g:=hob _ (by simp)
  have hn:n ≤ 9223372036854775806:=hob _ (by simp)
  have hx:inR x:=hob _ (by simp)
  have hy:inR y:=hob _ (by simp)
  have hr:inR r:=hob _ (by simp)
  refine ⟨by kernel_rfl,fnVC_go (rs:=[.cell 2 47]) rfl rfl ?_⟩
  simp only [go_sem,c53,c237,c232]
  refine ⟨fun hc => ?_,fun hc => ⟨hs,hn,hx,hy,hr,fun h => h.elim,fun _ => by simp only [boxS_none hc]⟩⟩
  obtain ⟨hk,v1,v2,h1,h2⟩:=check_1 hc
  refine ⟨fun hk1 => ⟨hs,hn,hx,hy,hr,fun _ z hz z1 hz1 z2 hz2 z3 hz3 => ?_,fun h => by cases h⟩,fun hk1 => ⟨hs,hn,hx,hy,hr,fun _ z hz z1 hz1 z2 hz2 z3 hz3 => ⟨hs,by have:=h2 hk1; omega,v2,?_⟩,fun h => by cases h⟩⟩
  ·have h1:=h1 hk1
   have v:=validS_iff.1 v1
   rw [wrap_in (by unfold inR; omega)] at hz hz1 hz2 hz3
   simp only [boxS_disc hc hk1]
   rw [hz,hz1,hz2,hz3]
  ·simp only [boxS_poly hc hk1]
   rw [hz,hz1,hz2,hz3]
 ·cases hc
end Go.Ax
end
section
/-
  Sums of vectors, the reference's.
-/
set_option maxHeartbeats 4000000
set_option maxRecDepth 100000
namespace Go.Ax
open Go.Proofs
section
variable {N M q:Nat} {σ:Names} {m rows:Mem} {x:Fam} {a b:AV} {n sz f k r:Nat} {ty:TypeId} {get:Nat → List AV}
def emptyF (x:Fam):Prop:=∀ f,(x f).n = 0 ∧ (x f).g = none
def fitQ (N M:Nat) (σ:Names) (m:Mem) (x:Fam):Option Nat → Prop
 | some k => fitF N M σ x (look m k)
 | none => emptyF x
theorem fitRows_z:fitRows N M σ m [] = True:=(rfl)
theorem fitRows_c:fitRows N M σ m ((q,x) :: rows) = (fitQ N M σ m x (asg σ q) ∧ fitRows N M σ m rows):=by
 show ((match asg σ q with
  | some k => ∃ y,look m k = some y ∧ ∀ f,fitRow N M σ (x f) (y f)
  | none => ∀ f,(x f).n = 0 ∧ (x f).g = none) ∧ _) = _
 unfold fitQ fitF emptyF
 cases asg σ q with
 | none => rfl
 | some k => cases h:look m k <;> simp [h]
theorem fitQ_some:fitQ N M σ m x (some k) = fitF N M σ x (look m k):=(rfl)
theorem fitQ_none:fitQ N M σ m x none = emptyF x:=(rfl)
theorem emptyF_N:emptyF (famN n sz ty get none) = (n = 0):=by
 unfold emptyF
 apply propext
 constructor
 ·intro h; have:=(h 0).1; simpa [famN] using this
 ·intro h f
  subst h
  unfold famN
  split <;> exact ⟨rfl,rfl⟩
def ownA (f n sz:Nat) (a:AV):Option Nat → Prop
 | some k => a = .own k f n sz
 | none => n = 0 ∧ a = .v (.slice none 0 0)
theorem fit1_ownA:fit1 N M σ (.own q f n sz) a = (q < M ∧ ownA f n sz a (asg σ q)):=by
 simp only [fit1,ownA]
 cases asg σ q <;> rfl
theorem ownA_some:ownA f n sz (.own r f k sz) (some r) = (k = n):=by simp [ownA]
theorem ownA_none:ownA f n sz (.v (.slice none 0 0)) none = (n = 0):=by simp [ownA]
theorem asg_z:asg [] r = some r:=(rfl)
theorem asg_c {y:Option Nat}:asg ((k,y) :: σ) r = if k = r then y else asg σ r:=(rfl)
end
attribute [go_sem] fitRows_z fitRows_c fitQ_some fitQ_none emptyF_N fit1_ownA ownA_some ownA_none asg_z asg_c
end Go.Ax
end
section
/-
  Rays.
-/
set_option maxHeartbeats 4000000
set_option maxRecDepth 100000
namespace Go.Ax
open Go.Proofs
def nSq (a:Nb):Nb:=(sqV (whV a.1),sqF (whV a.1) (whF a.1 a.2))
def nCl (x l h:Nb):Nb:=(max (whV l.1) (min (whV x.1) (whV h.1)),whF l.1 l.2 || (whF x.1 x.2 || whF h.1 h.2))
theorem sqV_rg {v:Int}:rg (sqV v):=by
 unfold sqV; split
 ·unfold rg; omega
 ·exact ftV_rg _
theorem nPos_rg {a:Nb} (h:inR a.1):rg (nPos a).1:=by
 have:=whV_rg h
 unfold nPos rg at *; dsimp only; split <;> omega
def dmT (mx my sx sy r:Int):Nb:=
 let u:=(unS (nRat sx 256).1 (nRat sx 256).2 (nRat sy 256).1 (nRat sy 256).2).2
 let h:=nDot u.1 (nRat my 256) (nNeg u.2) (nRat mx 256)
 let s:=nSq (nPos (nSub (nMul (nRat r 256) (nRat r 256)) (nMul h h)))
 nCl (nDiv (nSub (nNeg (nDot u.1 (nRat mx 256) u.2 (nRat my 256))) s) (nHyp (nRat sx 256) (nRat sy 256))) (0,false) (nInt 1)
def dmN (mx my sx sy r:Int):Nb × Nb:=
 let t:=dmT mx my sx sy r
 let a:=nAdd (nRat mx 256) (nMul (nRat sx 256) t)
 let b:=nAdd (nRat my 256) (nMul (nRat sy 256) t)
 (unS a.1 a.2 b.1 b.2).2
def dmB (x y r fx fy tx ty:Int):Prop:=¬ dist2 x y tx ty ≤ r * r ∧ ((0 ≤ (fx - x) * (tx - fx) + (fy - y) * (ty - fy) ∨ (tx - fx) * (tx - fx) + (ty - fy) * (ty - fy) ≤ -((fx - x) * (tx - fx) + (fy - y) * (ty - fy))) ∨
 ((fx - x) * (tx - fx) + (fy - y) * (ty - fy)) * ((fx - x) * (tx - fx) + (fy - y) * (ty - fy)) < ((tx - fx) * (tx - fx) + (ty - fy) * (ty - fy)) * ((fx - x) * (fx - x) + (fy - y) * (fy - y) - r * r))
end Go.Ax
end
section
/-
  Numbers and vectors ars they are computed with: contracts whose results are whole numbers and whole vectors; the reference's vectors.
-/
set_option maxHeartbeats 4000000
set_option maxRecDepth 100000
namespace Go.Ax
open Go.Proofs
abbrev V2:=Nb × Nb
def nbA (a:Nb):AV:=.agg [i64 a.1,bo a.2]
def veA (a:V2):AV:=.agg [i64 a.1.1,bo a.1.2,i64 a.2.1,bo a.2.2]
def unA (u:Bool × V2):AV:=.tup [.agg [i64 u.2.1.1,bo u.2.1.2,i64 u.2.2.1,bo u.2.2.2],bo u.1]
theorem bnd_nb {a:Nb}:bnd (nbA a) = .agg [i64 a.1,bo a.2]:=(rfl)
theorem bnd_ve {a:V2}:bnd (veA a) = .agg [i64 a.1.1,bo a.1.2,i64 a.2.1,bo a.2.2]:=(rfl)
theorem bnd_un {u:Bool × V2}:bnd (unA u) = .tup [.agg [i64 u.2.1.1,bo u.2.1.2,i64 u.2.2.1,bo u.2.2.2],bo u.1]:=(rfl)
theorem plain_nb {a:Nb}:plain 3 (nbA a) = true:=(rfl)
theorem plain_ve {a:V2}:plain 3 (veA a) = true:=(rfl)
theorem plain_un {u:Bool × V2}:plain 3 (unA u) = true:=(rfl)
theorem etaN {a:Nb}:(a.1,a.2) = a:=(rfl)
theorem etaV {a:V2}:(a.1,a.2) = a:=(rfl)
theorem gx_rows1 {a b:Int} {e f:Bool}:gx (rowsOf 2 [i64 a,bo e,i64 b,bo f]) 0 0 = a:=(rfl)
theorem gx_rows2 {a b:Int} {e f:Bool}:gx (rowsOf 2 [i64 a,bo e,i64 b,bo f]) 0 1 = b:=(rfl)
theorem gb_rows1 {a b:Int} {e f:Bool}:gb (rowsOf 2 [i64 a,bo e,i64 b,bo f]) 1 0 = e:=(rfl)
theorem gb_rows2 {a b:Int} {e f:Bool}:gb (rowsOf 2 [i64 a,bo e,i64 b,bo f]) 1 1 = f:=(rfl)
section
variable {a b c d:Int} {e f p q:Bool}
theorem gx4_1:gx (rowsOf 4 [i64 a,bo e,i64 b,bo f,i64 c,bo p,i64 d,bo q]) 0 0 = a:=(rfl)
theorem gx4_2:gx (rowsOf 4 [i64 a,bo e,i64 b,bo f,i64 c,bo p,i64 d,bo q]) 2 0 = b:=(rfl)
theorem gx4_3:gx (rowsOf 4 [i64 a,bo e,i64 b,bo f,i64 c,bo p,i64 d,bo q]) 0 1 = c:=(rfl)
theorem gx4_4:gx (rowsOf 4 [i64 a,bo e,i64 b,bo f,i64 c,bo p,i64 d,bo q]) 2 1 = d:=(rfl)
theorem gb4_1:gb (rowsOf 4 [i64 a,bo e,i64 b,bo f,i64 c,bo p,i64 d,bo q]) 1 0 = e:=(rfl)
theorem gb4_2:gb (rowsOf 4 [i64 a,bo e,i64 b,bo f,i64 c,bo p,i64 d,bo q]) 3 0 = f:=(rfl)
theorem gb4_3:gb (rowsOf 4 [i64 a,bo e,i64 b,bo f,i64 c,bo p,i64 d,bo q]) 1 1 = p:=(rfl)
theorem gb4_4:gb (rowsOf 4 [i64 a,bo e,i64 b,bo f,i64 c,bo p,i64 d,bo q]) 3 1 = q:=(rfl)
theorem vecs_rows:vecs 2 (rowsOf 4 [i64 a,bo e,i64 b,bo f,i64 c,bo p,i64 d,bo q]) = (inR a ∧ inR b ∧ inR c ∧ inR d):=by
 apply propext
 constructor
 ·intro h; exact ⟨(h 0 (by omega)).2.1,(h 0 (by omega)).2.2,(h 1 (by omega)).2.1,(h 1 (by omega)).2.2⟩
 ·rintro ⟨h1,h2,h3,h4⟩; exact vecs2 rfl rfl h1 h2 h3 h4
theorem nums_rows:nums 2 (rowsOf 2 [i64 a,bo e,i64 b,bo f]) = (inR a ∧ inR b):=by
 apply propext
 constructor
 ·intro h; exact ⟨(h 0 (by omega)).2,(h 1 (by omega)).2⟩
 ·rintro ⟨h1,h2⟩; exact nums2 rfl rfl h1 h2
theorem vecs_row1:vecs 1 (rowsOf 4 [i64 a,bo e,i64 b,bo f]) = (inR a ∧ inR b):=by
 apply propext
 constructor
 ·intro h; exact ⟨(h 0 (by omega)).2.1,(h 0 (by omega)).2.2⟩
 ·rintro ⟨h1,h2⟩; exact vecs1 rfl h1 h2
theorem nums_row1:nums 1 (rowsOf 2 [i64 a,bo e]) = inR a:=by
 apply propext
 constructor
 ·intro h; exact (h 0 (by omega)).2
 ·intro h; exact nums1 rfl h
end
def nAbs (a:Nb):Nb:=(ab (whV a.1),whF a.1 a.2)
def nMx (a b:Nb):Nb:=(if whV a.1 < whV b.1 then whV b.1 else whV a.1,whF a.1 a.2 || whF b.1 b.2)
def nMn (a b:Nb):Nb:=(if whV b.1 < whV a.1 then whV b.1 else whV a.1,whF a.1 a.2 || whF b.1 b.2)
def vLoc (x y:Int):V2:=(nRat x 256,nRat y 256)
def vAdd (a b:V2):V2:=(nAdd a.1 b.1,nAdd a.2 b.2)
def vSub (a b:V2):V2:=(nSub a.1 b.1,nSub a.2 b.2)
def vScale (v:V2) (k:Nb):V2:=(nMul v.1 k,nMul v.2 k)
def vDot (a b:V2):Nb:=nDot a.1 b.1 a.2 b.2
def vCross (a b:V2):Nb:=nDot a.1 b.2 (nNeg a.2) b.1
def vLen (a:V2):Nb:=nHyp a.1 a.2
def vOf (x y:Int):V2:=(nInt x,nInt y)
def vUnit (v:V2):Bool × V2:=unS v.1.1 v.1.2 v.2.1 v.2.2
def vApply (r v:V2):V2:=(nDot r.1 v.1 (nNeg r.2) v.2,nDot r.2 v.1 r.1 v.2)
def vNorm (a b c d:Int):V2:=(vUnit (vOf (d - b) (-(c - a)))).2
theorem inR_of {x:Int} (h:rg x):inR x = True:=eq_true (rg_inR h)
section
variable {a b c d:Nb} {u v:V2} {x y:Int}
theorem iMul:inR (nMul a b).1 = True:=inR_of nMul_rg
theorem iDiv:inR (nDiv a b).1 = True:=inR_of nDiv_rg
theorem iInt:inR (nInt x).1 = True:=inR_of nInt_rg
theorem iAdd:inR (nAdd a b).1 = True:=inR_of nAdd_rg
theorem iSub:inR (nSub a b).1 = True:=inR_of nSub_rg
theorem iRat:inR (nRat x y).1 = True:=inR_of nRat_rg
theorem iDot:inR (nDot a b c d).1 = True:=inR_of nDot_rg
theorem iHyp:inR (nHyp a b).1 = True:=inR_of nHyp_rg
theorem iSq:inR (nSq a).1 = True:=inR_of sqV_rg
theorem iNeg (h:inR a.1):inR (nNeg a).1 = True:=inR_of (nNeg_rg h)
theorem iPos (h:inR a.1):inR (nPos a).1 = True:=inR_of (nPos_rg h)
theorem iAbs (h:inR a.1):inR (nAbs a).1 = True:=by
 refine inR_of ?_
 have:=whV_rg h
 unfold nAbs ab rg at *; dsimp only; split <;> omega
theorem iMx (h:inR a.1) (k:inR b.1):inR (nMx a b).1 = True:=by
 refine inR_of ?_
 have h1:=whV_rg h
 have h2:=whV_rg k
 unfold nMx rg at *; dsimp only; split <;> omega
theorem iMn (h:inR a.1) (k:inR b.1):inR (nMn a b).1 = True:=by
 refine inR_of ?_
 have h1:=whV_rg h
 have h2:=whV_rg k
 unfold nMn rg at *; dsimp only; split <;> omega
theorem iCl (h:inR a.1) (k:inR b.1) (l:inR c.1):inR (nCl a b c).1 = True:=by
 refine inR_of ?_
 have h1:=whV_rg h
 have h2:=whV_rg k
 have h3:=whV_rg l
 unfold nCl rg at *; dsimp only; omega
theorem iLoc1:inR (vLoc x y).1.1 = True:=iRat
theorem iLoc2:inR (vLoc x y).2.1 = True:=iRat
theorem iVAdd1:inR (vAdd u v).1.1 = True:=iAdd
theorem iVAdd2:inR (vAdd u v).2.1 = True:=iAdd
theorem iVSub1:inR (vSub u v).1.1 = True:=iSub
theorem iVSub2:inR (vSub u v).2.1 = True:=iSub
theorem iScale1:inR (vScale u a).1.1 = True:=iMul
theorem iScale2:inR (vScale u a).2.1 = True:=iMul
theorem iVDot:inR (vDot u v).1 = True:=iDot
theorem iVCross:inR (vCross u v).1 = True:=iDot
theorem iLen:inR (vLen u).1 = True:=iHyp
theorem iOf1:inR (vOf x y).1.1 = True:=iInt
theorem iOf2:inR (vOf x y).2.1 = True:=iInt
theorem iUnit1:inR (vUnit u).2.1.1 = True:=inR_of unS_rg.1
theorem iUnit2:inR (vUnit u).2.2.1 = True:=inR_of unS_rg.2
theorem iApply1:inR (vApply u v).1.1 = True:=iDot
theorem iApply2:inR (vApply u v).2.1 = True:=iDot
theorem iNorm1 {z t:Int}:inR (vNorm x y z t).1.1 = True:=iUnit1
theorem iNorm2 {z t:Int}:inR (vNorm x y z t).2.1 = True:=iUnit2
theorem inR_0:inR 0 = True:=eq_true (by unfold inR; omega)
theorem inR_1:inR 1 = True:=eq_true (by unfold inR; omega)
theorem inR_2:inR 2 = True:=eq_true (by unfold inR; omega)
theorem inR_m1:inR (-1) = True:=eq_true (by unfold inR; omega)
theorem inR_256:inR 256 = True:=eq_true (by unfold inR; omega)
theorem inR_one:inR 4294967296 = True:=eq_true (by unfold inR; omega)
end
attribute [go_sem] bnd_nb bnd_ve bnd_un plain_nb plain_ve plain_un etaN etaV gx_rows1 gx_rows2 gb_rows1 gb_rows2 gx4_1 gx4_2 gx4_3 gx4_4 gb4_1 gb4_2 gb4_3 gb4_4 vecs_rows nums_rows vecs_row1 nums_row1
attribute [go_sem] iMul iDiv iInt iAdd iSub iRat iDot iHyp iSq iNeg iPos iAbs iMx iMn iCl iLoc1 iLoc2 iVAdd1 iVAdd2 iVSub1 iVSub2 iScale1 iScale2 iVDot iVCross iLen iOf1 iOf2 iUnit1 iUnit2 iApply1 iApply2 iNorm1 iNorm2 inR_0 inR_1 inR_2 inR_m1 inR_256 inR_one
def k127:Con
 | [.v (.int .i64 n)] => some ([inR n],nbA (nInt n))
 | _ => none
theorem kon127:ConOK Tryz.prog 93 k127:=(show c93 = k127 by kernel_rfl) ▸ con93
def k179:Con
 | [.agg [.v (.int .i64 v),.v (.bool f)]] => some ([inR v],nbA (nNeg (v,f)))
 | _ => none
theorem kon179:ConOK Tryz.prog 127 k179:=(show c127 = k179 by kernel_rfl) ▸ con127
def k129:Con
 | [.agg [.v (.int .i64 v),.v (.bool f)],.agg [.v (.int .i64 u),.v (.bool e)]] => some ([inR v,inR u],nbA (nMul (v,f) (u,e)))
 | _ => none
theorem kon129:ConOK Tryz.prog 95 k129:=(show c95 = k129 by kernel_rfl) ▸ con95
def k160:Con
 | [.agg [.v (.int .i64 v),.v (.bool f)],.agg [.v (.int .i64 u),.v (.bool e)]] => some ([inR v,inR u],nbA (nSub (v,f) (u,e)))
 | _ => none
theorem kon160:ConOK Tryz.prog 112 k160:=(show c112 = k160 by kernel_rfl) ▸ con112
def k132:Con
 | [.v (.int .i64 a),.v (.int .i64 b)] => some ([inR a,inR b],nbA (nRat a b))
 | _ => none
theorem kon132:ConOK Tryz.prog 98 k132:=(show c98 = k132 by kernel_rfl) ▸ con98
def k54:Con
 | [.v (.int .i64 a),.v (.int .i64 b)] => some ([inR a,inR b],nbA (nRat a b))
 | _ => none
theorem kon54:ConOK Tryz.prog 35 k54:=(show c35 = k54 by kernel_rfl) ▸ con35
def k168:Con
 | [.agg [.v (.int .i64 v),.v (.bool f)],.agg [.v (.int .i64 u),.v (.bool e)]] => some ([inR v,inR u],nbA (nDiv (v,f) (u,e)))
 | _ => none
theorem kon168:ConOK Tryz.prog 115 k168:=(show c115 = k168 by kernel_rfl) ▸ con115
def k251:Con
 | [.agg [.v (.int .i64 v),.v (.bool f)]] => some ([inR v],nbA (nSq (v,f)))
 | _ => none
theorem kon251:ConOK Tryz.prog 236 k251:=(show c236 = k251 by kernel_rfl) ▸ con236
def k171:Con
 | [.agg [.v (.int .i64 x),.v (.bool f)],.agg [.v (.int .i64 l),.v (.bool p)],.agg [.v (.int .i64 h),.v (.bool q)]] => some ([inR x,inR l,inR h],nbA (nCl (x,f) (l,p) (h,q)))
 | _ => none
theorem kon171:ConOK Tryz.prog 118 k171:=(show c118 = k171 by kernel_rfl) ▸ con118
def k167:Con
 | [.agg [.v (.int .i64 x),.v (.bool f)]] => some ([inR x],nbA (nPos (x,f)))
 | _ => none
theorem kon167:ConOK Tryz.prog 111 k167:=(show c111 = k167 by kernel_rfl) ▸ con111
def k63:Con
 | [.agg [.v (.int .i64 x),.v (.int .i64 y)]] => some ([inR x,inR y],veA (vLoc x y))
 | _ => none
theorem kon63:ConOK Tryz.prog 47 k63:=(show c47 = k63 by kernel_rfl) ▸ con47
def k162:Con
 | [.v (.int .i64 x)] => some ([inR x],nbA (nRat x 256))
 | _ => none
theorem kon162:ConOK Tryz.prog 113 k162:=(show c113 = k162 by kernel_rfl) ▸ con113
def k161:Con
 | [.agg [.v (.int .i64 x),.v (.bool e),.v (.int .i64 y),.v (.bool f)]] => some ([inR x,inR y],nbA (vLen ((x,e),(y,f))))
 | _ => none
theorem kon161:ConOK Tryz.prog 114 k161:=(show c114 = k161 by kernel_rfl) ▸ con114
def k169:Con
 | [.agg [.v (.int .i64 x),.v (.bool e),.v (.int .i64 y),.v (.bool f)],.agg [.v (.int .i64 k),.v (.bool g)]] => some ([inR x,inR y,inR k],veA (vScale ((x,e),(y,f)) (k,g)))
 | _ => none
theorem kon169:ConOK Tryz.prog 116 k169:=(show c116 = k169 by kernel_rfl) ▸ con116
def k178:Con
 | [.agg [.v (.int .i64 x),.v (.bool e),.v (.int .i64 y),.v (.bool f)],.agg [.v (.int .i64 z),.v (.bool g),.v (.int .i64 t),.v (.bool h)]] => some ([inR x,inR y,inR z,inR t],nbA (vDot ((x,e),(y,f)) ((z,g),(t,h))))
 | _ => none
theorem kon178:ConOK Tryz.prog 126 k178:=(show c126 = k178 by kernel_rfl) ▸ con126
def k250:Con
 | [.agg [.v (.int .i64 x),.v (.bool e),.v (.int .i64 y),.v (.bool f)],.agg [.v (.int .i64 z),.v (.bool g),.v (.int .i64 t),.v (.bool h)]] => some ([inR x,inR y,inR z,inR t],nbA (vCross ((x,e),(y,f)) ((z,g),(t,h))))
 | _ => none
theorem kon250:ConOK Tryz.prog 235 k250:=(show c235 = k250 by kernel_rfl) ▸ con235
def k166:Con
 | [.v (.int .i64 x),.v (.int .i64 y)] => some ([inR x,inR y],veA (vOf x y))
 | _ => none
theorem kon166:ConOK Tryz.prog 110 k166:=(show c110 = k166 by kernel_rfl) ▸ con110
def k176:Con
 | [.agg [.v (.int .i64 x),.v (.int .i64 y)]] => some ([inR x,inR y],veA (vOf x y))
 | _ => none
theorem kon176:ConOK Tryz.prog 124 k176:=(show c124 = k176 by kernel_rfl) ▸ con124
def k165:Con
 | [.agg [.v (.int .i64 x),.v (.bool e),.v (.int .i64 y),.v (.bool f)]] => some ([inR x,inR y],unA (vUnit ((x,e),(y,f))))
 | _ => none
theorem kon165:ConOK Tryz.prog 109 k165:=(show c109 = k165 by kernel_rfl) ▸ con109
def k173:Con
 | [.agg [.v (.int .i64 a),.v (.int .i64 b)],.agg [.v (.int .i64 c),.v (.int .i64 d)]] => some ([validS a b = true,validS c d = true],veA (vNorm a b c d))
 | _ => none
theorem kon173:ConOK Tryz.prog 120 k173:=(show c120 = k173 by kernel_rfl) ▸ con120
theorem owe2 {p q:Prop} (h1:p) (h2:q):∀ x ∈ [p,q],x:=List.forall_mem_cons.2 ⟨h1,List.forall_mem_cons.2 ⟨h2,fun _ h => (List.not_mem_nil h).elim⟩⟩
def vTwo (g:Nat → List AV):AV:=veA (vAdd ((gx g 0 0,gb g 1 0),(gx g 2 0,gb g 3 0)) ((gx g 0 1,gb g 1 1),(gx g 2 1,gb g 3 1)))
theorem vecs_at {g:Nat → List AV} (h:vecs 2 g):g 0 = [i64 (gx g 0 0),bo (gb g 1 0),i64 (gx g 2 0),bo (gb g 3 0)] ∧ g 1 = [i64 (gx g 0 1),bo (gb g 1 1),i64 (gx g 2 1),bo (gb g 3 1)]:=⟨(h 0 (by omega)).1,(h 1 (by omega)).1⟩
theorem two_eq {g:Nat → List AV} (h:vecs 2 g):ve (su1 2 (gx g 0) (gb g 1)) (su1 2 (gx g 2) (gb g 3)) = vTwo g:=by
 obtain ⟨h0,h1⟩:=vecs_at h
 rw [su2x h0 h1,su2y h0 h1]; rfl
def k130:Con
 | [.ro 2 4 g] => some ([vecs 2 g],veA (vAdd ((gx g 0 0,gb g 1 0),(gx g 2 0,gb g 3 0)) ((gx g 0 1,gb g 1 1),(gx g 2 1,gb g 3 1))))
 | _ => none
theorem kon130:ConOK Tryz.prog 96 k130:=fun l ob r hc hob => by
 unfold k130 at hc
 split at hc
 ·rename_i g
  cases hc
  have h:vecs 2 g:=hob _ (by simp)
  have:=con96 [.ro 2 4 g] _ _ rfl (owe2 h (by omega))
  rw [two_eq h] at this
  exact this
 ·cases hc
theorem nPos_eq {a:Nb}:nMx (0,false) a = nPos a:=by
 have c1:whV 0 = 0:=by decide
 have c2:whF 0 false = false:=by decide
 unfold nMx nPos
 dsimp only
 rw [c1,c2,Bool.false_or]
attribute [go_sem] nPos_eq
def k172:Con
 | [.agg [.v (.int .i64 x),.v (.bool e),.v (.int .i64 y),.v (.bool f)],.agg [.v (.int .i64 z),.v (.bool g),.v (.int .i64 t),.v (.bool h)]] => some ([inR x,inR y,inR z,inR t],veA (vSub ((x,e),(y,f)) ((z,g),(t,h))))
 | _ => none
theorem kon172:ConOK Tryz.prog 119 k172:=ConOK.of (G:=[(112,k160)]) (H:=[(1,⟨[(11,.slot 4)],[]⟩)]) (.cons kon160 .nil) Tryz.func119 fun l ob r hc hob => by
 unfold k172 at hc
 split at hc
 ·rename_i x e y f z g t h
  cases hc
  have h_0:inR x:=hob _ (by simp)
  have h_1:inR y:=hob _ (by simp)
  have h_2:inR z:=hob _ (by simp)
  have h_3:inR t:=hob _ (by simp)
  refine ⟨by kernel_rfl,fnVC_go (rs:=[.cell 4 38]) rfl rfl ?_⟩
  simp only [go_sem,k160,h_0,h_1,h_2,h_3]
  rfl
 ·cases hc
end Go.Ax
end
section
/-
  The reference's directions and normals.
-/
set_option maxHeartbeats 4000000
set_option maxRecDepth 100000
namespace Go.Ax
open Go.Proofs
end Go.Ax
end
section
/-
  Corners of shapes: the iterator over them.
-/
set_option maxHeartbeats 4000000
set_option maxRecDepth 100000
namespace Go.Ax
open Go.Proofs Go.RowKit
def nxt2 (n i:Nat):Nat:=nxt n (nxt n i)
theorem nxt2_lt {n i:Nat} (h:i < n):nxt2 n i < n:=nxt_lt (nxt_lt h)
theorem tmod_nxt2 {n i:Nat} (h:i < n):Int.tmod ((i:Int) + 2) n = (nxt2 n i:Nat):=by
 have e:((i:Int) + 2) = ((i + 2:Nat):Int):=rfl
 rw [e,Int.tmod_eq_emod_of_nonneg (by omega),← Int.natCast_emod]
 congr 1
 unfold nxt2 nxt
 by_cases h2:i + 2 < n
 ·rw [Nat.mod_eq_of_lt h2,if_pos (show i + 1 < n by omega),if_pos h2]
 ·by_cases h1:i + 1 < n
  ·have:i + 2 = n:=by omega
   rw [if_pos h1,if_neg (by omega),this,Nat.mod_self]
  ·have:i + 1 = n:=by omega
   rw [if_neg h1,Nat.mod_eq_sub_mod (by omega),show i + 2 - n = 1 by omega]
   by_cases h0:0 + 1 < n
   ·rw [if_pos h0,Nat.mod_eq_of_lt h0]
   ·rw [if_neg h0,show n = 1 by omega]
def cornerE (n:Nat) (g:Nat → List AV) (i:Nat):List AV:=[.agg [i64 i,i64 (gx g 0 i),i64 (gx g 1 i),i64 (gx g 0 (nxt n i)),i64 (gx g 1 (nxt n i)),i64 (gx g 0 (nxt2 n i)),i64 (gx g 1 (nxt2 n i))]]
def c204:Con
 | [.rop [.ro n 2 g]] => some ([spots n g,n ≤ 9223372036854775800],.ro n 1 (cornerE n g))
 | _ => none
structure At204 (I:Nat → Prop) (w:World) (J:Nat → World → Prop) (l n:Nat) (v1:Value) (i:Nat) (a:Act) (W:World):Prop where
 sz:a.tmps.size = 35
 de:a.defers = []
 t0:a.tmps.getD 0 undef = .func (.yield l) #[] #[]
 t1:a.tmps.getD 1 undef = v1
 t3:a.tmps.getD 3 undef = .int .i64 n
 t7:a.tmps.getD 7 undef = .int .i64 n
 t8:a.tmps.getD 8 undef = .int .i64 i
 le:i ≤ n
 j:J i W
 same:Same I w W
theorem listed_eq {L:Array Bool} {n k:Nat} (hs:L.size = n) (h:∀ i,L.getD i false = decide (i < k)):L = ((List.range n).map fun i => decide (i < k)).toArray:=by
 apply Array.ext
 ·simp [hs]
 ·intro i h1 h2
  have:=h i
  rw [Array.getD_eq_getD_getElem?,Array.getElem?_eq_getElem h1] at this
  simpa using this
theorem wpOps_free' {P:Program} {n:Nat} {Q:Exit → Act → World → Prop} {a:Act} {w:World} {ro:Option Nat} {ops:Array Oper} {i:Nat} {o:Oper} {K:Act → World → Prop} (ho:ops[i]? = some o) (hg:o.guard = none) (h:o.wpIn (Fw ro) n P a w K Q):wpOpIn (Fw ro) n P ops Q i K a w:=by
 unfold wpOpIn
 rw [ho]
 dsimp only
 rw [if_pos (by simp [Region.wanted,hg])]; exact h
theorem no_nil {l:List Nat} {k:Nat} (e:l = [k]) (h:l = []):False:=by rw [e] at h; cases h
theorem mem_one {l:List Nat} {i k:Nat} (h:l = [k]) (hi:i ∈ l):i = k:=by rw [h] at hi; simpa using hi
theorem seq204:SeqOK Tryz.prog 204 c204:=by
 intro es ob N k sq hc hob
 unfold c204 at hc
 split at hc
 case h_2 => cases hc
 rename_i n g
 simp only [Option.some.injEq,Prod.mk.injEq,AV.ro.injEq] at hc
 obtain ⟨rfl,rfl,rfl,rfl⟩:=hc
 have hsp:spots n g:=hob _ (by simp)
 have hn:n ≤ 9223372036854775800:=hob _ (by simp)
 intro I w vs nn l J Jx hI hRs hJ hJx h0 hy
 obtain ⟨v1,rest,rfl,hv1,hrest⟩:=hRs.inv
 have:rest = []:=by have:=hrest.1; simpa using this
 subst this
 cases hv1 with
 | rop b o hib hex hr =>
 obtain ⟨x,hx⟩:=hex 0 (by simp)
 have hx:Has w b o x:=hx
 have hib:I b:=hib
 have hxr:R w (.ext I) (.ro n 2 (sg g)) x:=ro_alike (fun i hi => (hsp i hi).1) (hr 0 _ x rfl hx)
 have hvr:R w (.ext I) (.rop [.ro n 2 (sg g)]) (.pointer (some ⟨b,o,none⟩)):=rop1 hib hx hxr
 refine ⟨callFunc_enter Tryz.func204 (by kernel_rfl) rfl,?_⟩
 refine callsIn_of_wp_marks (F:=Fence.wide) Tryz.func204 rfl trivial ?_
 have hm:Tryz.prog.follows .mixedOrders = true:=by kernel_rfl
 rw [show Tryz.f204.ntmps = 35 from by kernel_rfl]
 generalize hes:(#[Value.func (.yield l) #[] #[]] ++ [Value.pointer (some ⟨b,o,none⟩)].toArray:Array Value) = es
 have hes2:es.size = 2:=by rw [← hes]; rfl
 have hes0:es[0]? = some (.func (.yield l) #[] #[]):=by rw [← hes]; rfl
 have hes1:es[1]? = some (.pointer (some ⟨b,o,none⟩)):=by rw [← hes]; rfl
 generalize ha:(Act.mk (es ++ Array.replicate (35 - es.size) undef) []) = a
 have hsz:a.tmps.size = 35:=by rw [← ha]; exact start_size (by omega)
 have hde:a.defers = []:=by rw [← ha]
 have ht0:a.tmps.getD 0 undef = .func (.yield l) #[] #[]:=by rw [← ha]; exact start_get hes0
 have ht1:a.tmps.getD 1 undef = .pointer (some ⟨b,o,none⟩):=by rw [← ha]; exact start_get hes1
 clear ha hes hes0 hes1 hes2
 have keepR:∀ {av:AV} {v:Value} {W:World},R w (.ext I) av v → Same I w W → R W (.ext I) av v:=fun h hs => h.mono (.refl _) hs
 have ltI:∀ {W:World},Same I w W → ∀ b,I b → b < W.heap.size:=fun {W} hs b hb => by
  have h1:=hs b hb
  have h2:=hI b hb
  rw [Array.getElem?_eq_getElem h2] at h1
  exact (Array.getElem?_eq_some_iff.1 h1).1
 -- region 0
 refine wpIn_seq (pieceI (G:=[]) (H:=[]) .nil hm (l:=[(1,.rop [.ro n 2 (sg g)])]) (W:=[5,6,3]) (K:=fun e s => match e with | .normal => slot s.t 3 = i64 n | _ => False) (by kernel_rfl) (by kernel_rfl) (by kernel_rfl) ?_ hI hsz ?_ ?_)
 ·refine awp_go (K1:=fun e t _ => match e with | .normal => slot t 3 = i64 n | _ => False) ?_
  simp only [go_sem,List.range,List.range.loop]
 ·intro p hp; simp only [List.mem_singleton] at hp; subst hp; dsimp only; rw [ht1]; exact hvr
 intro e s1 ρ1 a1 w1 k1 k2
 cases e with
 | exit j => exact k1.elim
 | ret => exact k1.elim
 | normal =>
 have bel1:RowKit.Below w.heap.size w w1:=k2.rel.below
 have hs1:Same I w w1:=Same.of_below bel1 hI
 have hj1:J 0 w1:=hJ 0 w w1 h0 bel1
 have u0:a1.tmps.getD 0 undef = .func (.yield l) #[] #[]:=(k2.frame 0 (show ¬ (0:Nat) ∈ [5,6,3] by decide)).trans ht0
 have u1:a1.tmps.getD 1 undef = .pointer (some ⟨b,o,none⟩):=(k2.frame 1 (show ¬ (1:Nat) ∈ [5,6,3] by decide)).trans ht1
 have u3:=k2.val k1
 have usz:=k2.size
 have ude:a1.defers = []:=k2.defers.trans hde
 clear k1 k2 s1 ρ1 hsz hde ht0 ht1
 -- region 1
 refine wpIn_seq (pieceI (G:=[]) (H:=[]) .nil hm (l:=[(3,i64 n)]) (W:=[7,8]) (K:=fun e s => match e with | .normal => slot s.t 7 = i64 n ∧ slot s.t 8 = i64 0 | _ => False) (by kernel_rfl) (by kernel_rfl) (by kernel_rfl) ?_ (ltI hs1) usz ?_ ?_)
 ·refine awp_go (K1:=fun e t _ => match e with | .normal => slot t 7 = i64 n ∧ slot t 8 = i64 0 | _ => False) ?_
  simp only [go_sem,List.range,List.range.loop]
 ·intro p hp; simp only [List.mem_singleton] at hp; subst hp; dsimp only; rw [u3]; exact .v
 intro e s3 ρ3 a3 w3 k1 k2
 cases e with
 | exit j => exact k1.elim
 | ret => exact k1.elim
 | normal =>
 have bel3:RowKit.Below w1.heap.size w1 w3:=k2.rel.below
 have hs3:Same I w w3:=hs1.trans (Same.of_below bel3 (ltI hs1))
 have hAt0:At204 I w J l n (.pointer (some ⟨b,o,none⟩)) 0 a3 w3:=
  ⟨k2.size,k2.defers.trans ude,(k2.frame 0 (show ¬ (0:Nat) ∈ [7,8] by decide)).trans u0,(k2.frame 1 (show ¬ (1:Nat) ∈ [7,8] by decide)).trans u1,(k2.frame 3 (show ¬ (3:Nat) ∈ [7,8] by decide)).trans u3,
   k2.val k1.1,k2.val k1.2,Nat.zero_le _,hJ 0 w1 w3 hj1 bel3,hs3⟩
 clear k1 k2 s3 ρ3 bel3 hs3 hj1 hs1 u0 u1 u3 usz ude
 refine wpIn_block (wpIn_loop_rounds (n + 1) ?_)
 obtain ⟨i,hAt,hlt⟩:∃ i,At204 I w J l n (.pointer (some ⟨b,o,none⟩)) i a3 w3 ∧ n - i < n + 1:=⟨0,hAt0,by omega⟩
 clear hAt0
 generalize n + 1 = fuel at hlt ⊢
 induction fuel generalizing i a3 w3 with
 | zero => omega
 | succ fuel ih =>
 rw [roundsIn_succ]
 -- the guard
 refine wpIn_seq (pieceI (G:=[]) (H:=[]) .nil hm (l:=[(7,i64 n),(8,i64 i)]) (W:=[9]) (K:=fun e s => match e with | .normal => slot s.t 9 = bo (decide ((i:Int) < n)) | _ => False) (by kernel_rfl) (by kernel_rfl) (by kernel_rfl) ?_ (ltI hAt.same) hAt.sz ?_ ?_)
 ·refine awp_go (K1:=fun e t _ => match e with | .normal => slot t 9 = bo (decide ((i:Int) < n)) | _ => False) ?_
  simp only [go_sem,List.range,List.range.loop]
 ·intro p hp
  simp only [List.mem_cons,List.mem_singleton,List.not_mem_nil,or_false] at hp
  rcases hp with rfl | rfl
  ·dsimp only; rw [hAt.t7]; exact .v
  ·dsimp only; rw [hAt.t8]; exact .v
 intro e s1 ρ1 a1 w1 k1 k2
 cases e with
 | exit j => exact k1.elim
 | ret => exact k1.elim
 | normal =>
 have bel1:RowKit.Below w3.heap.size w3 w1:=k2.rel.below
 have hs1:Same I w w1:=hAt.same.trans (Same.of_below bel1 (ltI hAt.same))
 have hj1:J i w1:=hJ i w3 w1 hAt.j bel1
 have v9:=k2.val k1
 have d1:a1.defers = []:=k2.defers.trans hAt.de
 have z1:=k2.size
 have f1:∀ j,¬ j ∈ [9] → a1.tmps.getD j undef = a3.tmps.getD j undef:=k2.frame
 clear k1 k2 s1 ρ1
 refine wpIn_seq (wpIn_cond_split (t:=decide ((i:Int) < n)) v9 ?_ ?_)
 case refine_2 =>
  intro hf
  have hin:i = n:=by have:=hAt.le; simp at hf; omega
  subst hin
  refine wpIn_exit ?_
  show LeavesInM Fence.wide nn Tryz.prog Tryz.f204 a1.tmps _ a1.defers .returning w1
  exact leave_nil d1 rfl fun v => ⟨⟨v,rfl⟩,.inl hj1⟩
 intro ht
 have hin:i < n:=by simp at ht; omega
 refine wpIn_skip ?_
 refine wpIn_seq (wpIn_block ?_)
 -- region 3
 refine wpIn_seq (pieceI (G:=[]) (H:=[]) .nil hm (l:=[(8,i64 i)]) (W:=[10,4]) (K:=fun e s => match e with | .normal => slot s.t 4 = i64 i | _ => False) (by kernel_rfl) (by kernel_rfl) (by kernel_rfl) ?_ (ltI hs1) z1 ?_ ?_)
 ·refine awp_go (K1:=fun e t _ => match e with | .normal => slot t 4 = i64 i | _ => False) ?_
  simp only [go_sem,List.range,List.range.loop]
 ·intro p hp; simp only [List.mem_singleton] at hp; subst hp; dsimp only; rw [f1 8 (by decide),hAt.t8]; exact .v
 intro e s4 ρ4 a4 w4 k1 k2
 cases e with
 | exit j => exact k1.elim
 | ret => exact k1.elim
 | normal =>
 have bel4:RowKit.Below w1.heap.size w1 w4:=k2.rel.below
 have hs4:Same I w w4:=hs1.trans (Same.of_below bel4 (ltI hs1))
 have hj4:J i w4:=hJ i w1 w4 hj1 bel4
 have v4:=k2.val k1
 have d4:a4.defers = []:=k2.defers.trans d1
 have z4:=k2.size
 have f4:∀ j,¬ j ∈ [9] → ¬ j ∈ [10,4] → a4.tmps.getD j undef = a3.tmps.getD j undef:=fun j h1 h2 => (k2.frame j h2).trans (f1 j h1)
 clear k1 k2 s4 ρ4 f1 z1 d1 v9 hj1 hs1 bel1 bel4
 -- region 4: all but the yield
 obtain ⟨K1,hK1⟩:∃ K1:Slots → Prop,K1 = fun t => slot t 11 = .v (.func (.yield l) #[] #[]) ∧ [slot t 31] = cornerE n g i:=⟨_,rfl⟩
 refine wpIn_seq (region_splitA (G:=[]) (nt:=35) (hot:=⟨[],[]⟩) (s:=⟨[(0,.v (.func (.yield l) #[] #[])),(1,.rop [.ro n 2 (sg g)]),(3,i64 n),(4,i64 i)] ++ anyS (List.range 35),[],0⟩) (ds:=⟨a4.defers,(· ∈ [11,12,13,14,15,16,17,18,19,20,21,22,23,24,25,26,27,28,29,30,31,32,33]),a4.tmps⟩) .nil hm 21 (by decide) (by decide) (by kernel_rfl) (by kernel_rfl) (K:=fun s => K1 s.t) (by kernel_rfl) (fun j hj => hj) ?_ (SR.anew (ltI hs4) (slots_R z4 ?_) z4 rfl (fun _ _ => rfl)) ?_)
 ·show regC Tryz.prog [] [] (fun _ s => K1 s.t) (some ⟨[],[]⟩) _ _ 0 [] _ [] 0
  have hn0:((n:Int) = 0) = False:=eq_false (by omega)
  simp only [go_sem,List.range,List.range.loop,sg_eq,hn0]
  subst hK1
  have e1:IntKind.i64.wrap ((i:Int) + 1) = i + 1:=wrap_in (by unfold inR; omega)
  have e2:IntKind.i64.wrap ((i:Int) + 2) = i + 2:=wrap_in (by unfold inR; omega)
  have l1:=nxt_lt hin
  have l2:=nxt2_lt hin
  refine ⟨by omega,by omega,fun z hz z1 hz1 => ?_⟩
  rw [hz,e1,tmod_nxt hin] at hz1
  subst hz1
  refine ⟨by omega,by omega,fun z2 hz2 z3 hz3 => ?_⟩
  rw [hz2,e2,tmod_nxt2 hin] at hz3
  subst hz3
  refine ⟨by omega,by omega,?_⟩
  simp only [slot_cons,Nat.reduceEqDiff,if_true,if_false,reduceIte,true_and,cornerE,gx,Int.toNat_natCast]
 ·intro p hp
  simp only [List.mem_cons,List.mem_singleton,List.not_mem_nil,or_false] at hp
  rcases hp with rfl | rfl | rfl | rfl
  ·dsimp only; rw [f4 0 (by decide) (by decide),hAt.t0]; exact .v
  ·dsimp only; rw [f4 1 (by decide) (by decide),hAt.t1]; exact keepR hvr hs4
  ·dsimp only; rw [f4 3 (by decide) (by decide),hAt.t3]; exact .v
  ·dsimp only; rw [v4]; exact .v
 intro s5 L ρ2 a2 w2 k1 hL1 hL2 k2
 subst hK1
 have bel2:RowKit.Below w4.heap.size w4 w2:=k2.rel.below
 have hs2:Same I w w2:=hs4.trans (Same.of_below bel2 (ltI hs4))
 have hj2:J i w2:=hJ i w4 w2 hj4 bel2
 have v11:=k2.val k1.1
 have e31:slot s5.t 31 = .agg [i64 i,i64 (gx g 0 i),i64 (gx g 1 i),i64 (gx g 0 (nxt n i)),i64 (gx g 1 (nxt n i)),i64 (gx g 0 (nxt2 n i)),i64 (gx g 1 (nxt2 n i))]:=by have:=k1.2; unfold cornerE at this; exact (List.cons.inj this).1
 have hargs:Rs w2 (.ext I) (cornerE n g i) [a2.tmps.getD 31 undef]:=by
  have q31:=k2.slots 31
  rw [e31] at q31
  exact .cons (plain_sound 3 rfl q31) .nil
 have d2:a2.defers = []:=k2.defers.trans d4
 have z2:=k2.size
 have f2:=k2.frame
 clear k1 e31
 have hL:L = ((List.range 23).map fun i => decide (i < 21)).toArray:=listed_eq hL1 hL2
 subst hL
 have z32:32 < a2.tmps.size:=by rw [z2]; decide
 refine ⟨fun h => (no_nil (k:=21) (by kernel_rfl) h).elim,fun j hj => ?_⟩
 have hj:j = 21:=mem_one (by kernel_rfl) hj
 subst hj
 refine wpOps_free' rfl rfl (yield_op (l:=l) [a2.tmps.getD 31 undef] rfl v11 (by simp [Act.eval]) (hy i w2 _ hin hj2 hs2 hargs) ?_)
 intro e W hpost
 obtain ⟨r,he,hsm,hjt,hjf⟩:∃ r,e = .returned (.bool r) ∧ Same I w2 W ∧ (r = true → J (i + 1) W) ∧ (r = false → Jx W):=by
  obtain ⟨hsm,⟨rfl,hj⟩ | ⟨rfl,hj⟩⟩:=hpost
  ·exact ⟨true,rfl,hsm,fun _ => hj,fun h => (by cases h)⟩
  ·exact ⟨false,rfl,hsm,fun h => (by cases h),fun _ => hj⟩
 subst he
 refine ⟨_,rfl,?_⟩
 have hs5:Same I w W:=hs2.trans hsm
 refine ⟨fun h => (no_nil (k:=22) (by kernel_rfl) h).elim,fun j hj => ?_⟩
 have hj:j = 22:=mem_one (by kernel_rfl) hj
 subst hj
 have q0:SR ⟨W,I,[],[]⟩ (.ext I) ([(32,bo r)] ++ anyS (List.range 35)) [] (· < 0) 35 ⟨[],(· ∈ [33]),(a2.put (some 32) (.bool r)).tmps⟩ (a2.put (some 32) (.bool r)) W:=SR.anew (ltI hs5) (slots_R ((put_size _ _).trans z2) (fun p hp => by
  simp only [List.mem_singleton] at hp; subst hp; dsimp only; rw [put_at z32]; exact .v)) ((put_size _ _).trans z2) d2 (fun _ _ => rfl)
 refine wpOps_free' rfl rfl ?_
 refine aStep_sound (G:=[]) (key:=0) (g:=none) (m':=[]) (e:=⟨[],bo (!r),.none⟩) (ρ0:=opd ([(32,bo r)] ++ anyS (List.range 35))) .nil q0.rel (by simp) (fun _ _ h => h) (by kernel_rfl) (fun q hq => by simp [owed,isPick,needs,Op.operands,opd,slot] at hq) q0.opd fun v w5 hpost => ?_
 obtain ⟨ρ5,p1,p2,p3,p4⟩:=hpost
 have bel5:RowKit.Below W.heap.size W w5:=p2.below
 have hs6:Same I w w5:=hs5.trans (Same.of_below bel5 (ltI hs5))
 cases p1
 have hput:∀ j,33 ≠ j → 32 ≠ j → (((a2.put (some 32) (.bool r)).put (some 33) (.bool (!r))).tmps.getD j undef) = a2.tmps.getD j undef:=fun j h1 h2 => by
  rw [put_not (by rw [put_size,z2]; decide) h1,put_not z32 h2]
 have z33:33 < (a2.put (some 32) (.bool r)).tmps.size:=by rw [put_size,z2]; decide
 have v33:((a2.put (some 32) (.bool r)).put (some 33) (.bool (!r))).tmps.getD 33 undef = .bool (!r):=put_at z33
 have z5:((a2.put (some 32) (.bool r)).put (some 33) (.bool (!r))).tmps.size = 35:=((put_size _ _).trans (put_size _ _)).trans z2
 have d5:((a2.put (some 32) (.bool r)).put (some 33) (.bool (!r))).defers = []:=d2
 show wpAnyIn (Fw none) nn Tryz.prog .any _ _ 0 _ ((a2.put (some 32) (.bool r)).put (some 33) (.bool (!r))) w5
 generalize (a2.put (some 32) (.bool r)).put (some 33) (.bool (!r)) = a5 at *
 refine ⟨by kernel_rfl,?_⟩
 refine wpIn_cond_split (t:=!r) v33 (fun hb => ?_) (fun hb => ?_)
 ·have hr:r = false:=by simpa using hb
  have hjx:Jx w5:=hJx W w5 (hjf hr) bel5
  refine wpIn_ret ?_
  show LeavesInM Fence.wide nn Tryz.prog Tryz.f204 a5.tmps _ a5.defers .returning w5
  exact leave_nil d5 rfl fun v => ⟨⟨v,rfl⟩,.inr hjx⟩
 ·have hr:r = true:=by simpa using hb
  have hj5:J (i + 1) w5:=hJ (i + 1) W w5 (hjt hr) bel5
  refine wpIn_skip ?_
  show Code.wpIn Fence.wide nn Tryz.prog (Code.region 5 _ false) _ a5 w5
  have g2:∀ j,¬ j ∈ [9] → ¬ j ∈ [10,4] → ¬ j ∈ [11,12,13,14,15,16,17,18,19,20,21,22,23,24,25,26,27,28,29,30,31,32,33] → a5.tmps.getD j undef = a3.tmps.getD j undef:=fun j h1 h2 h3 => by
   rw [hput j (fun h => h3 (by subst h; decide)) (fun h => h3 (by subst h; decide)),f2 j h3,f4 j h1 h2]
  refine pieceI (G:=[]) (H:=[]) .nil hm (l:=[(8,i64 i)]) (W:=[34,8]) (K:=fun e s => match e with | .normal => slot s.t 8 = i64 (i + 1) | _ => False) (by kernel_rfl) (by kernel_rfl) (by kernel_rfl) ?_ (ltI hs6) z5 ?_ ?_
  ·refine awp_go (K1:=fun e t _ => match e with | .normal => slot t 8 = i64 (i + 1) | _ => False) ?_
   simp only [go_sem,List.range,List.range.loop]
   intro z hz
   have e1:IntKind.i64.wrap ((i:Int) + 1) = i + 1:=wrap_in (by unfold inR; omega)
   rw [hz,e1]
  ·intro p hp; simp only [List.mem_singleton] at hp; subst hp; dsimp only; rw [g2 8 (by decide) (by decide) (by decide),hAt.t8]; exact .v
  intro e s6 ρ6 a6 w6 q1 q2
  cases e with
  | exit j => exact q1.elim
  | ret => exact q1.elim
  | normal =>
  have bel6:RowKit.Below w5.heap.size w5 w6:=q2.rel.below
  have f6:∀ j,¬ j ∈ [34,8] → a6.tmps.getD j undef = a5.tmps.getD j undef:=q2.frame
  refine ih a6 w6 (i + 1) ⟨q2.size,q2.defers.trans d5,?_,?_,?_,?_,?_,by omega,hJ (i + 1) w5 w6 hj5 bel6,hs6.trans (Same.of_below bel6 (ltI hs6))⟩ (by omega)
  ·rw [f6 0 (by decide),g2 0 (by decide) (by decide) (by decide),hAt.t0]
  ·rw [f6 1 (by decide),g2 1 (by decide) (by decide) (by decide),hAt.t1]
  ·rw [f6 3 (by decide),g2 3 (by decide) (by decide) (by decide),hAt.t3]
  ·rw [f6 7 (by decide),g2 7 (by decide) (by decide) (by decide),hAt.t7]
  ·have:=q2.val q1; rw [this]; rfl
end Go.Ax
end
section
/-
  Shapes: which are sound.
-/
set_option maxHeartbeats 4000000
set_option maxRecDepth 100000
namespace Go.Ax
open Go.Proofs
def c166:Con
 | [.agg [.v (.int .i64 a),.v (.int .i64 b)],.agg [.v (.int .i64 c),.v (.int .i64 d)]] => some ([],.agg [i64 (IntKind.i64.wrap (a - c)),i64 (IntKind.i64.wrap (b - d))])
 | _ => none
theorem con166:ConOK Tryz.prog 166 c166:=ConOK.of (G:=[]) (H:=[]) .nil Tryz.func166 fun l ob r hc hob => by
 unfold c166 at hc
 split at hc
 ·rename_i a b c d
  cases hc
  refine ⟨by kernel_rfl,fnVC_go (rs:=[.cell 4 184]) rfl rfl ?_⟩
  simp only [go_sem]
  simp only [forall_eq]
 ·cases hc
def c167:Con
 | [.agg [.v (.int .i64 a),.v (.int .i64 b)],.agg [.v (.int .i64 c),.v (.int .i64 d)]] => some ([],i64 (IntKind.i64.wrap (IntKind.i64.wrap (a * d) - IntKind.i64.wrap (b * c))))
 | _ => none
theorem con167:ConOK Tryz.prog 167 c167:=ConOK.of (G:=[]) (H:=[]) .nil Tryz.func167 fun l ob r hc hob => by
 unfold c167 at hc
 split at hc
 ·rename_i a b c d
  cases hc
  refine ⟨by kernel_rfl,fnVC_go (rs:=[.tmp 4]) rfl rfl ?_⟩
  simp only [go_sem]
  simp only [forall_eq]
 ·cases hc
def c168:Con
 | [.agg [.v (.int .i64 a),.v (.int .i64 b)]] => some ([-1000000 ≤ a ∧ a ≤ 1000000,-1000000 ≤ b ∧ b ≤ 1000000],i64 (ab a + ab b))
 | _ => none
theorem con168:ConOK Tryz.prog 168 c168:=ConOK.of (G:=[]) (H:=[]) .nil Tryz.func168 fun l ob r hc hob => by
 unfold c168 at hc
 split at hc
 ·rename_i a b
  cases hc
  have h_0:-1000000 ≤ a ∧ a ≤ 1000000:=hob _ (by simp)
  have h_1:-1000000 ≤ b ∧ b ≤ 1000000:=hob _ (by simp)
  refine ⟨by kernel_rfl,fnVC_go (rs:=[.tmp 2]) rfl rfl ?_⟩
  simp only [go_sem]
  simp only [forall_eq]
  rw [wrap_in (x:=0 - a) (by unfold inR; omega),wrap_in (x:=0 - b) (by unfold inR; omega),wrap_in (by unfold inR; omega)]
  unfold ab
  split <;> split <;> omega
 ·cases hc
def c165:Con
 | [.ro n 2 g] => some ([],.fn 204 [.rop [.ro n 2 g]])
 | _ => none
theorem con165:ConOK Tryz.prog 165 c165:=ConOK.of (G:=[]) (H:=[]) .nil Tryz.func165 fun l ob r hc hob => by
 unfold c165 at hc
 split at hc
 ·rename_i n g
  cases hc
  refine ⟨by kernel_rfl,fnVC_go (rs:=[.tmp 2]) rfl rfl ?_⟩
  simp only [go_sem]
  trace_state
 ·cases hc
def c88:Con
 | [.v (.int .i64 n)] => some ([],bo (decide (16 ≤ n ∧ n ≤ 4096)))
 | _ => none
theorem con88:ConOK Tryz.prog 88 c88:=ConOK.of (G:=[]) (H:=[]) .nil Tryz.func88 fun l ob r hc hob => by
 unfold c88 at hc
 split at hc
 ·rename_i n
  cases hc
  refine ⟨by kernel_rfl,fnVC_go (rs:=[.tmp 2]) rfl rfl ?_⟩
  simp only [go_sem]
  rw [Bool.eq_iff_iff]; simp
 ·cases hc
def lo (x:Int):Prop:=-4096 ≤ x ∧ x ≤ 4096
theorem lo_mul {x y:Int} (hx:lo x) (hy:lo y):-16777216 ≤ x * y ∧ x * y ≤ 16777216:=by
 have:=mul_bd (A:=4096) (B:=4096) (by omega) hx hy
 omega
def lo2 (x:Int):Prop:=-8192 ≤ x ∧ x ≤ 8192
theorem lo2_mul {x y:Int} (hx:lo2 x) (hy:lo2 y):-67108864 ≤ x * y ∧ x * y ≤ 67108864:=by
 have:=mul_bd (A:=8192) (B:=8192) (by omega) hx hy
 omega
def cvxS (n:Nat) (X Y:Nat → Int):Bool:=decide (∀ i,i < n → (0 < X i * Y (nxt n i) - Y i * X (nxt n i) ∧ 4 * (ab (X (nxt n i) - X i) + ab (Y (nxt n i) - Y i) + (ab (X (nxt2 n i) - X (nxt n i)) + ab (Y (nxt2 n i) - Y (nxt n i)))) ≤ (X (nxt n i) - X i) * (Y (nxt2 n i) - Y (nxt n i)) - (Y (nxt n i) - Y i) * (X (nxt2 n i) - X (nxt n i))) ∧ ∀ j,j < n → j ≠ i → j ≠ nxt n i → 0 < (X (nxt n i) - X i) * (Y j - Y i) - (Y (nxt n i) - Y i) * (X j - X i))
def c89:Con
 | [.ro n 2 g] => some ([spots n g,n ≤ 1000,∀ i,i < n → lo (gx g 0 i) ∧ lo (gx g 1 i)],bo (cvxS n (gx g 0) (gx g 1)))
 | _ => none
theorem vc89 (n:Nat) (X Y:Nat → Int) (hn:n ≤ 1000) (hl:∀ i,i < n → lo (X i) ∧ lo (Y i)):fnVC Tryz.prog [(165,c165),(166,c166),(167,c167),(168,c168),(1000000 + 204,c204)] [(3,⟨[(12,.made 10),(13,.made 11)],[]⟩)] Tryz.f89 [.ro n 2 fun i => [i64 (X i),i64 (Y i)]] (· = bo (cvxS n X Y)):=by
 refine fnVC_go (rs:=[.cell 2 4]) rfl rfl ?_
 simp only [go_sem,c165]
 have hg:spots n fun i => [i64 (X i),i64 (Y i)]:=fun i hi => ⟨rfl,by have:=(hl i hi).1; unfold lo at this; show inR (X i); unfold inR; omega,by have:=(hl i hi).2; unfold lo at this; show inR (Y i); unfold inR; omega⟩
 obtain ⟨A,hA⟩:∃ A:Nat → Prop,A = fun i => 0 < X i * Y (nxt n i) - Y i * X (nxt n i) ∧ 4 * (ab (X (nxt n i) - X i) + ab (Y (nxt n i) - Y i) + (ab (X (nxt2 n i) - X (nxt n i)) + ab (Y (nxt2 n i) - Y (nxt n i)))) ≤ (X (nxt n i) - X i) * (Y (nxt2 n i) - Y (nxt n i)) - (Y (nxt n i) - Y i) * (X (nxt2 n i) - X (nxt n i)):=⟨_,rfl⟩
 obtain ⟨T,hT⟩:∃ T:Nat → Nat → Int,T = fun i j => (X (nxt n i) - X i) * (Y j - Y i) - (Y (nxt n i) - Y i) * (X j - X i):=⟨_,rfl⟩
 have hcv:cvxS n X Y = true ↔ ∀ i,i < n → A i ∧ ∀ j,j < n → j ≠ i → j ≠ nxt n i → 0 < T i j:=by
  subst hA hT
  unfold cvxS
  rw [decide_eq_true_eq]
 refine rangeC_go (fun (i:Nat) => i ≤ n ∧ ∀ j,j < i → A j ∧ ∀ k,k < n → k ≠ j → k ≠ nxt n j → 0 < T j k) (fun i => i) (fun _ => []) [1,0] [10,3,11,12,13,14,15,16,17,18,19,20,4,5,21,22,23,24,25,26,27,28,29,30,31,32,33,34,35,36,37,38,39,40,41,42,43,44,45,7,6,46,47,48,49,50,51,52,53,54,55,56,57,58,59,60,61,62,63,64,65,66,67,68,69,41] 0 0 (N:=n) (sq:=cornerE n fun i => [i64 (X i),i64 (Y i)]) (ob:=[spots n fun i => [i64 (X i),i64 (Y i)],n ≤ 9223372036854775800]) rfl (by intro p hp; simp only [List.mem_cons,List.mem_singleton,List.not_mem_nil,or_false] at hp; rcases hp with rfl | rfl; exact hg; omega) (by kernel_rfl) rfl (fun i _ => ⟨rfl,rfl⟩) ⟨Nat.zero_le _,fun j hj => by omega⟩ rfl ⟨[],?_,?_,?_⟩ ?_ ?_
 ·simp only [go_sem]
 ·simp only [go_sem]
 ·simp [goodNames,asg]
 ·intro i hi hlt
  have hlt:i < n:=hlt
  have l1:=nxt_lt hlt
  have l2:=nxt2_lt hlt
  have b1:=hl i hlt
  have b2:=hl _ l1
  have b3:=hl _ l2
  have m1:=lo_mul b1.1 b2.2
  have m2:=lo_mul b1.2 b2.1
  have d1:lo2 (X (nxt n i) - X i):=by unfold lo at b1 b2; unfold lo2; omega
  have d2:lo2 (Y (nxt n i) - Y i):=by unfold lo at b1 b2; unfold lo2; omega
  have d3:lo2 (X (nxt2 n i) - X (nxt n i)):=by unfold lo at b3 b2; unfold lo2; omega
  have d4:lo2 (Y (nxt2 n i) - Y (nxt n i)):=by unfold lo at b3 b2; unfold lo2; omega
  have m3:=lo2_mul d1 d4
  have m4:=lo2_mul d2 d3
  unfold lo2 at d1 d2 d3 d4
  have w1:IntKind.i64.wrap (X (nxt n i) - X i) = X (nxt n i) - X i:=wrap_in (by unfold inR; omega)
  have w2:IntKind.i64.wrap (Y (nxt n i) - Y i) = Y (nxt n i) - Y i:=wrap_in (by unfold inR; omega)
  have w3:IntKind.i64.wrap (X (nxt2 n i) - X (nxt n i)) = X (nxt2 n i) - X (nxt n i):=wrap_in (by unfold inR; omega)
  have w4:IntKind.i64.wrap (Y (nxt2 n i) - Y (nxt n i)) = Y (nxt2 n i) - Y (nxt n i):=wrap_in (by unfold inR; omega)
  have w5:IntKind.i64.wrap (IntKind.i64.wrap (X i * Y (nxt n i)) - IntKind.i64.wrap (Y i * X (nxt n i))) = X i * Y (nxt n i) - Y i * X (nxt n i):=by
   rw [wrap_in (x:=X i * Y (nxt n i)) (by unfold inR; omega),wrap_in (x:=Y i * X (nxt n i)) (by unfold inR; omega),wrap_in (by unfold inR; omega)]
  have w6:IntKind.i64.wrap (IntKind.i64.wrap ((X (nxt n i) - X i) * (Y (nxt2 n i) - Y (nxt n i))) - IntKind.i64.wrap ((Y (nxt n i) - Y i) * (X (nxt2 n i) - X (nxt n i)))) = (X (nxt n i) - X i) * (Y (nxt2 n i) - Y (nxt n i)) - (Y (nxt n i) - Y i) * (X (nxt2 n i) - X (nxt n i)):=by
   rw [wrap_in (x:=(X (nxt n i) - X i) * _) (by unfold inR; omega),wrap_in (x:=(Y (nxt n i) - Y i) * _) (by unfold inR; omega),wrap_in (by unfold inR; omega)]
  simp only [go_sem,cornerE,c166,c167,c168,w1,w2,w3,w4,w5,w6]
  intro z hz z1 hz1 z2 hz2 z3 hz3 z4 hz4 z5 hz5 z6 hz6
  subst hz hz1 hz2 hz3
  rw [w6] at hz5
  have ab1:0 ≤ ab (X (nxt n i) - X i) ∧ ab (X (nxt n i) - X i) ≤ 8192:=by unfold ab; split <;> omega
  have ab2:0 ≤ ab (Y (nxt n i) - Y i) ∧ ab (Y (nxt n i) - Y i) ≤ 8192:=by unfold ab; split <;> omega
  have ab3:0 ≤ ab (X (nxt2 n i) - X (nxt n i)) ∧ ab (X (nxt2 n i) - X (nxt n i)) ≤ 8192:=by unfold ab; split <;> omega
  have ab4:0 ≤ ab (Y (nxt2 n i) - Y (nxt n i)) ∧ ab (Y (nxt2 n i) - Y (nxt n i)) ≤ 8192:=by unfold ab; split <;> omega
  have hAi:A i ↔ 0 < z4 ∧ 4 * (ab (X (nxt n i) - X i) + ab (Y (nxt n i) - Y i) + (ab (X (nxt2 n i) - X (nxt n i)) + ab (Y (nxt2 n i) - Y (nxt n i)))) ≤ z5:=by rw [hA,hz4,hz5]
  refine ⟨fun _ => by omega,fun _ => by omega,fun z7 hz7 => ⟨fun _ => by omega,fun _ => by omega,fun z8 hz8 z9 hz9 => ⟨fun h => ?_,fun h => ?_⟩⟩⟩
  ·rw [hz6,hz7,wrap_in (by unfold inR; omega)] at hz8
   rw [hz8,wrap_in (by unfold inR; omega)] at hz9
   refine false_of fun hc => ?_
   have:=(hcv.1 hc i hlt).1
   rw [hAi] at this
   omega
  rw [hz6,hz7,wrap_in (by unfold inR; omega)] at hz8
  rw [hz8,wrap_in (by unfold inR; omega)] at hz9
  have hAi:A i:=hAi.2 (by omega)
  clear hz4 hz5 hz6 hz7 hz8 hz9 w1 w2 w3 w4 w5 w6 m1 m2 m3 m4
  refine loopC_go (fun (j:Nat) => j ≤ n ∧ ∀ k,k < j → k ≠ i → k ≠ nxt n i → 0 < T i k) (fun j => n - j) (fun j => [(41,i64 j)]) (fun _ => []) [17,16,4,1,0] [42,43,44,45,7,6,46,47,48,49,50,51,52,53,54,55,56,57,58,59,60,61,62,63,64,65,66,67,68,69,41] 0 (by kernel_rfl) ?_ ⟨Nat.zero_le _,fun j hj => by omega⟩ ?_ ?_
  ·intro x _; simp [goodNames]
  ·simp only [go_sem]
  ·intro j hj
   have hn0:((n:Int) = 0) = False:=eq_false (by omega)
   simp only [go_sem,c166,c167,hn0]
   refine ⟨fun hjn => ?_,fun hjn => ?_⟩
   ·have hjn':j < n:=by omega
    have b4:=hl j hjn'
    have d5:lo2 (Y j - Y i):=by unfold lo at b1 b4; unfold lo2; omega
    have d6:lo2 (X j - X i):=by unfold lo at b1 b4; unfold lo2; omega
    have m5:=lo2_mul (show lo2 _ from d1) d5
    have m6:=lo2_mul (show lo2 _ from d2) d6
    unfold lo2 at d5 d6
    have ew:IntKind.i64.wrap (IntKind.i64.wrap ((X (nxt n i) - X i) * IntKind.i64.wrap (Y j - Y i)) - IntKind.i64.wrap ((Y (nxt n i) - Y i) * IntKind.i64.wrap (X j - X i))) = T i j:=by
     rw [wrap_in (x:=Y j - Y i) (by unfold inR; omega),wrap_in (x:=X j - X i) (by unfold inR; omega),wrap_in (x:=_ * (Y j - Y i)) (by unfold inR; omega),wrap_in (x:=_ * (X j - X i)) (by unfold inR; omega),wrap_in (by unfold inR; omega),hT]
    refine ⟨by omega,hjn,fun z hz z1 hz1 z2 hz2 => ?_⟩
    rw [hz,wrap_in (by unfold inR; omega),tmod_nxt hlt] at hz1
    rw [ew] at hz2
    subst hz1 hz2
    refine ⟨fun h => false_of fun hc => ?_,fun h z3 hz3 => ⟨j + 1,⟨by omega,fun k hk k1 k2 => ?_⟩,by omega,?_⟩⟩
    ·have:=(hcv.1 hc i hlt).2 j hjn' (by have:=h.1.1; simp at this; omega) (by have:=h.1.2; simp at this; omega)
     omega
    ·by_cases e:k = j
     ·subst e
      simp only [Bool.and_eq_false_iff,bne_eq_false_iff_eq,decide_eq_false_iff_not] at h
      omega
     ·exact hj.2 k (by omega) k1 k2
    ·rw [hz3,wrap_in (by unfold inR; omega)]; rfl
   ·refine ⟨i + 1,⟨by omega,fun j' hj' => ?_⟩,rfl,[],by simp [goodNames,asg]⟩
    by_cases e:j' = i
    ·subst e; exact ⟨hAi,fun k hk k1 k2 => hj.2 k (by omega) k1 k2⟩
    ·exact hi.2 j' (by omega)
 ·intro i hi he
  have he:i = n:=he
  subst he
  simp only [go_sem]
  exact (hcv.2 hi.2).symm
theorem con89:ConOK Tryz.prog 89 c89:=ConOK.go (G:=[(165,c165),(166,c166),(167,c167),(168,c168),(1000000 + 204,c204)]) (H:=[(3,⟨[(12,.made 10),(13,.made 11)],[]⟩)]) (.cons con165 (.cons con166 (.cons con167 (.cons con168 (.seq seq204 .nil))))) Tryz.func89 fun l ob r hc hob => by
 unfold c89 at hc
 split at hc
 ·rename_i n g
  cases hc
  have hs:spots n g:=hob _ (by simp)
  exact ⟨[.ro n 2 fun i => [i64 (gx g 0 i),i64 (gx g 1 i)]],fun w I vs h => Rs_one (fun v => ro_alike fun i hi => (hs i hi).1) h,by kernel_rfl,vc89 n _ _ (hob _ (by simp)) (hob _ (by simp))⟩
 ·cases hc
end Go.Ax
end
section
/-
  Shapes: their errors.
-/
set_option maxHeartbeats 4000000
set_option maxRecDepth 100000
namespace Go.Ax
open Go.Proofs
instance {x:Int}:Decidable (lo x):=by unfold lo; infer_instance
def chkS (k r w t:Int) (n:Nat) (X Y:Nat → Int):Int:=
 if k = 1 then (if w ≠ 0 ∨ t ≠ 0 ∨ n ≠ 0 then 4 else if 16 ≤ r ∧ r ≤ 4096 then 0 else 3)
 else if k = 2 then (if r ≠ 0 ∨ n ≠ 0 then 4 else if (16 ≤ w ∧ w ≤ 4096) ∧ (16 ≤ t ∧ t ≤ 4096) then 0 else 3)
 else if k = 3 then (if r ≠ 0 ∨ w ≠ 0 ∨ t ≠ 0 ∨ n < 3 ∨ 8 < n then 4 else if ∀ i,i < n → lo (X i) ∧ lo (Y i) then (if cvxS n X Y = true then 0 else 5) else 3)
 else 8
abbrev shapeA (k r w t:Int) (n:Nat) (g:Nat → List AV):AV:=.agg [i64 k,i64 r,i64 w,i64 t,.ro n 2 g]
theorem vc41 (k r w t:Int) (n:Nat) (X Y:Nat → Int) (hX:∀ i,i < n → inR (X i) ∧ inR (Y i)) (hn:n ≤ 9223372036854775806):fnVC Tryz.prog [(88,c88),(89,c89)] [] Tryz.f41 [shapeA k r w t n fun i => [i64 (X i),i64 (Y i)]] (· = i64 (chkS k r w t n X Y)):=by
 refine fnVC_go (rs:=[.tmp 2]) rfl rfl ?_
 have hg:spots n fun i => [i64 (X i),i64 (Y i)]:=fun i hi => ⟨rfl,hX i hi⟩
 have eX:gx (fun i => [i64 (X i),i64 (Y i)]) 0 = X:=rfl
 have eY:gx (fun i => [i64 (X i),i64 (Y i)]) 1 = Y:=rfl
 simp only [go_sem,c88,c89]
 refine ⟨fun hk => ?_,fun hk => ⟨fun hk2 => ?_,fun hk2 => ⟨fun hk3 => ?_,fun hk3 => ?_⟩⟩⟩
 ·have hk:k = 1:=by simpa using hk
  refine ⟨fun h => ?_,fun h z hz => ⟨fun h2 => ?_,fun h2 => ?_⟩⟩
  ·unfold chkS; rw [if_pos hk,if_pos (by simp only [bne_iff_ne] at h; omega)]
  ·unfold chkS; rw [if_pos hk,if_neg (by simp at h; omega),if_neg (by rw [hz] at h2; exact of_decide_eq_false h2)]
  ·unfold chkS; rw [if_pos hk,if_neg (by simp at h; omega),if_pos (by rw [hz] at h2; exact of_decide_eq_true h2)]
 ·have hk:¬ k = 1:=by simpa using hk
  have hk2:k = 2:=by simpa using hk2
  refine ⟨fun h => ?_,fun h z hz z1 hz1 => ⟨fun h2 => ?_,fun h2 => ?_⟩⟩
  ·unfold chkS; rw [if_neg hk,if_pos hk2,if_pos (by simp only [bne_iff_ne] at h; omega)]
  ·unfold chkS; rw [if_neg hk,if_pos hk2,if_neg (by simp at h; omega),if_neg (by
    rintro ⟨p,q⟩
    rw [hz,hz1,decide_eq_true p,decide_eq_true q] at h2
    simp at h2)]
  ·unfold chkS; rw [if_neg hk,if_pos hk2,if_neg (by simp at h; omega),if_pos (by
    rw [hz,hz1] at h2
    exact ⟨of_decide_eq_true h2.1,of_decide_eq_true h2.2⟩)]
 ·have hk:¬ k = 1:=by simpa using hk
  have hk2:¬ k = 2:=by simpa using hk2
  have hk3:k = 3:=by simpa using hk3
  refine ⟨fun h => ?_,fun h => ?_⟩
  ·unfold chkS; rw [if_neg hk,if_neg hk2,if_pos hk3,if_pos (by simp only [bne_iff_ne] at h; omega)]
  have h4:¬ (r ≠ 0 ∨ w ≠ 0 ∨ t ≠ 0 ∨ n < 3 ∨ 8 < n):=by simp at h; omega
  have e0:chkS k r w t n X Y = if ∀ i,i < n → lo (X i) ∧ lo (Y i) then (if cvxS n X Y = true then 0 else 5) else 3:=by unfold chkS; rw [if_neg hk,if_neg hk2,if_pos hk3,if_neg h4]
  rw [e0]
  refine loopC_go (fun (i:Nat) => i ≤ n ∧ ∀ j,j < i → lo (X j) ∧ lo (Y j)) (fun i => n - i) (fun i => [(78,i64 i)]) (fun _ => []) [0] [79,80,81,4,82,83,84,85,86,87,88,89,90,91,92,93,94,95,2,96,78] 0 (by kernel_rfl) ?_ ⟨Nat.zero_le _,fun j hj => by omega⟩ ?_ ?_
  ·intro x _; simp [goodNames]
  ·simp only [go_sem]
  ·intro i hi
   simp only [go_sem,c89,eX,eY]
   refine ⟨fun hin => ⟨by omega,hin,fun z hz z1 hz1 => ⟨fun h5 => ?_,fun h5 z2 hz2 => ⟨i + 1,⟨by omega,fun j hj => ?_⟩,by omega,?_⟩⟩⟩,fun hin z hz => ⟨hg,by omega,fun j hj => hi.2 j (by omega),fun h5 => ?_,fun h5 => ?_⟩⟩
   ·rw [if_neg fun hc => ?_]
    have:=hc i (by omega)
    unfold lo at this
    omega
   ·by_cases e:j = i
    ·subst e; unfold lo; omega
    ·exact hi.2 j (by omega)
   ·rw [hz2,wrap_in (by unfold inR; omega)]; rfl
   ·rw [if_pos (fun j hj => hi.2 j (by omega)),if_neg (by rw [← hz,h5]; decide)]
   ·rw [if_pos (fun j hj => hi.2 j (by omega)),if_pos (by rw [← hz,h5])]
 ·have hk:¬ k = 1:=by simpa using hk
  have hk2:¬ k = 2:=by simpa using hk2
  have hk3:¬ k = 3:=by simpa using hk3
  unfold chkS; rw [if_neg hk,if_neg hk2,if_neg hk3]
theorem Rs_shape {w:World} {ρ:Env} {k x y r:Int} {n:Nat} {g:Nat → List AV} (hs:spots n g) (v:Value) (h:R w ρ (shapeA k x y r n g) v):R w ρ (shapeA k x y r n fun i => [i64 (gx g 0 i),i64 (gx g 1 i)]) v:=Rs_form hs v h
def c41:Con
 | [.agg [.v (.int .i64 k),.v (.int .i64 r),.v (.int .i64 w),.v (.int .i64 t),.ro n 2 g]] => some ([spots n g,n ≤ 9223372036854775806],i64 (chkS k r w t n (gx g 0) (gx g 1)))
 | _ => none
theorem con41:ConOK Tryz.prog 41 c41:=ConOK.go (G:=[(88,c88),(89,c89)]) (H:=[]) (.cons con88 (.cons con89 .nil)) Tryz.func41 fun l ob rr hc hob => by
 unfold c41 at hc
 split at hc
 ·rename_i k r w t n g
  cases hc
  have hs:spots n g:=hob _ (by simp)
  exact ⟨[shapeA k r w t n fun i => [i64 (gx g 0 i),i64 (gx g 1 i)]],fun w I vs h => Rs_one (Rs_shape hs) h,by kernel_rfl,vc41 k r w t n _ _ (fun i hi => (hs i hi).2) (hob _ (by simp))⟩
 ·cases hc
end Go.Ax
end
section
/-
  Rays and polygons.
-/
set_option maxHeartbeats 4000000
set_option maxRecDepth 100000
namespace Go.Ax
open Go.Proofs
theorem mth107_meets : methT Tryz.prog 107 "bagatelle/solid.meets" = some 234 := by kernel_rfl
theorem mth112_meets : methT Tryz.prog 112 "bagatelle/solid.meets" = some 238 := by kernel_rfl
attribute [go_sem] mth107_meets mth112_meets
abbrev HitT:=Bool × Nb × V2
def hit0:HitT:=(false,(0,false),((0,false),(0,false)))
abbrev hitC (h:HitT):List AV:=[bo h.1,i64 h.2.1.1,bo h.2.1.2,i64 h.2.2.1.1,bo h.2.2.1.2,i64 h.2.2.2.1,bo h.2.2.2.2]
def hitA (h:HitT):AV:=.agg (hitC h)
theorem bnd_hit {h:HitT}:bnd (hitA h) = .agg [bo h.1,i64 h.2.1.1,bo h.2.1.2,i64 h.2.2.1.1,bo h.2.2.1.2,i64 h.2.2.2.1,bo h.2.2.2.2]:=(rfl)
theorem plain_hit {h:HitT}:plain 3 (hitA h) = true:=(rfl)
attribute [go_sem] bnd_hit plain_hit
theorem turnS_bd {a b c d e f:Int} (h1:validS a b = true) (h2:validS c d = true) (h3:validS e f = true):-35184372088832 ≤ turnS a b c d e f ∧ turnS a b c d e f ≤ 35184372088832:=by
 rw [validS_iff] at h1 h2 h3
 have s1:sm (c - a):=by unfold sm; omega
 have s2:sm (d - b):=by unfold sm; omega
 have s3:sm (e - a):=by unfold sm; omega
 have s4:sm (f - b):=by unfold sm; omega
 have q1:=sm_mul s1 s4
 have q2:=sm_mul s2 s3
 unfold turnS
 omega
abbrev PS:=Int × (Int × Int) × (Int × Int)
def plS (G H:Nat → Int):Nat → PS
 | 0 => (-1,(-1,1),(1,1))
 | i + 1 => if G i < 0 then (if (plS G H i).2.1.1 * (H i - G i) < -G i * (plS G H i).2.1.2 then ((i:Int),(-G i,H i - G i),(plS G H i).2.2) else plS G H i)
  else if H i < 0 then (if G i * (plS G H i).2.2.2 < (plS G H i).2.2.1 * (G i - H i) then ((plS G H i).1,(plS G H i).2.1,(G i,G i - H i)) else plS G H i)
  else plS G H i
def plOK (G H:Nat → Int) (i:Nat) (s:PS):Prop:=
 (s.1 = -1 ∧ s.2.1 = (-1,1) ∨ ∃ j,j < i ∧ s.1 = (j:Int) ∧ G j < 0 ∧ 0 ≤ H j ∧ s.2.1 = (-G j,H j - G j)) ∧ (s.2.2 = (1,1) ∨ ∃ j,j < i ∧ 0 ≤ G j ∧ H j < 0 ∧ s.2.2 = (G j,G j - H j))
theorem plS_ok {G H:Nat → Int}:∀ (i:Nat),(∀ j,j < i → ¬ (G j < 0 ∧ H j < 0)) → plOK G H i (plS G H i)
 | 0,_ => ⟨.inl ⟨rfl,rfl⟩,.inl rfl⟩
 | i + 1,h => by
  obtain ⟨h1,h2⟩:=plS_ok i fun j hj => h j (by omega)
  have hi:=h i (by omega)
  have up1:(plS G H i).1 = -1 ∧ (plS G H i).2.1 = (-1,1) ∨ ∃ j,j < i + 1 ∧ (plS G H i).1 = (j:Int) ∧ G j < 0 ∧ 0 ≤ H j ∧ (plS G H i).2.1 = (-G j,H j - G j):=h1.imp id fun ⟨j,a,b⟩ => ⟨j,by omega,b⟩
  have up2:(plS G H i).2.2 = (1,1) ∨ ∃ j,j < i + 1 ∧ 0 ≤ G j ∧ H j < 0 ∧ (plS G H i).2.2 = (G j,G j - H j):=h2.imp id fun ⟨j,a,b⟩ => ⟨j,by omega,b⟩
  unfold plS
  split
  ·split
   ·exact ⟨.inr ⟨i,by omega,rfl,by assumption,by omega,rfl⟩,up2⟩
   ·exact ⟨up1,up2⟩
  ·split
   ·split
    ·exact ⟨up1,.inr ⟨i,by omega,by omega,by assumption,rfl⟩⟩
    ·exact ⟨up1,up2⟩
   ·exact ⟨up1,up2⟩
def plHit (n:Nat) (X Y:Nat → Int) (s:PS):HitT:=
 if s.1 < 0 then hit0 else (true,nRat (-s.2.1.1) (-s.2.1.2),vNorm (X s.1.toNat) (Y s.1.toNat) (X (nxt n s.1.toNat)) (Y (nxt n s.1.toNat)))
def pgT (n:Nat) (X Y:Nat → Int) (fx fy:Int) (i:Nat):Int:=turnS (X i) (Y i) (X (nxt n i)) (Y (nxt n i)) fx fy
def plF (n:Nat) (X Y:Nat → Int) (fx fy tx ty:Int):Bool:=anyB (fun i => decide (pgT n X Y fx fy i < 0 ∧ pgT n X Y tx ty i < 0)) n
def plE (n:Nat) (X Y:Nat → Int) (s:PS):HitT:=if s.1 < 0 ∨ s.2.2.1 * s.2.1.2 < s.2.1.1 * s.2.2.2 then hit0 else plHit n X Y s
def plH (n:Nat) (X Y:Nat → Int) (fx fy tx ty:Int):HitT:=
 if plF n X Y fx fy tx ty = true then hit0 else plE n X Y (plS (pgT n X Y fx fy) (pgT n X Y tx ty) n)
def c238:Con
 | [.agg [.ro n 2 g],.agg [.v (.int .i64 fx),.v (.int .i64 fy)],.agg [.v (.int .i64 tx),.v (.int .i64 ty)]] => some ([spots n g,n ≤ 9223372036854775806,∀ i,i < n → validS (gx g 0 i) (gx g 1 i) = true,validS fx fy = true,validS tx ty = true],hitA (plH n (gx g 0) (gx g 1) fx fy tx ty))
 | _ => none
theorem vc238 (n:Nat) (X Y:Nat → Int) (fx fy tx ty:Int) (hX:∀ i,i < n → inR (X i) ∧ inR (Y i)) (hn:n ≤ 9223372036854775806) (hv:∀ i,i < n → validS (X i) (Y i) = true) (hf:validS fx fy = true) (ht:validS tx ty = true) :
  fnVC Tryz.prog [(86,c86),(85,c85),(1000000 + 161,c161),(239,c239),(98,k132),(120,k173)] [(13,⟨[(9,.slot 9)],[]⟩)] Tryz.f238 [.agg [.ro n 2 fun i => [i64 (X i),i64 (Y i)]],.agg [i64 fx,i64 fy],.agg [i64 tx,i64 ty]] (· = hitA (plH n X Y fx fy tx ty)):=by
 refine fnVC_go (rs:=[.cell 6 80]) rfl rfl ?_
 simp only [go_sem,c85]
 have hg:spots n fun i => [i64 (X i),i64 (Y i)]:=fun i hi => ⟨rfl,hX i hi⟩
 generalize hG:pgT n X Y fx fy = G
 generalize hH:pgT n X Y tx ty = H
 have hGi:∀ i,turnS (X i) (Y i) (X (nxt n i)) (Y (nxt n i)) fx fy = G i:=fun i => by rw [← hG]; rfl
 have hHi:∀ i,turnS (X i) (Y i) (X (nxt n i)) (Y (nxt n i)) tx ty = H i:=fun i => by rw [← hH]; rfl
 have hGb:∀ i,i < n → -35184372088832 ≤ G i ∧ G i ≤ 35184372088832:=fun i hi => by rw [← hGi]; exact turnS_bd (hv i hi) (hv _ (nxt_lt hi)) hf
 have hHb:∀ i,i < n → -35184372088832 ≤ H i ∧ H i ≤ 35184372088832:=fun i hi => by rw [← hHi]; exact turnS_bd (hv i hi) (hv _ (nxt_lt hi)) ht
 have eF:plF n X Y fx fy tx ty = anyB (fun i => decide (G i < 0 ∧ H i < 0)) n:=by unfold plF; rw [hG,hH]
 have eH:plH n X Y fx fy tx ty = if anyB (fun i => decide (G i < 0 ∧ H i < 0)) n = true then hit0 else plE n X Y (plS G H n):=by unfold plH; rw [eF,hG,hH]
 rw [eH]
 clear eH eF
 refine rangeC_go (fun (i:Nat) => i ≤ n ∧ ∀ j,j < i → ¬ (G j < 0 ∧ H j < 0)) (fun i => i)
  (fun i => [(10,fam1 80 7 (hitC (plHit n X Y (plS G H i))) none),(7,fam1 243 2 [i64 (plS G H i).2.2.1,i64 (plS G H i).2.2.2] none),(6,fam1 243 2 [i64 (plS G H i).2.1.1,i64 (plS G H i).2.1.2] none)]) [3,2,1,0] [20,21,10,11,22,23,24,25,26,27,28,29,12,13,31,32,33,34,35,36,30,37,39,40,38,41,42,43,44,45,46,14,47,48,49,50,51,52,53,54,55,56,57,58,59,61,62,60,63,64,65,66,67,15,68,69,70,71] 0 0 (N:=n) (sq:=edgeE n fun i => [i64 (X i),i64 (Y i)]) (ob:=[spots n fun i => [i64 (X i),i64 (Y i)],n ≤ 9223372036854775806]) rfl (by simp [hg,hn]) (by kernel_rfl) rfl (fun i _ => ⟨rfl,rfl⟩) ⟨Nat.zero_le _,fun j hj => by omega⟩ rfl ⟨[],?_,?_,?_⟩ ?_ ?_
 ·simp only [go_sem,plS,plHit]
  exact ⟨rfl,rfl,rfl,rfl,rfl,rfl,rfl⟩
 ·simp only [go_sem]
 ·simp [goodNames,asg]
 ·intro i hi hlt
  simp only [go_sem,edgeE,c86,c239,k132,k173]
  have gb:=hGb i hlt
  have hb:=hHb i hlt
  obtain ⟨ok1,ok2⟩:=plS_ok i hi.2
  have in1:inR (plS G H i).2.1.1 ∧ inR (plS G H i).2.1.2:=by
   rcases ok1 with h | ⟨j,h1,_,_,_,h⟩
   ·rw [h.2]; exact ⟨by unfold inR; omega,by unfold inR; omega⟩
   ·have:=hGb j (by omega); have:=hHb j (by omega)
    rw [h]; exact ⟨by unfold inR; dsimp only; omega,by unfold inR; dsimp only; omega⟩
  have in2:inR (plS G H i).2.2.1 ∧ inR (plS G H i).2.2.2:=by
   rcases ok2 with h | ⟨j,h1,_,_,h⟩
   ·rw [h]; exact ⟨by unfold inR; omega,by unfold inR; omega⟩
   ·have:=hGb j (by omega); have:=hHb j (by omega)
    rw [h]; exact ⟨by unfold inR; dsimp only; omega,by unfold inR; dsimp only; omega⟩
  intro z hz
  rw [hGi] at hz; subst hz
  refine ⟨hv i hlt,hv _ (nxt_lt hlt),hf,fun z1 hz1 => ?_⟩
  rw [hHi] at hz1; subst hz1
  refine ⟨hv i hlt,hv _ (nxt_lt hlt),ht,fun h => ?_,fun h => ?_⟩
  ·have:anyB (fun i => decide (G i < 0 ∧ H i < 0)) n = true:=anyB_iff.2 ⟨i,hlt,decide_eq_true h⟩
   rw [if_pos this]; rfl
  have hno:¬ (G i < 0 ∧ H i < 0):=by simpa using h
  have hnext:∀ j,j < i + 1 → ¬ (G j < 0 ∧ H j < 0):=fun j hj => by
   by_cases e:j = i
   ·subst e; exact hno
   ·exact hi.2 j (by omega)
  refine ⟨fun hg => ?_,fun hg => ⟨fun hh => ?_,fun hh => ?_⟩⟩
  ·intro z2 hz2 z3 hz3 z4 hz4
   rw [wrap_in (by unfold inR; omega)] at hz2 hz3
   rw [show (0:Int) - G i = -G i by omega] at hz2
   subst hz2 hz3
   refine ⟨by unfold inR; omega,by unfold inR; omega,in1.1,in1.2,fun h4 z5 hz5 => ?_,fun h4 => ?_⟩
   ·rw [wrap_in (by unfold inR; omega)] at hz5
    subst hz5
    rw [hz4] at h4
    have es:plS G H (i + 1) = ((i:Int),(-G i,H i - G i),(plS G H i).2.2):=by
     conv => lhs; unfold plS
     rw [if_pos hg,if_pos (by simpa using h4)]
    refine ⟨by unfold inR; omega,by unfold inR; omega,hv i hlt,hv _ (nxt_lt hlt),i + 1,⟨by have:i < n:=hlt; omega,hnext⟩,rfl,[],?_⟩
    have eh:plHit n X Y ((i:Int),(-G i,H i - G i),(plS G H i).2.2) = (true,nRat (G i) (G i - H i),vNorm (X i) (Y i) (X (nxt n i)) (Y (nxt n i))):=by
     unfold plHit
     dsimp only
     rw [if_neg (by omega),show -(-G i) = G i by omega,show -(H i - G i) = G i - H i by omega]
     rfl
    simp only [go_sem,es,eh]
    simp [goodNames,asg]
   ·rw [hz4] at h4
    have es:plS G H (i + 1) = plS G H i:=by
     conv => lhs; unfold plS
     rw [if_pos hg,if_neg (by simpa using h4)]
    refine ⟨i + 1,⟨by have:i < n:=hlt; omega,hnext⟩,rfl,[],?_⟩
    simp only [go_sem,es]
    simp [goodNames,asg]
  ·intro z2 hz2 z4 hz4
   rw [wrap_in (by unfold inR; omega)] at hz2
   subst hz2
   refine ⟨in2.1,in2.2,by unfold inR; omega,by unfold inR; omega,fun h4 => ?_,fun h4 => ?_⟩
   ·rw [hz4] at h4
    have es:plS G H (i + 1) = ((plS G H i).1,(plS G H i).2.1,(G i,G i - H i)):=by
     conv => lhs; unfold plS
     rw [if_neg hg,if_pos hh,if_pos (by simpa using h4)]
    refine ⟨i + 1,⟨by have:i < n:=hlt; omega,hnext⟩,rfl,[],?_⟩
    have eh:plHit n X Y ((plS G H i).1,(plS G H i).2.1,(G i,G i - H i)) = plHit n X Y (plS G H i):=rfl
    simp only [go_sem,es,eh]
    simp [goodNames,asg]
   ·rw [hz4] at h4
    have es:plS G H (i + 1) = plS G H i:=by
     conv => lhs; unfold plS
     rw [if_neg hg,if_pos hh,if_neg (by simpa using h4)]
    refine ⟨i + 1,⟨by have:i < n:=hlt; omega,hnext⟩,rfl,[],?_⟩
    simp only [go_sem,es]
    simp [goodNames,asg]
  ·have es:plS G H (i + 1) = plS G H i:=by
    conv => lhs; unfold plS
    rw [if_neg hg,if_neg hh]
   refine ⟨i + 1,⟨by have:i < n:=hlt; omega,hnext⟩,rfl,[],?_⟩
   simp only [go_sem,es]
   simp [goodNames,asg]
 ·intro i hi he
  have he:i = n:=he
  subst he
  simp only [go_sem,c239]
  obtain ⟨ok1,ok2⟩:=plS_ok i hi.2
  have in1:inR (plS G H i).2.1.1 ∧ inR (plS G H i).2.1.2:=by
   rcases ok1 with h | ⟨j,h1,_,_,_,h⟩
   ·rw [h.2]; exact ⟨by unfold inR; omega,by unfold inR; omega⟩
   ·have:=hGb j (by omega); have:=hHb j (by omega)
    rw [h]; exact ⟨by unfold inR; dsimp only; omega,by unfold inR; dsimp only; omega⟩
  have in2:inR (plS G H i).2.2.1 ∧ inR (plS G H i).2.2.2:=by
   rcases ok2 with h | ⟨j,h1,_,_,h⟩
   ·rw [h]; exact ⟨by unfold inR; omega,by unfold inR; omega⟩
   ·have:=hGb j (by omega); have:=hHb j (by omega)
    rw [h]; exact ⟨by unfold inR; dsimp only; omega,by unfold inR; dsimp only; omega⟩
  have hno:¬ anyB (fun i => decide (G i < 0 ∧ H i < 0)) i = true:=fun h => by
   obtain ⟨j,h1,h2⟩:=anyB_iff.1 h
   exact hi.2 j h1 (of_decide_eq_true h2)
  have e1:(plHit i X Y (plS G H i)).1 = decide (¬ (plS G H i).1 < 0):=by
   unfold plHit; split
   ·rename_i h; rw [decide_eq_false (by simpa using h)]; rfl
   ·rename_i h; rw [decide_eq_true h]
  rw [if_neg hno]
  intro z hz
  refine ⟨fun _ => in1.1,fun _ => in1.2,fun _ => in2.1,fun _ => in2.2,fun h => ?_,fun h => ?_⟩
  ·have:(plS G H i).1 < 0 ∨ (plS G H i).2.2.1 * (plS G H i).2.1.2 < (plS G H i).2.1.1 * (plS G H i).2.2.2:=by
    rw [e1,hz] at h
    rcases h with h | h
    ·left; simpa using h
    ·right; simpa using h
   unfold plE; rw [if_pos this]; rfl
  ·have:¬ ((plS G H i).1 < 0 ∨ (plS G H i).2.2.1 * (plS G H i).2.1.2 < (plS G H i).2.1.1 * (plS G H i).2.2.2):=by
    rw [e1,hz] at h
    rintro (k | k)
    ·have:=h.1; simp at this; omega
    ·have:=h.2; simp at this; omega
   unfold plE; rw [if_neg this]; rfl
theorem con238:ConOK Tryz.prog 238 c238:=ConOK.go (G:=[(86,c86),(85,c85),(1000000 + 161,c161),(239,c239),(98,k132),(120,k173)]) (H:=[(13,⟨[(9,.slot 9)],[]⟩)]) (.cons con86 (.cons con85 (.seq seq161 (.cons con239 (.cons kon132 (.cons kon173 .nil)))))) Tryz.func238 fun l ob rr hc hob => by
 unfold c238 at hc
 split at hc
 ·rename_i n g fx fy tx ty
  cases hc
  have hs:spots n g:=hob _ (by simp)
  refine ⟨[.agg [.ro n 2 fun i => [i64 (gx g 0 i),i64 (gx g 1 i)]],.agg [i64 fx,i64 fy],.agg [i64 tx,i64 ty]],fun w I vs h => ?_,by kernel_rfl,vc238 n _ _ fx fy tx ty (fun i hi => (hs i hi).2) (hob _ (by simp)) (hob _ (by simp)) (hob _ (by simp)) (hob _ (by simp))⟩
  obtain ⟨x,xs,rfl,h1,h2⟩:=h.inv
  exact .cons (Rs_poly hs _ h1) h2
 ·cases hc
end Go.Ax
end