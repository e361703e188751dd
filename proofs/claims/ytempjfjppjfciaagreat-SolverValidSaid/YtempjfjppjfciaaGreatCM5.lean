/-
  Vectors.
-/
import Derived.Test.YtempjfjppjfciaaGreatCM4
set_option linter.unusedVariables false
set_option linter.unusedSimpArgs false
section
set_option maxHeartbeats 4000000
set_option maxRecDepth 100000
namespace Go.Ax
open Go.Proofs Go.Proofs.Tryz
abbrev nb (a:Nb):AV:=.agg [i64 a.1,bo a.2]
abbrev ve (a b:Nb):AV:=.agg [i64 a.1,bo a.2,i64 b.1,bo b.2]
def nRat (a b:Int):Nb:=(raV a b,raF a b || false)
def nDot (a b c d:Nb):Nb:=(ftV ((whV a.1 * whV b.1 + whV c.1 * whV d.1).tdiv 4294967296),ftF ((whV a.1 * whV b.1 + whV c.1 * whV d.1).tdiv 4294967296) || (whF a.1 a.2 || whF b.1 b.2 || whF c.1 c.2 || whF d.1 d.2))
def nHyp (a b:Nb):Nb:=(ftV (isq (whV a.1 * whV a.1 + whV b.1 * whV b.1).toNat),ftF (isq (whV a.1 * whV a.1 + whV b.1 * whV b.1).toNat) || (whF a.1 a.2 || whF b.1 b.2))
def nSub (a b:Nb):Nb:=(ftV (whV a.1 - whV b.1),ftF (whV a.1 - whV b.1) || (whF a.1 a.2 || whF b.1 b.2))
def nPos (a:Nb):Nb:=(if 0 < whV a.1 then whV a.1 else 0,whF a.1 a.2)
theorem nRat_rg {a b:Int}:rg (nRat a b).1:=raV_rg
theorem nDot_rg {a b c d:Nb}:rg (nDot a b c d).1:=ftV_rg _
theorem nHyp_rg {a b:Nb}:rg (nHyp a b).1:=ftV_rg _
theorem nSub_rg {a b:Nb}:rg (nSub a b).1:=ftV_rg _
def c125:Con
 | [.agg [.v (.int .i64 x),.v (.int .i64 y)]] => some ([inR x,inR y],ve (nRat x 256) (nRat y 256))
 | _ => none
theorem con125:ConOK prog 125 c125:=ConOK.of (G:=[(52,c52)]) (H:=[(1,⟨[(7,.slot 2)],[]⟩)]) (.cons con52 .nil) func125 fun l ob r hc hob => by
 unfold c125 at hc
 split at hc
 ·rename_i x y
  cases hc
  have h_0:=ob0 hob
  have h_1:=ob1 hob
  refine ⟨by kernel_rfl,fnVC_go (rs:=[.cell 2 29]) rfl rfl ?_⟩
  simp only [go_sem,c52]
  simp only [forall_eq]
  exact ⟨h_0,inRo (by omega),h_1,inRo (by omega),rfl⟩
 ·cases hc
def c175:Con
 | [.agg [.v (.int .i64 x),.v (.bool e),.v (.int .i64 y),.v (.bool f)]] => some ([inR x,inR y],nb (nHyp (x,e) (y,f)))
 | _ => none
theorem con175:ConOK prog 175 c175:=ConOK.of (G:=[(162,c162)]) (H:=[]) (.cons con162 .nil) func175 fun l ob r hc hob => by
 unfold c175 at hc
 split at hc
 ·rename_i x e y f
  cases hc
  have h_0:=ob0 hob
  have h_1:=ob1 hob
  refine ⟨by kernel_rfl,fnVC_go (rs:=[.cell 2 27]) rfl rfl ?_⟩
  simp only [go_sem,c162]
  simp only [forall_eq]
  exact ⟨h_0,h_1,rfl⟩
 ·cases hc
def c44:Con
 | [.agg [.v (.int .i64 x),.v (.bool e),.v (.int .i64 y),.v (.bool f)],.agg [.v (.int .i64 k),.v (.bool g)]] => some ([inR x,inR y,inR k],ve (nMul (x,e) (k,g)) (nMul (y,f) (k,g)))
 | _ => none
theorem con44:ConOK prog 44 c44:=ConOK.of (G:=[(47,c47)]) (H:=[(1,⟨[(9,.slot 4)],[]⟩)]) (.cons con47 .nil) func44 fun l ob r hc hob => by
 unfold c44 at hc
 split at hc
 ·rename_i x e y f k g
  cases hc
  have h_0:=ob0 hob
  have h_1:=ob1 hob
  have h_2:=ob2 hob
  refine ⟨by kernel_rfl,fnVC_go (rs:=[.cell 4 29]) rfl rfl ?_⟩
  simp only [go_sem,c47]
  simp only [forall_eq]
  exact ⟨h_0,h_2,h_1,h_2,rfl⟩
 ·cases hc
def c174:Con
 | [.agg [.v (.int .i64 x),.v (.bool e),.v (.int .i64 y),.v (.bool f)],.agg [.v (.int .i64 z),.v (.bool g),.v (.int .i64 t),.v (.bool h)]] => some ([inR x,inR y,inR z,inR t],nb (nDot (x,e) (z,g) (y,f) (t,h)))
 | _ => none
theorem con174:ConOK prog 174 c174:=ConOK.of (G:=[(129,c129)]) (H:=[]) (.cons con129 .nil) func174 fun l ob r hc hob => by
 unfold c174 at hc
 split at hc
 ·rename_i x e y f z g t h
  cases hc
  have h_0:=ob0 hob
  have h_1:=ob1 hob
  have h_2:=ob2 hob
  have h_3:=ob3 hob
  refine ⟨by kernel_rfl,fnVC_go (rs:=[.cell 4 27]) rfl rfl ?_⟩
  simp only [go_sem,c129]
  simp only [forall_eq]
  exact ⟨h_0,h_2,h_1,h_3,rfl⟩
 ·cases hc
def c85:Con
 | [.agg [.v (.int .i64 x),.v (.bool e),.v (.int .i64 y),.v (.bool f)],.agg [.v (.int .i64 z),.v (.bool g),.v (.int .i64 t),.v (.bool h)]] => some ([inR x,inR y,inR z,inR t],nb (nDot (x,e) (t,h) (nNeg (y,f)) (z,g)))
 | _ => none
theorem con85:ConOK prog 85 c85:=ConOK.of (G:=[(129,c129),(112,c112)]) (H:=[(1,⟨[(10,.slot 4)],[]⟩)]) (.cons con129 (.cons con112 .nil)) func85 fun l ob r hc hob => by
 unfold c85 at hc
 split at hc
 ·rename_i x e y f z g t h
  cases hc
  have h_0:=ob0 hob
  have h_1:=ob1 hob
  have h_2:=ob2 hob
  have h_3:=ob3 hob
  refine ⟨by kernel_rfl,fnVC_go (rs:=[.cell 4 27]) rfl rfl ?_⟩
  simp only [go_sem,c129,c112]
  simp only [forall_eq]
  exact ⟨h_1,h_0,h_3,rg_inR (nNeg_rg (a:=(y,f)) h_1),h_2,rfl⟩
 ·cases hc
def c159:Con
 | [.agg [.v (.int .i64 x),.v (.int .i64 y)]] => some ([inR x,inR y],ve (nRat x 256) (nRat y 256))
 | _ => none
theorem con159:ConOK prog 159 c159:=ConOK.of (G:=[(151,c151)]) (H:=[(1,⟨[(7,.slot 2)],[]⟩)]) (.cons con151 .nil) func159 fun l ob r hc hob => by
 unfold c159 at hc
 split at hc
 ·rename_i x y
  cases hc
  have h_0:=ob0 hob
  have h_1:=ob1 hob
  refine ⟨by kernel_rfl,fnVC_go (rs:=[.cell 2 29]) rfl rfl ?_⟩
  simp only [go_sem,c151]
  simp only [forall_eq]
  exact ⟨h_0,inRo (by omega),h_1,inRo (by omega),rfl⟩
 ·cases hc
def c66:Con
 | [.agg [.v (.int .i64 v),.v (.bool f)]] => some ([inR v],ve (csV v f,csF v f) (snV v f,snF v f))
 | _ => none
theorem con66:ConOK prog 66 c66:=ConOK.of (G:=[(126,c126),(127,c127)]) (H:=[(1,⟨[(5,.slot 2)],[]⟩)]) (.cons con126 (.cons con127 .nil)) func66 fun l ob r hc hob => by
 unfold c66 at hc
 split at hc
 ·rename_i v f
  cases hc
  have h_0:=ob0 hob
  refine ⟨by kernel_rfl,fnVC_go (rs:=[.cell 2 34]) rfl rfl ?_⟩
  simp only [go_sem,c126,c127]
  simp only [forall_eq]
  exact ⟨h_0,h_0,trivial⟩
 ·cases hc
def c242:Con
 | [.agg [.v (.int .i64 x),.v (.bool e),.v (.int .i64 y),.v (.bool f)],.agg [.v (.int .i64 z),.v (.bool g),.v (.int .i64 t),.v (.bool h)]] => some ([inR x,inR y,inR z,inR t],ve (nDot (x,e) (z,g) (nNeg (y,f)) (t,h)) (nDot (y,f) (z,g) (x,e) (t,h)))
 | _ => none
theorem con242:ConOK prog 242 c242:=ConOK.of (G:=[(184,c184),(238,c238)]) (H:=[(1,⟨[(20,.slot 4)],[]⟩)]) (.cons con184 (.cons con238 .nil)) func242 fun l ob r hc hob => by
 unfold c242 at hc
 split at hc
 ·rename_i x e y f z g t h
  cases hc
  have h_0:=ob0 hob
  have h_1:=ob1 hob
  have h_2:=ob2 hob
  have h_3:=ob3 hob
  refine ⟨by kernel_rfl,fnVC_go (rs:=[.cell 4 29]) rfl rfl ?_⟩
  simp only [go_sem,c184,c238]
  simp only [forall_eq]
  exact ⟨h_1,h_0,h_2,rg_inR (nNeg_rg (a:=(y,f)) h_1),h_3,h_1,h_2,h_0,h_3,rfl⟩
 ·cases hc
theorem nums1 {a:Int} {e:Bool} {g:Nat → List AV} (h0:g 0 = [i64 a,bo e]) (ha:inR a):nums 1 g:=by
 intro i hi
 have:i = 0:=by omega
 subst this
 simp only [gx,gb,h0,gi_0,gib_1]; exact ⟨trivial,ha⟩
def c239:Con
 | [.agg [.v (.int .i64 x),.v (.bool f)]] => some ([inR x],bo (whF x f))
 | _ => none
theorem con239:ConOK prog 239 c239:=ConOK.of (G:=[(248,c248)]) (H:=[]) (.cons con248 .nil) func239 fun l ob r hc hob => by
 unfold c239 at hc
 split at hc
 ·rename_i x f
  cases hc
  have h_0:=ob0 hob
  refine ⟨by kernel_rfl,fnVC_go (rs:=[.tmp 2]) rfl rfl ?_⟩
  simp only [go_sem,c248]
  simp only [forall_eq]
  have e:suS (wvS (rowsOf 2 [i64 x,bo f])) 1 = whV x:=by
   show 0 + whV (gx (rowsOf 2 [i64 x,bo f]) 0 0) = _
   rw [Int.zero_add]; rfl
  have e2:wfS 1 (rowsOf 2 [i64 x,bo f]) = whF x f:=by
   show (false || whF (gx (rowsOf 2 [i64 x,bo f]) 0 0) (gb (rowsOf 2 [i64 x,bo f]) 1 0)) = _
   rfl
  rw [e,e2,ftF_of (whV_rg h_0)]
  exact ⟨nums1 rfl h_0,rfl⟩
 ·cases hc
def c155:Con
 | [.agg [.v (.int .i64 x),.v (.bool e),.v (.int .i64 y),.v (.bool f)]] => some ([inR x,inR y],i64 (if (whF x e = true ∨ whF y f = true) ∨ (65536 < (nDot (x,e) (x,e) (y,f) (y,f)).1 - 4294967296 ∨ 65536 < 4294967296 - (nDot (x,e) (x,e) (y,f) (y,f)).1) then 3 else 0))
 | _ => none
theorem con155:ConOK prog 155 c155:=ConOK.of (G:=[(238,c238),(239,c239)]) (H:=[]) (.cons con238 (.cons con239 .nil)) func155 fun l ob r hc hob => by
 unfold c155 at hc
 split at hc
 ·rename_i x e y f
  cases hc
  have h_0:=ob0 hob
  have h_1:=ob1 hob
  refine ⟨by kernel_rfl,fnVC_go (rs:=[.tmp 2]) rfl rfl ?_⟩
  simp only [go_sem,c238,c239]
  simp only [forall_eq]
  have k0:0 ≤ (whV x * whV x + whV y * whV y).tdiv 4294967296:=Int.tdiv_nonneg (by have:=sq_nonneg (a:=whV x); have:=sq_nonneg (a:=whV y); omega) (by omega)
  have k1:0 ≤ ftV ((whV x * whV x + whV y * whV y).tdiv 4294967296) ∧ ftV ((whV x * whV x + whV y * whV y).tdiv 4294967296) ≤ 9223372036854775807:=by unfold ftV; (repeat' split) <;> omega
  have e:(nDot (x,e) (x,e) (y,f) (y,f)).1 = ftV ((whV x * whV x + whV y * whV y).tdiv 4294967296):=rfl
  rw [e]
  generalize ftV ((whV x * whV x + whV y * whV y).tdiv 4294967296) = n at *
  rw [wrap_in (x:=n - 4294967296) (inRo (by omega)),wrap_in (x:=4294967296 - n) (inRo (by omega))]
  refine ⟨h_0,h_0,h_1,h_1,h_0,fun _ => h_1,fun h => ?_,fun h => ?_⟩
  ·rw [if_pos (by rcases h with (h | h) | h
                  ·exact .inl h
                  ·exact .inr (.inl h)
                  ·exact .inr (.inr h))]
  ·rw [if_neg (by
    rintro ((k | k) | (k | k))
    ·rw [h.1.1.1] at k; cases k
    ·rw [h.1.1.2] at k; cases k
    ·exact h.1.2 k
    ·exact h.2 k)]
 ·cases hc
def c39:Con
 | [.v (.int .i64 n),.v (.int .i64 s)] => some ([inR n,1 ≤ s ∧ s ≤ 1000000],.agg [i64 (n.tmod (s * 4294967296)),bo false])
 | _ => none
theorem con39:ConOK prog 39 c39:=ConOK.of (G:=[]) (H:=[]) .nil func39 fun l ob r hc hob => by
 unfold c39 at hc
 split at hc
 ·rename_i n s
  cases hc
  have h_0:=ob0 hob
  have h_1:=ob1 hob
  refine ⟨by kernel_rfl,fnVC_go (rs:=[.cell 4 27]) rfl rfl ?_⟩
  simp only [go_sem]
  intro z hz
  rw [wrap_in (inRo (by omega))] at hz
  rw [hz]
  exact ⟨by omega,fun z1 hz1 => by rw [hz1]⟩
 ·cases hc
def c147:Con
 | [.v (.int .i64 n)] => some ([],bo (decide (16 ≤ n ∧ n ≤ 4096)))
 | _ => none
theorem con147:ConOK prog 147 c147:=ConOK.of (G:=[]) (H:=[]) .nil func147 fun l ob r hc hob => by
 unfold c147 at hc
 split at hc
 ·rename_i n
  cases hc
  refine ⟨by kernel_rfl,fnVC_go (rs:=[.tmp 2]) rfl rfl ?_⟩
  simp only [go_sem]
  rw [Bool.eq_iff_iff]; simp
 ·cases hc
def c148:Con
 | [.v (.int .i64 n)] => some ([],bo (decide (-4096 ≤ n ∧ n ≤ 4096)))
 | _ => none
theorem con148:ConOK prog 148 c148:=ConOK.of (G:=[]) (H:=[]) .nil func148 fun l ob r hc hob => by
 unfold c148 at hc
 split at hc
 ·rename_i n
  cases hc
  refine ⟨by kernel_rfl,fnVC_go (rs:=[.tmp 2]) rfl rfl ?_⟩
  simp only [go_sem]
  rw [Bool.eq_iff_iff]; simp
 ·cases hc
def c153:Con
 | [.agg [.v (.int .i64 a),.v (.int .i64 b)],.agg [.v (.int .i64 c),.v (.int .i64 d)]] => some ([],i64 (IntKind.i64.wrap (a * d - b * c)))
 | _ => none
theorem con153:ConOK prog 153 c153:=ConOK.of (G:=[]) (H:=[]) .nil func153 fun l ob r hc hob => by
 unfold c153 at hc
 split at hc
 ·rename_i a b c d
  cases hc
  refine ⟨by kernel_rfl,fnVC_go (rs:=[.tmp 4]) rfl rfl ?_⟩
  simp only [go_sem]
  simp only [forall_eq]
  rw [wrap_i64,wrap_i64,wrap_i64,wrap_i64]
  generalize a * d = p
  generalize b * c = q
  omega
 ·cases hc
def c233:Con
 | [.agg [.v (.int .i64 a),.v (.int .i64 b)],.agg [.v (.int .i64 c),.v (.int .i64 d)]] => some ([],.agg [i64 (IntKind.i64.wrap (a - c)),i64 (IntKind.i64.wrap (b - d))])
 | _ => none
theorem con233:ConOK prog 233 c233:=ConOK.of (G:=[]) (H:=[]) .nil func233 fun l ob r hc hob => by
 unfold c233 at hc
 split at hc
 ·rename_i a b c d
  cases hc
  refine ⟨by kernel_rfl,fnVC_go (rs:=[.cell 4 116]) rfl rfl ?_⟩
  simp only [go_sem]
  simp only [forall_eq]
 ·cases hc
def c234:Con
 | [.agg [.v (.int .i64 a),.v (.int .i64 b)]] => some ([-1000000 ≤ a ∧ a ≤ 1000000,-1000000 ≤ b ∧ b ≤ 1000000],i64 (ab a + ab b))
 | _ => none
theorem con234:ConOK prog 234 c234:=ConOK.of (G:=[]) (H:=[]) .nil func234 fun l ob r hc hob => by
 unfold c234 at hc
 split at hc
 ·rename_i a b
  cases hc
  have h_0:=ob0 hob
  have h_1:=ob1 hob
  refine ⟨by kernel_rfl,fnVC_go (rs:=[.tmp 2]) rfl rfl ?_⟩
  simp only [go_sem]
  simp only [forall_eq]
  rw [wrap_in (x:=0 - a) (inRo (by omega)),wrap_in (x:=0 - b) (inRo (by omega)),wrap_in (inRo (by omega))]
  unfold ab
  split <;> split <;> omega
 ·cases hc
def c156:Con
 | [.agg [.v (.int .i64 a),.v (.bool e)]] => some ([inR a],bo (whF a e || decide (17592186044416 < ab (whV a))))
 | _ => none
theorem con156:ConOK prog 156 c156:=ConOK.of (G:=[(240,c240)]) (H:=[]) (.cons con240 .nil) func156 fun l ob r hc hob => by
 unfold c156 at hc
 split at hc
 ·rename_i a e
  cases hc
  have h_0:=ob0 hob
  refine ⟨by kernel_rfl,fnVC_go (rs:=[.tmp 2]) rfl rfl ?_⟩
  simp only [go_sem,c240]
  simp only [forall_eq]
  exact ⟨h_0,trivial⟩
 ·cases hc
def spV (a:Nb):Int:=(whV (nMul a (nInt 256)).1 + 2147483648) / 4294967296
def c157:Con
 | [.agg [.v (.int .i64 a),.v (.bool e),.v (.int .i64 b),.v (.bool f)]] => some ([inR a,inR b],.agg [i64 (spV (a,e)),i64 (spV (b,f))])
 | _ => none
theorem con157:ConOK prog 157 c157:=ConOK.of (G:=[(33,c33),(241,c241),(185,c185)]) (H:=[(2,⟨[(11,.slot 2)],[]⟩)]) (.cons con33 (.cons con241 (.cons con185 .nil))) func157 fun l ob r hc hob => by
 unfold c157 at hc
 split at hc
 ·rename_i a e b f
  cases hc
  have h_0:=ob0 hob
  have h_1:=ob1 hob
  refine ⟨by kernel_rfl,fnVC_go (rs:=[.cell 2 116]) rfl rfl ?_⟩
  simp only [go_sem,c33,c241,c185]
  simp only [forall_eq]
  exact ⟨inRo (by omega),h_0,rg_inR (ftV_rg _),rg_inR (ftV_rg _),h_1,rg_inR (ftV_rg _),rg_inR (ftV_rg _),rfl⟩
 ·cases hc
def vfS (n:Nat) (g:Nat → List AV):Bool:=anyB (fun i => whF (gx g 0 i) (gb g 1 i) || whF (gx g 2 i) (gb g 3 i)) n
theorem gib_3 {a b c:AV} {x:Bool} {l:List AV}:gib (a :: b :: c :: .v (.bool x) :: l) 3 = x:=(rfl)
attribute [go_sem] gib_3
def vecs (n:Nat) (g:Nat → List AV):Prop:=∀ i,i < n → g i = [i64 (gx g 0 i),bo (gb g 1 i),i64 (gx g 2 i),bo (gb g 3 i)] ∧ inR (gx g 0 i) ∧ inR (gx g 2 i)
def c188:Con
 | [.agg [.v (.int .i64 x),.v (.bool e),.v (.int .i64 y),.v (.bool f)]] => some ([inR x,inR y],bo (whF x e || whF y f))
 | _ => none
theorem con188:ConOK prog 188 c188:=ConOK.of (G:=[(112,c112)]) (H:=[]) (.cons con112 .nil) func188 fun l ob r hc hob => by
 unfold c188 at hc
 split at hc
 ·rename_i x e y f
  cases hc
  have h_0:=ob0 hob
  have h_1:=ob1 hob
  refine ⟨by kernel_rfl,fnVC_go (rs:=[.tmp 2]) rfl rfl ?_⟩
  simp only [go_sem,c112]
  simp only [forall_eq]
  exact ⟨h_0,fun _ => h_1,trivial⟩
 ·cases hc
def ixS (G:Nat → Bool):Nat → Nat → Int
 | _,0 => -1
 | i,k + 1 => if G i = true then i else ixS G (i + 1) k
theorem ixS_any {G:Nat → Bool} {n:Nat}:∀ (k i:Nat),i + k = n → (∀ j,j < i → G j = false) → decide (0 ≤ ixS G i k) = anyB G n
 | 0,i,h,hj => by
  have:anyB G n = false:=by
   rw [Bool.eq_false_iff]
   intro hc
   obtain ⟨j,h1,h2⟩:=anyB_iff.1 hc
   rw [hj j (by omega)] at h2; cases h2
  rw [this]; rfl
 | k + 1,i,h,hj => by
  unfold ixS
  by_cases hg:G i = true
  ·rw [if_pos hg,decide_eq_true (by omega)]
   exact (anyB_iff.2 ⟨i,by omega,hg⟩).symm
  ·rw [if_neg hg]
   exact ixS_any k (i + 1) (by omega) fun j hj2 => by
    by_cases e:j = i
    ·subst e; exact Bool.eq_false_iff.2 hg
    ·exact hj j (by omega)
def vflS (g:Nat → List AV) (i:Nat):Bool:=whF (gx g 0 i) (gb g 1 i) || whF (gx g 2 i) (gb g 3 i)
def c252:Con
 | [.ro n 4 g,.fn 188 []] => some ([vecs n g,n ≤ 1000],i64 (ixS (vflS g) 0 n))
 | _ => none
theorem vc252 (n:Nat) (X Y:Nat → Int) (E F:Nat → Bool) (hX:∀ i,i < n → inR (X i) ∧ inR (Y i)) (hn:n ≤ 1000):fnVC prog [(188,c188)] [] Tryz.f252 [.ro n 4 fun i => [i64 (X i),bo (E i),i64 (Y i),bo (F i)],.fn 188 []] (· = i64 (ixS (fun i => whF (X i) (E i) || whF (Y i) (F i)) 0 n)):=by
 refine fnVC_go (rs:=[.tmp 4]) rfl rfl ?_
 simp only [go_sem]
 refine loopC_go (fun (i:Nat) => i ≤ n ∧ ixS (fun i => whF (X i) (E i) || whF (Y i) (F i)) 0 n = ixS (fun i => whF (X i) (E i) || whF (Y i) (F i)) i (n - i)) (fun i => n - i) (fun i => [(8,i64 i)]) (fun _ => []) [] [9,10,5,11,12,13,14,15,16,17,4,18,8] 0 (by kernel_rfl) ?_ ⟨Nat.zero_le _,rfl⟩ ?_ ?_
 ·intro x _; simp [goodNames]
 ·simp only [go_sem]
 ·intro i hi
  simp only [go_sem,c188]
  generalize hG:(fun i => whF (X i) (E i) || whF (Y i) (F i)) = G at *
  have hGi:G i = (whF (X i) (E i) || whF (Y i) (F i)):=by rw [← hG]
  rw [← hGi]
  refine ⟨fun h => ⟨by omega,h,fun z hz => ⟨(hX i (by omega)).1,(hX i (by omega)).2,fun hz1 => ?_,fun hz1 z2 hz2 => ⟨i + 1,⟨by omega,?_⟩,by omega,?_⟩⟩⟩,fun h => ?_⟩
  ·rw [hi.2,show n - i = (n - i - 1) + 1 by omega]
   unfold ixS
   rw [if_pos (by rw [← hz]; exact hz1)]
  ·rw [hi.2,show n - i = (n - i - 1) + 1 by omega]
   conv => lhs; unfold ixS
   rw [if_neg (by rw [← hz,hz1]; decide),show n - (i + 1) = n - i - 1 by omega]
  ·rw [hz2,wrap_in (inRo (by omega))]; rfl
  ·rw [hi.2,show n - i = 0 by omega]; rfl
theorem con252:ConOK prog 252 c252:=ConOK.go (G:=[(188,c188)]) (H:=[]) (.cons con188 .nil) func252 fun l ob r hc hob => by
 unfold c252 at hc
 split at hc
 ·rename_i n g
  cases hc
  have hs:vecs n g:=hob _ (by simp)
  refine ⟨[.ro n 4 fun i => [i64 (gx g 0 i),bo (gb g 1 i),i64 (gx g 2 i),bo (gb g 3 i)],.fn 188 []],fun w I vs h => ?_,by kernel_rfl,vc252 n _ _ _ _ (fun i hi => (hs i hi).2) (hob _ (by simp))⟩
  obtain ⟨x,xs,rfl,h1,h2⟩:=h.inv
  exact .cons (ro_alike (fun i hi => (hs i hi).1) h1) h2
 ·cases hc
def c187:Con
 | [.ro n 4 g,.fn 188 []] => some ([vecs n g,n ≤ 1000],bo (vfS n g))
 | _ => none
theorem con187:ConOK prog 187 c187:=ConOK.of (G:=[(252,c252)]) (H:=[]) (.cons con252 .nil) func187 fun l ob r hc hob => by
 unfold c187 at hc
 split at hc
 ·rename_i n g
  cases hc
  have h_0:=ob0 hob
  have h_1:=ob1 hob
  refine ⟨by kernel_rfl,fnVC_go (rs:=[.tmp 4]) rfl rfl ?_⟩
  simp only [go_sem,c252]
  simp only [forall_eq]
  exact ⟨h_0,h_1,ixS_any n 0 (by omega) fun j hj => by omega⟩
 ·cases hc
def c128:Con
 | [.ro n 4 g] => some ([vecs n g,n ≤ 1000],bo (vfS n g))
 | _ => none
theorem con128:ConOK prog 128 c128:=ConOK.of (G:=[(187,c187)]) (H:=[]) (.cons con187 .nil) func128 fun l ob r hc hob => by
 unfold c128 at hc
 split at hc
 ·rename_i n g
  cases hc
  have h_0:=ob0 hob
  have h_1:=ob1 hob
  refine ⟨by kernel_rfl,fnVC_go (rs:=[.tmp 2]) rfl rfl ?_⟩
  simp only [go_sem,c187]
  simp only [forall_eq]
  exact ⟨h_0,h_1,trivial⟩
 ·cases hc
theorem vecs1 {a b:Int} {e f:Bool} {g:Nat → List AV} (h0:g 0 = [i64 a,bo e,i64 b,bo f]) (ha:inR a) (hb:inR b):vecs 1 g:=by
 intro i hi
 have:i = 0:=by omega
 subst this
 simp only [gx,gb,h0,gi_0,gib_1,gi_2,gib_3]; exact ⟨trivial,ha,hb⟩
theorem vf1 {a b:Int} {e f:Bool} {g:Nat → List AV} (h0:g 0 = [i64 a,bo e,i64 b,bo f]):vfS 1 g = (whF a e || whF b f):=by
 simp only [vfS,anyB,gx,gb,h0,gi_0,gib_1,gi_2,gib_3,Bool.false_or]
def unB (x y:Int):Nb × Nb:=if ab x < 16777216 ∧ ab y < 16777216 then ((x * 16777216,false),(y * 16777216,false)) else ((x,false),(y,false))
def unS (x:Int) (e:Bool) (y:Int) (f:Bool):Bool × Nb × Nb:=
 if whF x e = true ∨ whF y f = true then (false,(0,false),(0,false))
 else if (nHyp (unB x y).1 (unB x y).2).2 = true ∨ (nHyp (unB x y).1 (unB x y).2).1 = 0 then (false,(0,false),(0,false))
 else (true,nDiv (unB x y).1 (nHyp (unB x y).1 (unB x y).2),nDiv (unB x y).2 (nHyp (unB x y).1 (unB x y).2))
theorem wh_split {v:Int} {f:Bool} (h:whF v f = false):v ≠ -9223372036854775808 ∧ f = false:=by
 unfold whF at h
 rw [Bool.or_eq_false_iff] at h
 exact ⟨of_decide_eq_false h.1,h.2⟩
theorem unS_none {x y:Int} {e f:Bool} (h:whF x e = true ∨ whF y f = true):unS x e y f = (false,(0,false),(0,false)):=by unfold unS; rw [if_pos h]
theorem unS_nul {x y:Int} {e f:Bool} {a b:Nb} (h:¬ (whF x e = true ∨ whF y f = true)) (hb:unB x y = (a,b)) (h2:(nHyp a b).2 = true ∨ (nHyp a b).1 = 0):unS x e y f = (false,(0,false),(0,false)):=by unfold unS; rw [if_neg h,hb,if_pos h2]
theorem unS_some {x y:Int} {e f:Bool} {a b:Nb} (h:¬ (whF x e = true ∨ whF y f = true)) (hb:unB x y = (a,b)) (h2:¬ ((nHyp a b).2 = true ∨ (nHyp a b).1 = 0)):unS x e y f = (true,nDiv a (nHyp a b),nDiv b (nHyp a b)):=by unfold unS; rw [if_neg h,hb,if_neg h2]
def c172:Con
 | [.agg [.v (.int .i64 x),.v (.bool e),.v (.int .i64 y),.v (.bool f)]] => some ([inR x,inR y],.tup [ve (unS x e y f).2.1 (unS x e y f).2.2,bo (unS x e y f).1])
 | _ => none
theorem con172:ConOK prog 172 c172:=ConOK.of (G:=[(128,c128),(175,c175),(78,c78)]) (H:=[(8,⟨[(9,.slot 2)],[]⟩)]) (.cons con128 (.cons con175 (.cons con78 .nil))) func172 fun l ob r hc hob => by
 unfold c172 at hc
 split at hc
 ·rename_i x e y f
  cases hc
  have h_0:=ob0 hob
  have h_1:=ob1 hob
  refine ⟨by kernel_rfl,fnVC_go (rs:=[.cell 2 29,.tmp 3]) rfl rfl ?_⟩
  simp only [go_sem,c128,c175,c78]
  intro z hz
  refine ⟨vecs1 rfl h_0 h_1,fun ht => ?_,fun ht z1 hz1 z2 hz2 z3 hz3 => ?_⟩
  ·rw [hz,vf1 rfl] at ht
   have ht:whF x e = true ∨ whF y f = true:=by simpa using ht
   rw [unS_none ht]
  ·rw [hz,vf1 rfl] at ht
   have ht2:whF x e = false ∧ whF y f = false:=by simpa using ht
   have ht:¬ (whF x e = true ∨ whF y f = true):=by rw [ht2.1,ht2.2]; simp
   obtain ⟨hx,rfl⟩:=wh_split ht2.1
   obtain ⟨hy,rfl⟩:=wh_split ht2.2
   have hm:z3 < 16777216 ↔ ab x < 16777216 ∧ ab y < 16777216:=by
    rw [hz3,hz1,hz2,wrap_in (by unfold inR at *; omega),wrap_in (by unfold inR at *; omega)]
    unfold ab
    split <;> split <;> omega
   refine ⟨fun hs => ?_,fun hs => ?_⟩
   ·have hs:=hm.1 hs
    have hxb:-16777216 < x ∧ x < 16777216:=by unfold ab at hs; have:=hs.1; split at this <;> omega
    have hyb:-16777216 < y ∧ y < 16777216:=by unfold ab at hs; have:=hs.2; split at this <;> omega
    have hb:unB x y = ((x * 16777216,false),(y * 16777216,false)):=by unfold unB; rw [if_pos hs]
    rw [wrap_in (x:=x * 16777216) (inRo (by omega)),wrap_in (x:=y * 16777216) (inRo (by omega))]
    simp only [forall_eq]
    refine ⟨inRo (by omega),inRo (by omega),fun h => ?_,fun h => ⟨inRo (by omega),rg_inR nHyp_rg,inRo (by omega),rg_inR nHyp_rg,?_⟩⟩
    ·rw [unS_nul ht hb (by simpa using h)]
    ·rw [unS_some ht hb (by simpa using h)]
     rfl
   ·have hs:¬ (ab x < 16777216 ∧ ab y < 16777216):=fun h => hs (hm.2 h)
    have hb:unB x y = ((x,false),(y,false)):=by unfold unB; rw [if_neg hs]
    simp only [forall_eq]
    refine ⟨h_0,h_1,fun h => ?_,fun h => ⟨h_0,rg_inR nHyp_rg,h_1,rg_inR nHyp_rg,?_⟩⟩
    ·rw [unS_nul ht hb (by simpa using h)]
    ·rw [unS_some ht hb (by simpa using h)]
     rfl
 ·cases hc
theorem unS_rg {x y:Int} {e f:Bool}:rg (unS x e y f).2.1.1 ∧ rg (unS x e y f).2.2.1:=by
 have z:rg 0:=by unfold rg; omega
 unfold unS
 split
 ·exact ⟨z,z⟩
 ·split
  ·exact ⟨z,z⟩
  ·exact ⟨nDiv_rg,nDiv_rg⟩
theorem suS_congr {X Y:Nat → Int}:∀ {n:Nat},(∀ i,i < n → X i = Y i) → suS X n = suS Y n
 | 0,_ => rfl
 | n + 1,h => by unfold suS; rw [suS_congr (n:=n) fun i hi => h i (by omega),h n (by omega)]
theorem anyB_congr {X Y:Nat → Bool}:∀ {n:Nat},(∀ i,i < n → X i = Y i) → anyB X n = anyB Y n
 | 0,_ => rfl
 | n + 1,h => by unfold anyB; rw [anyB_congr (n:=n) fun i hi => h i (by omega),h n (by omega)]
def upB (i:Nat) (Z:Nat → Bool) (j:Nat):Bool:=if j < i then Z j else false
theorem upB_zero {Z:Nat → Bool} {j:Nat}:upB 0 Z j = false:=by unfold upB; rw [if_neg (by omega)]
theorem upB_self {i:Nat} {Z:Nat → Bool}:upB (i + 1) Z i = Z i:=by unfold upB; rw [if_pos (by omega)]
theorem upB_lt {i j:Nat} {Z:Nat → Bool} (h:j < i):upB i Z j = Z j:=by unfold upB; rw [if_pos h]
theorem upB_ne {i j:Nat} {Z:Nat → Bool} (h:j ≠ i):upB (i + 1) Z j = upB i Z j:=by
 unfold upB
 by_cases e:j < i
 ·rw [if_pos e,if_pos (by omega)]
 ·rw [if_neg e,if_neg (by omega)]
def su1 (n:Nat) (X:Nat → Int) (E:Nat → Bool):Nb:=(ftV (suS (fun i => whV (X i)) n),ftF (suS (fun i => whV (X i)) n) || anyB (fun i => whF (X i) (E i)) n)
theorem wvS_up {n:Nat} {X:Nat → Int} {E:Nat → Bool} {g:Nat → List AV} (h:∀ j,j < n → g j = [i64 (X j),bo (E j)]):suS (wvS g) n = suS (fun i => whV (X i)) n ∧ wfS n g = anyB (fun i => whF (X i) (E i)) n:=
 ⟨suS_congr fun i hi => by simp only [wvS,gx,h i hi,gi_0],anyB_congr fun i hi => by simp only [gx,gb,h i hi,gi_0,gib_1]⟩
theorem nums_up {n:Nat} {X:Nat → Int} {E:Nat → Bool} {g:Nat → List AV} (h:∀ j,j < n → g j = [i64 (X j),bo (E j)]) (hX:∀ j,j < n → inR (X j)):nums n g:=fun i hi => by
 simp only [gx,gb,h i hi,gi_0,gib_1]; exact ⟨trivial,hX i hi⟩
def c43:Con
 | [.ro n 4 g] => some ([vecs n g,n ≤ 1000],ve (su1 n (gx g 0) (gb g 1)) (su1 n (gx g 2) (gb g 3)))
 | _ => none
theorem vc43 (n:Nat) (X Y:Nat → Int) (E F:Nat → Bool) (hX:∀ i,i < n → inR (X i) ∧ inR (Y i)) (hn:n ≤ 1000):fnVC prog [(68,c68)] [(5,⟨[(9,.slot 3),(11,.slot 4)],[(7,[.slot 3])]⟩)] Tryz.f43 [.ro n 4 fun i => [i64 (X i),bo (E i),i64 (Y i),bo (F i)]] (· = ve (su1 n X E) (su1 n Y F)):=by
 refine fnVC_go (rs:=[.cell 2 29]) rfl rfl ?_
 simp only [go_sem]
 have hb:((bytesT prog 27:Nat):Int) * (n:Int) ≤ 281474976710656:=by rw [show bytesT prog 27 = 16 by kernel_rfl]; omega
 refine ⟨by omega,by omega,hb,by omega,by omega,hb,?_⟩
 refine loopC_go (fun (i:Nat) => i ≤ n) (fun i => n - i) (fun i => [(15,i64 i)]) (fun i => [(6,famN n 2 27 (fun j => [i64 (uptN i Y j),bo (upB i F j)]) none),(3,famN n 2 27 (fun j => [i64 (uptN i X j),bo (upB i E j)]) none)]) [0] [16,17,18,19,6,5,20,21,22,23,24,25,26,27,28,29,30,15] 0 (by kernel_rfl) ?_ (Nat.zero_le _) ?_ ?_
 ·intro x _; simp [goodNames,asg]
 ·simp only [go_sem,uptN_zero,upB_zero,implies_true]
 ·intro i hi
  simp only [go_sem,c68]
  have hw:IntKind.i64.wrap ((i:Int) + 1) = ((i + 1:Nat):Int):=by rw [wrap_in (inRo (by omega))]; rfl
  refine ⟨fun hin => ⟨by omega,hin,by omega,hin,by omega,by omega,hin,by omega,fun z hz => ⟨i + 1,by omega,by omega,by rw [hz,hw],fun j hj => ?_,fun j hj => ?_⟩⟩,fun hin => ?_⟩
  ·by_cases e:j = i
   ·subst e
    rw [if_pos rfl]
    simp only [go_sem,uptN_self,upB_self]
   ·rw [if_neg e]
    have h1:∀ Z,uptN (i + 1) Z j = uptN i Z j:=fun Z => uptN_ne e
    have h2:∀ Z,upB (i + 1) Z j = upB i Z j:=fun Z => upB_ne e
    simp only [go_sem,h1,h2]
  ·by_cases e:j = i
   ·subst e
    rw [if_pos rfl]
    simp only [go_sem,uptN_self,upB_self]
   ·rw [if_neg e]
    have h1:∀ Z,uptN (i + 1) Z j = uptN i Z j:=fun Z => uptN_ne e
    have h2:∀ Z,upB (i + 1) Z j = upB i Z j:=fun Z => upB_ne e
    simp only [go_sem,h1,h2]
  ·have e:i = n:=by omega
   subst e
   have hx:∀ j,j < i → (fun j => [i64 (uptN i X j),bo (upB i E j)]) j = [i64 (X j),bo (E j)]:=fun j hj => by dsimp only; rw [uptN_lt hj,upB_lt hj]
   have hy:∀ j,j < i → (fun j => [i64 (uptN i Y j),bo (upB i F j)]) j = [i64 (Y j),bo (F j)]:=fun j hj => by dsimp only; rw [uptN_lt hj,upB_lt hj]
   obtain ⟨e1,e2⟩:=wvS_up hx
   obtain ⟨e3,e4⟩:=wvS_up hy
   simp only [forall_eq,e1,e2,e3,e4]
   exact ⟨nums_up hx fun j hj => (hX j hj).1,hn,nums_up hy fun j hj => (hX j hj).2,hn,rfl⟩
theorem con43:ConOK prog 43 c43:=ConOK.go (G:=[(68,c68)]) (H:=[(5,⟨[(9,.slot 3),(11,.slot 4)],[(7,[.slot 3])]⟩)]) (.cons con68 .nil) func43 fun l ob r hc hob => by
 unfold c43 at hc
 split at hc
 ·rename_i n g
  cases hc
  have hs:vecs n g:=hob _ (by simp)
  exact ⟨[.ro n 4 fun i => [i64 (gx g 0 i),bo (gb g 1 i),i64 (gx g 2 i),bo (gb g 3 i)]],fun w I vs h => Rs_one (fun v => ro_alike fun i hi => (hs i hi).1) h,by kernel_rfl,vc43 n _ _ _ _ (fun i hi => (hs i hi).2) (hob _ (by simp))⟩
 ·cases hc
theorem vecs2 {a b c d:Int} {e f p q:Bool} {g:Nat → List AV} (h0:g 0 = [i64 a,bo e,i64 b,bo f]) (h1:g 1 = [i64 c,bo p,i64 d,bo q]) (ha:inR a) (hb:inR b) (hc:inR c) (hd:inR d):vecs 2 g:=by
 intro i hi
 have:i = 0 ∨ i = 1:=by omega
 rcases this with rfl | rfl
 ·simp only [gx,gb,h0,gi_0,gib_1,gi_2,gib_3]; exact ⟨trivial,ha,hb⟩
 ·simp only [gx,gb,h1,gi_0,gib_1,gi_2,gib_3]; exact ⟨trivial,hc,hd⟩
theorem su2x {a b c d:Int} {e f p q:Bool} {g:Nat → List AV} (h0:g 0 = [i64 a,bo e,i64 b,bo f]) (h1:g 1 = [i64 c,bo p,i64 d,bo q]):su1 2 (gx g 0) (gb g 1) = nAdd (a,e) (c,p):=by
 unfold su1 nAdd
 simp only [suS,anyB,gx,gb,h0,h1,gi_0,gib_1,Bool.false_or,Int.zero_add]
theorem su2y {a b c d:Int} {e f p q:Bool} {g:Nat → List AV} (h0:g 0 = [i64 a,bo e,i64 b,bo f]) (h1:g 1 = [i64 c,bo p,i64 d,bo q]):su1 2 (gx g 2) (gb g 3) = nAdd (b,f) (d,q):=by
 unfold su1 nAdd
 simp only [suS,anyB,gx,gb,h0,h1,gi_2,gib_3,Bool.false_or,Int.zero_add]
end Go.Ax
end
section
set_option maxHeartbeats 2000000
set_option maxRecDepth 100000
namespace Go.Ax
open Go.Proofs Go.Proofs.Tryz
def joinT (a b c d e f g h:Int) (k:Nat):Int:=if checkBoxS a b c d = 0 ∧ checkBoxS e f g h = 0 then (match k with
 | 0 => min a e
 | 1 => min b f
 | 2 => max c g
 | _ => max d h) else 0
theorem rows_0 {a b c d:AV} {l:List AV}:rowsOf 4 (a :: b :: c :: d :: l) 0 = [a,b,c,d]:=(rfl)
theorem rows_1 {a b c d e f g h:AV} {l:List AV}:rowsOf 4 (a :: b :: c :: d :: e :: f :: g :: h :: l) 1 = [e,f,g,h]:=(rfl)
theorem boxes_2 {a b c d e f g h:Int}:boxes 2 (rowsOf 4 [i64 a,i64 b,i64 c,i64 d,i64 e,i64 f,i64 g,i64 h]) = ((inR a ∧ inR b ∧ inR c ∧ inR d) ∧ inR e ∧ inR f ∧ inR g ∧ inR h):=propext ⟨fun H => by
  have h0:=(H 0 (by omega)).2
  have h1:=(H 1 (by omega)).2
  simp only [gx,rows_0,rows_1,gi_0,gi_1,gi_2,gi_3] at h0 h1
  exact ⟨h0,h1⟩,fun ⟨h0,h1⟩ i hi => by
  have:i = 0 ∨ i = 1:=by omega
  rcases this with rfl | rfl
  ·simp only [gx,rows_0,gi_0,gi_1,gi_2,gi_3]; exact ⟨trivial,h0⟩
  ·simp only [gx,rows_1,gi_0,gi_1,gi_2,gi_3]; exact ⟨trivial,h1⟩⟩
theorem okB_2 {A B C D:Nat → Int}:okB 2 A B C D ↔ checkBoxS (A 0) (B 0) (C 0) (D 0) = 0 ∧ checkBoxS (A 1) (B 1) (C 1) (D 1) = 0:=
 ⟨fun h => ⟨h 0 (by omega),h 1 (by omega)⟩,fun ⟨h0,h1⟩ i hi => by
  have:i = 0 ∨ i = 1:=by omega
  rcases this with rfl | rfl <;> assumption⟩
theorem join_2 {a b c d e f g h:Int} {k:Nat} (hk:k < 4):joinS 2 (gx (rowsOf 4 [i64 a,i64 b,i64 c,i64 d,i64 e,i64 f,i64 g,i64 h]) 0) (gx (rowsOf 4 [i64 a,i64 b,i64 c,i64 d,i64 e,i64 f,i64 g,i64 h]) 1) (gx (rowsOf 4 [i64 a,i64 b,i64 c,i64 d,i64 e,i64 f,i64 g,i64 h]) 2) (gx (rowsOf 4 [i64 a,i64 b,i64 c,i64 d,i64 e,i64 f,i64 g,i64 h]) 3) k = joinT a b c d e f g h k:=by
 unfold joinS joinT
 simp only [okB_2,mnS,mxS,gx,rows_0,rows_1,gi_0,gi_1,gi_2,gi_3]
 have:k = 0 ∨ k = 1 ∨ k = 2 ∨ k = 3:=by omega
 rcases this with rfl | rfl | rfl | rfl <;> simp
attribute [go_sem] boxes_2 join_2 Nat.lt_irrefl
end Go.Ax
end
section
set_option maxHeartbeats 1000000
set_option maxRecDepth 100000
namespace Go.Ax
open Go.Proofs Go.Proofs.Tryz
def nxt (n i:Nat):Nat:=if i + 1 < n then i + 1 else 0
theorem nxt_lt {n i:Nat} (h:i < n):nxt n i < n:=by unfold nxt; split <;> omega
structure At257 (I:Nat → Prop) (w:World) (J:Nat → World → Prop) (l n:Nat) (v1 x:Value) (i:Nat) (a:Act) (W:World):Prop where
 sz:a.tmps.size = 38
 de:a.defers = []
 t0:a.tmps.getD 0 undef = .func (.yield l) #[] #[]
 t1:a.tmps.getD 1 undef = v1
 t3:a.tmps.getD 3 undef = .int .i64 (IntKind.i64.wrap (n - 1))
 t12:a.tmps.getD 12 undef = x
 t13:a.tmps.getD 13 undef = .int .i64 n
 t14:a.tmps.getD 14 undef = .int .i64 i
 le:i ≤ n
 j:J i W
 same:Same I w W
def sg (g:Nat → List AV):Nat → List AV:=fun i => [i64 (gx g 0 i),i64 (gx g 1 i)]
theorem sg_eq {g:Nat → List AV}:sg g = fun i => [i64 (gx g 0 i),i64 (gx g 1 i)]:=(rfl)
def c261:Con
 | [.agg [.v (.int .i64 a),.v (.int .i64 b)],.agg [.v (.int .i64 c),.v (.int .i64 d)],.agg [.v (.int .i64 e),.v (.int .i64 f)]] => some ([],i64 (sideS a b c d e f))
 | _ => none
theorem turn_wrap' {ax ay bx byy cx cy:Int} (ha:validS ax ay = true) (hb:validS bx byy = true) (hc:validS cx cy = true) :
  IntKind.i64.wrap (IntKind.i64.wrap (IntKind.i64.wrap (bx - ax) * IntKind.i64.wrap (cy - ay)) - IntKind.i64.wrap (IntKind.i64.wrap (byy - ay) * IntKind.i64.wrap (cx - ax))) = turnS ax ay bx byy cx cy:=turn_wrap ha hb hc
theorem con261:ConOK prog 261 c261:=ConOK.of (G:=[(210,c210),(263,c258),(214,c214)]) (H:=[]) (.cons con210 (.cons con263 (.cons con214 .nil))) func261 fun l ob r hc hob => by
 unfold c261 at hc
 split at hc
 ·rename_i a b c d e f
  cases hc
  refine ⟨by kernel_rfl,fnVC_go (rs:=[.tmp 6]) rfl rfl ?_⟩
  simp only [go_sem,c210,c214,c258]
  intro z hz z1 hz1 z2 hz2
  subst hz hz1 hz2
  refine ⟨fun h => ?_,fun h x0 h0 x1 h1 x2 h2 x3 h3 t ht => ?_⟩
  ·unfold sideS; rw [if_neg]; rintro ⟨k1,k2,k3⟩; rw [k1,k2,k3] at h; simp at h
  ·have hv:validS a b = true ∧ validS c d = true ∧ validS e f = true:=⟨h.1.1,h.1.2,h.2⟩
   subst h0 h1 h2 h3
   rw [turn_wrap' hv.1 hv.2.1 hv.2.2] at ht
   refine ⟨fun k => ?_,fun k => ⟨fun k2 => ?_,fun k2 => ?_⟩⟩
   ·unfold sideS; rw [if_pos hv,← ht,if_pos k]
   ·unfold sideS; rw [if_pos hv,← ht,if_neg k,if_pos k2]
   ·unfold sideS; rw [if_pos hv,← ht,if_neg k,if_neg k2]
 ·cases hc
theorem tmod_nxt {n i:Nat} (h:i < n):Int.tmod ((i:Int) + 1) n = (nxt n i:Nat):=by
 unfold nxt
 by_cases e:i + 1 < n
 ·rw [if_pos e,Int.tmod_eq_of_lt (by omega) (by omega)]; rfl
 ·have:i + 1 = n:=by omega
  rw [if_neg e,show (i:Int) + 1 = n by omega,Int.tmod_self]; rfl
def convexS (n:Nat) (X Y:Nat → Int):Bool:=decide (3 ≤ n ∧ (∀ i,i < n → validS (X i) (Y i) = true) ∧ ∀ i,i < n → ∀ k,k < n → k ≠ i → k ≠ nxt n i → 0 < turnS (X i) (Y i) (X (nxt n i)) (Y (nxt n i)) (X k) (Y k))
theorem convexS_iff {n:Nat} {X Y:Nat → Int}:convexS n X Y = true ↔ 3 ≤ n ∧ (∀ i,i < n → validS (X i) (Y i) = true) ∧ ∀ i,i < n → ∀ k,k < n → k ≠ i → k ≠ nxt n i → 0 < turnS (X i) (Y i) (X (nxt n i)) (Y (nxt n i)) (X k) (Y k):=by unfold convexS; simp
def c274:Con
 | [.ro n 2 g] => some ([spots n g,n ≤ 9223372036854775806],bo (convexS n (gx g 0) (gx g 1)))
 | _ => none
theorem vc213 (n:Nat) (X Y:Nat → Int) (hX:∀ i,i < n → inR (X i) ∧ inR (Y i)) (hn:n ≤ 9223372036854775806):fnVC prog [(261,c261),(210,c210)] [] Tryz.f213 [.ro n 2 fun i => [i64 (X i),i64 (Y i)]] (· = bo (convexS n X Y)):=by
 refine fnVC_go (rs:=[.tmp 2]) rfl rfl ?_
 simp only [go_sem]
 refine ⟨fun h => false_of fun hc => ?_,fun h => ?_⟩
 ·have:=convexS_iff.1 hc
  omega
 have h3:3 ≤ n:=by omega
 let good:Nat → Prop:=fun i => ∀ k,k < n → k ≠ i → k ≠ nxt n i → 0 < turnS (X i) (Y i) (X (nxt n i)) (Y (nxt n i)) (X k) (Y k)
 refine loopC_go (fun (i:Nat) => i ≤ n ∧ (0 < i → ∀ k,k < n → validS (X k) (Y k) = true) ∧ ∀ j,j < i → good j) (fun i => n - i) (fun i => [(3,i64 i)]) (fun _ => []) [] [9,10,11,12,15,16,17,18,19,4,5,20,21,22,23,26,27,28,29,30,31,32,33,34,35,36,37,38,39,40,41,42,43,44,45,46,47,48,49,50,51,52,53,54,55,56,57,2,24,25,5,13,14,3] 0 (by kernel_rfl) ?_ ⟨Nat.zero_le _,fun h => by omega,fun j hj => by omega⟩ ?_ ?_
 ·intro x _; simp [goodNames]
 ·simp only [go_sem]
 ·intro i hi
  have hn0:((n:Int) = 0) = False:=eq_false (by omega)
  simp only [go_sem,hn0]
  refine ⟨fun hin z hz z1 hz1 => ?_,fun hin => (convexS_iff.2 ⟨h3,hi.2.1 (by omega),fun j hj => hi.2.2 j (by omega)⟩).symm⟩
  have hin:i < n:=by omega
  have ei:IntKind.i64.wrap ((i:Int) + 1) = i + 1:=wrap_in (inRo (by omega))
  rw [ei] at hz
  rw [hz,tmod_nxt hin] at hz1
  have hnl:nxt n i < n:=nxt_lt hin
  subst hz1
  refine loopC_go (fun (k:Nat) => k ≤ n ∧ ∀ q,q < k → validS (X q) (Y q) = true ∧ (q ≠ i → q ≠ nxt n i → 0 < turnS (X i) (Y i) (X (nxt n i)) (Y (nxt n i)) (X q) (Y q))) (fun k => n - k) (fun k => [(5,i64 k)]) (fun _ => []) [] [20,21,22,23,26,27,28,29,30,31,32,33,34,35,36,37,38,39,40,41,42,43,44,45,46,47,48,49,50,51,52,53,54,55,56,57,2,24,25,5] 0 (by kernel_rfl) ?_ ⟨Nat.zero_le _,fun j hj => by omega⟩ ?_ ?_
  ·intro x _; simp [goodNames]
  ·simp only [go_sem]
  ·intro k hk
   simp only [go_sem,c261,c210]
   have bn:∀ x y:Nat,((x:Int) != (y:Int)) = true ↔ x ≠ y:=fun x y => by rw [bne_iff_ne]; omega
   refine ⟨fun hkn => ⟨by omega,hkn,fun z1 hz1 => ⟨fun h1 h2 => ⟨h1,h2⟩,fun _ => by omega,fun _ => by omega,fun _ => by omega,fun _ => by omega,fun _ => by omega,fun _ => by omega,fun t ht => ⟨fun h1 h2 => ⟨h1,h2⟩,fun hb => false_of fun hc => ?_,fun hb z3 hz3 => ⟨k + 1,⟨by omega,fun q hq => ?_⟩,by omega,?_⟩⟩⟩⟩,fun hkn z1 hz1 => ⟨i + 1,⟨by omega,fun _ q hq => (hk.2 q (by omega)).1,fun j hj => ?_⟩,by omega,?_⟩⟩
   ·have hkn':k < n:=by omega
    obtain ⟨_,k2,k3⟩:=convexS_iff.1 hc
    rcases hb with hb | hb
    ·rw [hb,k2 k hkn'] at hz1; cases hz1
    ·have hp:=k3 i hin k hkn' ((bn _ _).1 hb.1.1) ((bn _ _).1 hb.1.2)
     have:t = 1:=by rw [ht]; unfold sideS; rw [if_pos ⟨k2 i hin,k2 _ hnl,k2 k hkn'⟩,if_pos hp]
     omega
   ·by_cases e:q = k
    ·subst e
     rw [← hz1]
     refine ⟨hb.1,fun h1 h2 => ?_⟩
     have hb2:=hb.2
     rw [(bn q i).2 h1,(bn q (nxt n i)).2 h2] at hb2
     simp at hb2
     rw [ht] at hb2
     unfold sideS at hb2
     split at hb2
     ·split at hb2
      ·assumption
      ·split at hb2 <;> omega
     ·omega
    ·exact hk.2 q (by omega)
   ·rw [hz3,wrap_in (inRo (by omega))]; rfl
   ·by_cases e:j = i
    ·subst e
     intro q hq h1 h2
     exact (hk.2 q (by omega)).2 h1 h2
    ·exact hi.2.2 j (by omega)
   ·rw [hz1,ei]; rfl
theorem con213:ConOK prog 213 c274:=ConOK.go (G:=[(261,c261),(210,c210)]) (H:=[]) (.cons con261 (.cons con210 .nil)) func213 fun l ob r hc hob => by
 unfold c274 at hc
 split at hc
 ·rename_i n g
  cases hc
  have hs:spots n g:=hob _ (by simp)
  refine ⟨[.ro n 2 fun i => [i64 (gx g 0 i),i64 (gx g 1 i)]],fun w I vs h => Rs_one (fun v => ro_alike fun i hi => (hs i hi).1) h,by kernel_rfl,vc213 n _ _ (fun i hi => (hs i hi).2) (hob _ (by simp))⟩
 ·cases hc
abbrev formA (k x y r:Int) (n:Nat) (g:Nat → List AV):AV:=.agg [i64 k,i64 x,i64 y,i64 r,.ro n 2 g]
theorem Rs_form {w:World} {ρ:Env} {k x y r:Int} {n:Nat} {g:Nat → List AV} (hs:spots n g) (v:Value) (h:R w ρ (formA k x y r n g) v):R w ρ (formA k x y r n fun i => [i64 (gx g 0 i),i64 (gx g 1 i)]) v:=by
 cases h with
 | agg hl hh =>
  refine .agg hl fun i a z h1 h2 => ?_
  match i with
  | 0 => exact hh 0 a z h1 h2
  | 1 => exact hh 1 a z h1 h2
  | 2 => exact hh 2 a z h1 h2
  | 3 => exact hh 3 a z h1 h2
  | 4 =>
   simp at h1; subst h1
   exact ro_alike (fun i hi => (hs i hi).1) (hh 4 _ z rfl h2)
  | j + 5 => simp at h1
theorem Rs_two {w:World} {ρ:Env} {a a' b b':AV} {vs:List Value} (h:∀ v,R w ρ a v → R w ρ a' v) (k:∀ v,R w ρ b v → R w ρ b' v) (hR:Rs w ρ [a,b] vs):Rs w ρ [a',b'] vs:=by
 obtain ⟨x,xs,rfl,h1,h2⟩:=hR.inv
 exact .cons (h x h1) (Rs_one k h2)
def c194:Con
 | [.agg [.v (.int .i64 a),.v (.int .i64 b)],.agg [.v (.int .i64 c),.v (.int .i64 d)]] => some ([],i64 (IntKind.i64.wrap (IntKind.i64.wrap (a * c) + IntKind.i64.wrap (b * d))))
 | _ => none
theorem con215:ConOK prog 215 c194:=ConOK.of (G:=[]) (H:=[]) .nil func215 fun l ob r hc hob => by
 unfold c194 at hc
 split at hc
 ·cases hc
  refine ⟨by kernel_rfl,fnVC_go (rs:=[.tmp 4]) rfl rfl ?_⟩
  simp only [go_sem]
  intro z h z1 h1 z2 h2
  rw [h2,h1,h]
 ·cases hc
theorem con212:ConOK prog 212 c273:=ConOK.of (G:=[]) (H:=[]) .nil func212 fun l ob r hc hob => by
 unfold c273 at hc
 split at hc
 ·cases hc
  refine ⟨by kernel_rfl,fnVC_go (rs:=[.cell 4 257]) rfl rfl ?_⟩
  simp only [go_sem]
  intro z h z1 h1 z2 h2 z3 h3
  subst h h1 h2 h3
  rfl
 ·cases hc
theorem wrap_inR (x:Int):inR (IntKind.i64.wrap x):=by rw [wrap_i64]; unfold inR; omega
def checkS (k x y r:Int) (n:Nat) (X Y:Nat → Int):Int:=
 if k ≠ 1 ∧ k ≠ 2 then 8
 else if ¬ (validS x y = true ∧ ∀ i,i < n → validS (X i) (Y i) = true) then 3
 else if k = 1 then (if 1 ≤ r ∧ (2097152 < r ∨ checkBoxS (x - r) (y - r) (x + r) (y + r) ≠ 0) then 3 else if r < 1 ∨ 0 < n then 5 else 0)
 else if r ≠ 0 ∨ 8 < n ∨ convexS n X Y = false then 5 else 0
instance {n:Nat} {X Y:Nat → Int}:Decidable (∀ i,i < n → validS (X i) (Y i) = true):=inferInstance
def c255:Con
 | [.agg [.v (.int .i64 k),.v (.int .i64 x),.v (.int .i64 y),.v (.int .i64 r),.ro n 2 g]] => some ([spots n g,n ≤ 9223372036854775806,inR x,inR y,inR r],i64 (checkS k x y r n (gx g 0) (gx g 1)))
 | _ => none
theorem vc139 (k x y r:Int) (n:Nat) (X Y:Nat → Int) (hX:∀ i,i < n → inR (X i) ∧ inR (Y i)) (hn:n ≤ 9223372036854775806) (hx:inR x) (hy:inR y) (hr:inR r):fnVC prog [(211,c211),(213,c274),(210,c210),(212,c273)] [] Tryz.f139 [formA k x y r n fun i => [i64 (X i),i64 (Y i)]] (· = i64 (checkS k x y r n X Y)):=by
 refine fnVC_go (rs:=[.tmp 2]) rfl rfl ?_
 simp only [go_sem,c210]
 refine ⟨fun h => ?_,fun h z hz => ⟨fun h3 => ?_,fun h3 => ?_⟩⟩
 ·have h1:k ≠ 1 ∧ k ≠ 2:=by simpa using h
  unfold checkS; rw [if_pos h1]
 ·have h1:¬ (k ≠ 1 ∧ k ≠ 2):=by simp at h; omega
  unfold checkS; rw [if_neg h1,if_pos]
  rintro ⟨v1,v2⟩
  rw [v1] at hz; rw [hz] at h3; cases h3
 have h1:¬ (k ≠ 1 ∧ k ≠ 2):=by simp at h; omega
 have v1:validS x y = true:=by rw [← hz]; exact h3
 refine loopC_go (fun (i:Nat) => i ≤ n ∧ ∀ j,j < i → validS (X j) (Y j) = true) (fun i => n - i) (fun i => [(3,i64 i)]) (fun _ => []) [0] [16,17,18,19,20,23,24,25,26,27,28,29,2,21,22,3] 0 (by kernel_rfl) ?_ ⟨Nat.zero_le _,fun j hj => by omega⟩ ?_ ?_
 ·intro x _; simp [goodNames]
 ·simp only [go_sem]
 ·intro i hi
  simp only [go_sem,c211,c274,c210,c273]
  refine ⟨fun hin => ⟨by omega,hin,fun z1 hz1 => ⟨fun h4 => ?_,fun h4 z2 hz2 => ⟨i + 1,⟨by omega,fun j hj => ?_⟩,by omega,?_⟩⟩⟩,fun hin => ?_⟩
  ·unfold checkS; rw [if_neg h1,if_pos]
   rintro ⟨_,v2⟩
   rw [v2 i (by omega)] at hz1; rw [hz1] at h4; cases h4
  ·by_cases e:j = i
   ·subst e; rw [← hz1]; exact h4
   ·exact hi.2 j (by omega)
  ·rw [hz2,wrap_in (inRo (by omega))]; rfl
  have v2:∀ i,i < n → validS (X i) (Y i) = true:=fun j hj => hi.2 j (by omega)
  have v3:=validS_iff.1 v1
  have h2:¬ ¬ (validS x y = true ∧ ∀ i,i < n → validS (X i) (Y i) = true):=fun hn => hn ⟨v1,v2⟩
  have hg:spots n fun i => [i64 (X i),i64 (Y i)]:=fun i hi => ⟨rfl,hX i hi⟩
  have ec:convexS n (gx (fun i => [i64 (X i),i64 (Y i)]) 0) (gx (fun i => [i64 (X i),i64 (Y i)]) 1) = convexS n X Y:=rfl
  rw [ec]
  have e0:checkS k x y r n X Y = if k = 1 then (if 1 ≤ r ∧ (2097152 < r ∨ checkBoxS (x - r) (y - r) (x + r) (y + r) ≠ 0) then 3 else if r < 1 ∨ 0 < n then 5 else 0)
    else if r ≠ 0 ∨ 8 < n ∨ convexS n X Y = false then 5 else 0:=by unfold checkS; rw [if_neg h1,if_neg h2]
  rw [e0]
  refine ⟨fun hk z2 hz2 => ⟨fun a b => ⟨a,b⟩,fun h4 => ?_,fun h4 => ?_⟩,fun hk z2 hz2 => ⟨fun _ => hg,fun _ => hn,fun h4 => ?_,fun h4 => ?_⟩⟩
  ·have hb:0 < r → ¬ 2097152 < r → z2 = checkBoxS (x - r) (y - r) (x + r) (y + r):=fun a b => by
    rw [hz2,wrap_in (x:=x - r) (inRo (by omega)),wrap_in (x:=y - r) (inRo (by omega)),wrap_in (x:=x + r) (inRo (by omega)),wrap_in (x:=y + r) (inRo (by omega))]
   rw [if_pos (by simpa using hk),if_pos]
   refine ⟨h4.1,?_⟩
   by_cases hr2:2097152 < r
   ·exact .inl hr2
   ·rw [← hb (by omega) hr2]; exact .inr (by simpa using h4.2.resolve_left hr2)
  ·have hb:0 < r → ¬ 2097152 < r → z2 = checkBoxS (x - r) (y - r) (x + r) (y + r):=fun a b => by
    rw [hz2,wrap_in (x:=x - r) (inRo (by omega)),wrap_in (x:=y - r) (inRo (by omega)),wrap_in (x:=x + r) (inRo (by omega)),wrap_in (x:=y + r) (inRo (by omega))]
   have h4':¬ (1 ≤ r ∧ (2097152 < r ∨ checkBoxS (x - r) (y - r) (x + r) (y + r) ≠ 0)):=by
    rintro ⟨a,b⟩
    simp only [a,decide_true,Bool.true_and,Bool.or_eq_false_iff,decide_eq_false_iff_not,bne_eq_false_iff_eq] at h4
    rw [← hb (by omega) h4.1] at b
    rcases b with b | b
    ·exact h4.1 b
    ·exact b h4.2
   rw [if_pos (by simpa using hk),if_neg h4']
   refine ⟨fun h5 => ?_,fun h5 => ?_⟩
   ·rw [if_pos (by omega)]
   ·rw [if_neg (by omega)]
  ·rw [if_neg (by simpa using hk),if_pos]
   rw [← hz2]
   simp only [bne_iff_ne] at h4
   rcases h4 with ((a | a) | a) | a
   ·exact .inl a
   ·refine .inr (.inr (Bool.eq_false_iff.2 fun hc => ?_))
    rw [hz2] at hc
    have:=(convexS_iff.1 hc).1
    omega
   ·exact .inr (.inl (by omega))
   ·exact .inr (.inr a)
  ·rw [if_neg (by simpa using hk),if_neg]
   rw [← hz2]
   simp only [bne_eq_false_iff_eq] at h4
   rintro (a | a | a)
   ·exact a h4.1.1.1
   ·exact h4.1.2 (by omega)
   ·rw [h4.2] at a; cases a
theorem con139:ConOK prog 139 c255:=ConOK.go (G:=[(211,c211),(213,c274),(210,c210),(212,c273)]) (H:=[]) (.cons con211 (.cons con213 (.cons con210 (.cons con212 .nil)))) func139 fun l ob rr hc hob => by
 unfold c255 at hc
 split at hc
 ·rename_i k x y r n g
  cases hc
  have hs:spots n g:=hob _ (by simp)
  exact ⟨[formA k x y r n fun i => [i64 (gx g 0 i),i64 (gx g 1 i)]],fun w I vs h => Rs_one (Rs_form hs) h,by kernel_rfl,vc139 k x y r n _ _ (fun i hi => (hs i hi).2) (hob _ (by simp)) (hob _ (by simp)) (hob _ (by simp)) (hob _ (by simp))⟩
 ·cases hc
def dist2 (x y px py:Int):Int:=(px - x) * (px - x) + (py - y) * (py - y)
theorem sq0 (a:Int):0 ≤ a * a:=by rw [← Int.natAbs_mul_self]; exact Int.natCast_nonneg _
theorem dist2_bd {x y px py:Int} (h1:validS x y = true) (h2:validS px py = true):0 ≤ (px - x) * (px - x) ∧ (px - x) * (px - x) ≤ 17592186044416 ∧ 0 ≤ (py - y) * (py - y) ∧ (py - y) * (py - y) ≤ 17592186044416 ∧ sm (px - x) ∧ sm (py - y):=by
 rw [validS_iff] at h1 h2
 have a1:sm (px - x):=by unfold sm; omega
 have a2:sm (py - y):=by unfold sm; omega
 have b1:=sm_mul a1 a1
 have b2:=sm_mul a2 a2
 have c1:0 ≤ (px - x) * (px - x):=sq0 _
 have c2:0 ≤ (py - y) * (py - y):=sq0 _
 exact ⟨c1,b1.2,c2,b2.2,a1,a2⟩
theorem dist2_wrap {x y px py:Int} (h1:validS x y = true) (h2:validS px py = true) :
  IntKind.i64.wrap (IntKind.i64.wrap (IntKind.i64.wrap (px - x) * IntKind.i64.wrap (px - x)) + IntKind.i64.wrap (IntKind.i64.wrap (py - y) * IntKind.i64.wrap (py - y))) = dist2 x y px py:=by
 obtain ⟨c1,b1,c2,b2,a1,a2⟩:=dist2_bd h1 h2
 unfold sm at a1 a2
 rw [wrap_in (x:=px - x) (inRo (by omega)),wrap_in (x:=py - y) (inRo (by omega)),wrap_in (x:=(px - x) * (px - x)) (inRo (by omega)),wrap_in (x:=(py - y) * (py - y)) (inRo (by omega)),wrap_in (inRo (by omega))]
 rfl
theorem sq_wrap {r:Int} (h:sm r):IntKind.i64.wrap (r * r) = r * r:=by
 have:=sm_mul h h
 exact wrap_in (inRo (by omega))
def inS (n:Nat) (X Y:Nat → Int) (px py:Int):Bool:=decide (∀ i,i < n → 0 ≤ turnS (X i) (Y i) (X (nxt n i)) (Y (nxt n i)) px py)
theorem inS_iff {n:Nat} {X Y:Nat → Int} {px py:Int}:inS n X Y px py = true ↔ ∀ i,i < n → 0 ≤ turnS (X i) (Y i) (X (nxt n i)) (Y (nxt n i)) px py:=by unfold inS; simp
def holdsS (k x y r:Int) (n:Nat) (X Y:Nat → Int) (px py:Int):Bool:=if k = 1 then decide (dist2 x y px py ≤ r * r) else inS n X Y px py
theorem check_1 {k x y r:Int} {n:Nat} {X Y:Nat → Int} (h:checkS k x y r n X Y = 0):(k = 1 ∨ k = 2) ∧ validS x y = true ∧ (∀ i,i < n → validS (X i) (Y i) = true) ∧ (k = 1 → 1 ≤ r ∧ r ≤ 2097152 ∧ checkBoxS (x - r) (y - r) (x + r) (y + r) = 0 ∧ n = 0) ∧ (k ≠ 1 → r = 0 ∧ n ≤ 8 ∧ convexS n X Y = true):=by
 unfold checkS at h
 split at h
 ·omega
 ·split at h
  ·omega
  ·rename_i h1 h2
   have h2:validS x y = true ∧ ∀ i,i < n → validS (X i) (Y i) = true:=Decidable.of_not_not h2
   split at h
   ·rename_i h3
    split at h
    ·omega
    ·rename_i h4
     split at h
     ·omega
     ·rename_i h5
      refine ⟨.inl h3,h2.1,h2.2,fun _ => ⟨by omega,by omega,?_,by omega⟩,fun h => absurd h3 h⟩
      by_cases e:checkBoxS (x - r) (y - r) (x + r) (y + r) = 0
      ·exact e
      ·exact absurd ⟨by omega,.inr e⟩ h4
   ·rename_i h3
    split at h
    ·omega
    ·rename_i h5
     refine ⟨by omega,h2.1,h2.2,fun h => absurd h h3,fun _ => ⟨by omega,by omega,?_⟩⟩
     cases hc:convexS n X Y
     ·exact absurd (.inr (.inr hc)) h5
     ·rfl
theorem vc224 (k x y r:Int) (n:Nat) (X Y:Nat → Int) (px py:Int) (hc:checkS k x y r n X Y = 0) (hp:validS px py = true) (hn:n ≤ 9223372036854775806):fnVC prog [(261,c261),(214,c214),(215,c194)] [] Tryz.f224 [formA k x y r n fun i => [i64 (X i),i64 (Y i)],.agg [i64 px,i64 py]] (· = bo (holdsS k x y r n X Y px py)):=by
 refine fnVC_go (rs:=[.tmp 4]) rfl rfl ?_
 simp only [go_sem,c214,c194]
 obtain ⟨hk,v1,v2,h1,h2⟩:=check_1 hc
 refine ⟨fun hk1 z hz z1 hz1 z2 hz2 z3 hz3 => ?_,fun hk1 => ?_⟩
 ·have hk1:k = 1:=by simpa using hk1
  subst hz hz1
  rw [hz2,hz3,dist2_wrap v1 hp,sq_wrap (by have:=h1 hk1; unfold sm; omega)]
  unfold holdsS; rw [if_pos hk1]
 have hk1:k ≠ 1:=by simpa using hk1
 have h3:=(convexS_iff.1 (h2 hk1).2.2).1
 have eh:holdsS k x y r n X Y px py = inS n X Y px py:=by unfold holdsS; rw [if_neg hk1]
 rw [eh]
 refine loopC_go (fun (i:Nat) => i ≤ n ∧ ∀ j,j < i → 0 ≤ turnS (X j) (Y j) (X (nxt n j)) (Y (nxt n j)) px py) (fun i => n - i) (fun i => [(6,i64 i)]) (fun _ => []) [1,0] [23,24,25,26,27,30,31,32,33,34,35,36,37,38,39,40,41,42,43,44,45,46,47,4,28,29,6] 0 (by kernel_rfl) ?_ ⟨Nat.zero_le _,fun j hj => by omega⟩ ?_ ?_
 ·intro x _; simp [goodNames]
 ·simp only [go_sem]
 ·intro i hi
  have hn0:((n:Int) = 0) = False:=eq_false (by omega)
  simp only [go_sem,hn0,c261]
  have ei:i < n → IntKind.i64.wrap ((i:Int) + 1) = i + 1:=fun h => wrap_in (inRo (by omega))
  refine ⟨fun hin => ?_,fun hin => (inS_iff.2 fun j hj => hi.2 j (by omega)).symm⟩
  have hin':i < n:=by omega
  refine ⟨by omega,hin,fun z hz z1 hz1 => ?_⟩
  rw [hz,ei hin',tmod_nxt hin'] at hz1
  have hnl:=nxt_lt hin'
  subst hz1
  have es:sideS (X i) (Y i) (X (nxt n i)) (Y (nxt n i)) px py < 0 ↔ turnS (X i) (Y i) (X (nxt n i)) (Y (nxt n i)) px py < 0:=by
   unfold sideS
   rw [if_pos ⟨v2 i hin',v2 _ hnl,hp⟩]
   split
   ·omega
   ·split <;> omega
  refine ⟨by omega,by omega,fun z2 hz2 => ?_⟩
  simp only [Int.toNat_natCast] at hz2
  refine ⟨fun h => false_of fun hc => ?_,fun h z3 hz3 => ⟨i + 1,⟨by omega,fun j hj => ?_⟩,by omega,?_⟩⟩
  ·have:=inS_iff.1 hc i hin'
   rw [hz2] at h
   have:=es.1 h
   omega
  ·by_cases e:j = i
   ·subst e
    rw [hz2] at h
    have:¬ turnS (X j) (Y j) (X (nxt n j)) (Y (nxt n j)) px py < 0:=fun a => h (es.2 a)
    omega
   ·exact hi.2 j (by omega)
  ·rw [hz3,ei hin']; rfl
def c224:Con
 | [.agg [.v (.int .i64 k),.v (.int .i64 x),.v (.int .i64 y),.v (.int .i64 r),.ro n 2 g],.agg [.v (.int .i64 px),.v (.int .i64 py)]] => some ([spots n g,n ≤ 9223372036854775806,checkS k x y r n (gx g 0) (gx g 1) = 0,validS px py = true],bo (holdsS k x y r n (gx g 0) (gx g 1) px py))
 | _ => none
theorem con224:ConOK prog 224 c224:=ConOK.go (G:=[(261,c261),(214,c214),(215,c194)]) (H:=[]) (.cons con261 (.cons con214 (.cons con215 .nil))) func224 fun l ob rr hc hob => by
 unfold c224 at hc
 split at hc
 ·rename_i k x y r n g px py
  cases hc
  have hs:spots n g:=hob _ (by simp)
  exact ⟨[formA k x y r n fun i => [i64 (gx g 0 i),i64 (gx g 1 i)],.agg [i64 px,i64 py]],fun w I vs h => Rs_two (Rs_form hs) (fun v h => h) h,by kernel_rfl,vc224 k x y r n _ _ px py (hob _ (by simp)) (hob _ (by simp)) (hob _ (by simp))⟩
 ·cases hc
end Go.Ax
end
section
set_option maxHeartbeats 2000000
set_option maxRecDepth 100000
namespace Go.Ax
open Go.Proofs Go.Proofs.Tryz
end Go.Ax
end
section
set_option maxHeartbeats 4000000
set_option maxRecDepth 100000
namespace Go.Ax
open Go.Proofs Go.Proofs.Tryz
section
variable {N M q:Nat} {σ:Names} {m rows:Mem} {x:Fam} {a b:AV} {n sz f k r:Nat} {ty:TypeId} {get:Nat → List AV}
def emptyF (x:Fam):Prop:=∀ f,(x f).n = 0 ∧ (x f).g = none
def fitQ (N M:Nat) (σ:Names) (m:Mem) (x:Fam):Option Nat → Prop
 | some k => fitF N M σ x (look m k)
 | none => emptyF x
theorem fitRows_z:fitRows N M σ m [] = True:=(rfl)
theorem fitRows_c:fitRows N M σ m ((q,x) :: rows) = (fitQ N M σ m x (asg σ q) ∧ fitRows N M σ m rows):=by
 show ((match asg σ q with
  | some k => ∃ y,look m k = some y ∧ ∀ f,fitRow N M σ (x f) (y f)
  | none => ∀ f,(x f).n = 0 ∧ (x f).g = none) ∧ _) = _
 unfold fitQ fitF emptyF
 cases asg σ q with
 | none => rfl
 | some k => cases h:look m k <;> simp [h]
theorem fitQ_some:fitQ N M σ m x (some k) = fitF N M σ x (look m k):=(rfl)
theorem fitQ_none:fitQ N M σ m x none = emptyF x:=(rfl)
theorem emptyF_N:emptyF (famN n sz ty get none) = (n = 0):=by
 unfold emptyF
 apply propext
 constructor
 ·intro h; have:=(h 0).1; simpa [famN] using this
 ·intro h f
  subst h
  unfold famN
  split <;> exact ⟨rfl,rfl⟩
def ownA (f n sz:Nat) (a:AV):Option Nat → Prop
 | some k => a = .own k f n sz
 | none => n = 0 ∧ a = .v (.slice none 0 0)
theorem fit1_ownA:fit1 N M σ (.own q f n sz) a = (q < M ∧ ownA f n sz a (asg σ q)):=by
 simp only [fit1,ownA]
 cases asg σ q <;> rfl
theorem ownA_some:ownA f n sz (.own r f k sz) (some r) = (k = n):=by simp [ownA]
theorem ownA_none:ownA f n sz (.v (.slice none 0 0)) none = (n = 0):=by simp [ownA]
theorem asg_z:asg [] r = some r:=(rfl)
theorem asg_c {y:Option Nat}:asg ((k,y) :: σ) r = if k = r then y else asg σ r:=(rfl)
end
attribute [go_sem] fitRows_z fitRows_c fitQ_some fitQ_none emptyF_N fit1_ownA ownA_some ownA_none asg_z asg_c
def c222:Con
 | [.ro n 4 g] => some ([vecs n g,n ≤ 1000],ve (su1 n (gx g 0) (gb g 1)) (su1 n (gx g 2) (gb g 3)))
 | _ => none
theorem vc222 (n:Nat) (X Y:Nat → Int) (E F:Nat → Bool) (hX:∀ i,i < n → inR (X i) ∧ inR (Y i)) (hn:n ≤ 1000):fnVC prog [(248,c248)] [(5,⟨[(7,.slot 3)],[(13,[.slot 3]),(14,[.slot 3])]⟩)] Tryz.f222 [.ro n 4 fun i => [i64 (X i),bo (E i),i64 (Y i),bo (F i)]] (· = ve (su1 n X E) (su1 n Y F)):=by
 refine fnVC_go (rs:=[.cell 2 29]) rfl rfl ?_
 simp only [go_sem]
 refine loopN_go (fun (i:Nat) => i ≤ n) (fun i => n - i) (fun i => [(5,i64 i),(3,.own 4 0 i 2),(4,.own 5 0 i 2)]) (fun i => [(4,famN i 2 27 (fun k => [i64 (X k),bo (E k)]) none),(5,famN i 2 27 (fun k => [i64 (Y k),bo (F k)]) none)]) [0] [6,7,8,9,12,13,14,15,16,17,18,19,20,21,22,23,24,25,26,27,3,4,10,11,5] 2 0 (by kernel_rfl) (Nat.zero_le _) ⟨[(4,none),(5,none)],?_,?_,?_,?_⟩ ?_
 ·simp only [go_sem]
 ·simp only [go_sem]
 ·simp only [go_sem]
 ·simp [goodNames,asg]
 intro i hi
 simp only [go_sem,c248]
 have hb:bytesT prog 27 = 16:=by kernel_rfl
 rw [hb]
 refine ⟨fun h => ⟨by omega,h,by omega,by omega,by omega,h,by omega,by omega,fun z hz => ⟨i + 1,by omega,by omega,[(4,some 17),(5,some 25)],?_⟩⟩,fun h => ?_⟩
 ·simp only [go_sem]
  refine ⟨by rw [hz,wrap_in (inRo (by omega))]; rfl,⟨fun k hk => ?_,fun k hk => ?_⟩,by simp [goodNames,asg]⟩
  ·by_cases e:k < i
   ·rw [if_pos e]; simp only [go_sem]
   ·have e:k = i:=by omega
    subst e
    rw [if_neg (by omega),Nat.sub_self]
    simp only [Nat.zero_mul,go_sem]
  ·by_cases e:k < i
   ·rw [if_pos e]; simp only [go_sem]
   ·have e:k = i:=by omega
    subst e
    rw [if_neg (by omega),Nat.sub_self]
    simp only [Nat.zero_mul,go_sem]
 ·have e:i = n:=by omega
  subst e
  have hx:∀ j,j < i → (fun j => [i64 (X j),bo (E j)]) j = [i64 (X j),bo (E j)]:=fun j hj => rfl
  have hy:∀ j,j < i → (fun j => [i64 (Y j),bo (F j)]) j = [i64 (Y j),bo (F j)]:=fun j hj => rfl
  obtain ⟨e1,e2⟩:=wvS_up hx
  obtain ⟨e3,e4⟩:=wvS_up hy
  simp only [forall_eq,e1,e2,e3,e4]
  exact ⟨nums_up hx fun j hj => (hX j hj).1,hn,nums_up hy fun j hj => (hX j hj).2,hn,rfl⟩
theorem con222:ConOK prog 222 c222:=ConOK.go (G:=[(248,c248)]) (H:=[(5,⟨[(7,.slot 3)],[(13,[.slot 3]),(14,[.slot 3])]⟩)]) (.cons con248 .nil) func222 fun l ob r hc hob => by
 unfold c222 at hc
 split at hc
 ·rename_i n g
  cases hc
  have hs:vecs n g:=hob _ (by simp)
  exact ⟨[.ro n 4 fun i => [i64 (gx g 0 i),bo (gb g 1 i),i64 (gx g 2 i),bo (gb g 3 i)]],fun w I vs h => Rs_one (fun v => ro_alike fun i hi => (hs i hi).1) h,by kernel_rfl,vc222 n _ _ _ _ (fun i hi => (hs i hi).2) (hob _ (by simp))⟩
 ·cases hc
def nSq (a:Nb):Nb:=(sqV (whV a.1),sqF (whV a.1) (whF a.1 a.2))
def nCl (x l h:Nb):Nb:=(max (whV l.1) (min (whV x.1) (whV h.1)),whF l.1 l.2 || (whF x.1 x.2 || whF h.1 h.2))
theorem sqV_rg {v:Int}:rg (sqV v):=by
 unfold sqV; split
 ·unfold rg; omega
 ·exact ftV_rg _
theorem nPos_rg {a:Nb} (h:inR a.1):rg (nPos a).1:=by
 have:=whV_rg h
 unfold nPos rg at *; dsimp only; split <;> omega
abbrev V2:=Nb × Nb
def nbA (a:Nb):AV:=.agg [i64 a.1,bo a.2]
def veA (a:V2):AV:=.agg [i64 a.1.1,bo a.1.2,i64 a.2.1,bo a.2.2]
def unA (u:Bool × V2):AV:=.tup [.agg [i64 u.2.1.1,bo u.2.1.2,i64 u.2.2.1,bo u.2.2.2],bo u.1]
theorem bnd_nb {a:Nb}:bnd (nbA a) = .agg [i64 a.1,bo a.2]:=(rfl)
theorem bnd_ve {a:V2}:bnd (veA a) = .agg [i64 a.1.1,bo a.1.2,i64 a.2.1,bo a.2.2]:=(rfl)
theorem bnd_un {u:Bool × V2}:bnd (unA u) = .tup [.agg [i64 u.2.1.1,bo u.2.1.2,i64 u.2.2.1,bo u.2.2.2],bo u.1]:=(rfl)
theorem plain_nb {a:Nb}:plain 3 (nbA a) = true:=(rfl)
theorem plain_ve {a:V2}:plain 3 (veA a) = true:=(rfl)
theorem plain_un {u:Bool × V2}:plain 3 (unA u) = true:=(rfl)
theorem etaN {a:Nb}:(a.1,a.2) = a:=(rfl)
theorem etaV {a:V2}:(a.1,a.2) = a:=(rfl)
theorem gx_rows1 {a b:Int} {e f:Bool}:gx (rowsOf 2 [i64 a,bo e,i64 b,bo f]) 0 0 = a:=(rfl)
theorem gx_rows2 {a b:Int} {e f:Bool}:gx (rowsOf 2 [i64 a,bo e,i64 b,bo f]) 0 1 = b:=(rfl)
theorem gb_rows1 {a b:Int} {e f:Bool}:gb (rowsOf 2 [i64 a,bo e,i64 b,bo f]) 1 0 = e:=(rfl)
theorem gb_rows2 {a b:Int} {e f:Bool}:gb (rowsOf 2 [i64 a,bo e,i64 b,bo f]) 1 1 = f:=(rfl)
section
variable {a b c d:Int} {e f p q:Bool}
theorem gx4_1:gx (rowsOf 4 [i64 a,bo e,i64 b,bo f,i64 c,bo p,i64 d,bo q]) 0 0 = a:=(rfl)
theorem gx4_2:gx (rowsOf 4 [i64 a,bo e,i64 b,bo f,i64 c,bo p,i64 d,bo q]) 2 0 = b:=(rfl)
theorem gx4_3:gx (rowsOf 4 [i64 a,bo e,i64 b,bo f,i64 c,bo p,i64 d,bo q]) 0 1 = c:=(rfl)
theorem gx4_4:gx (rowsOf 4 [i64 a,bo e,i64 b,bo f,i64 c,bo p,i64 d,bo q]) 2 1 = d:=(rfl)
theorem gb4_1:gb (rowsOf 4 [i64 a,bo e,i64 b,bo f,i64 c,bo p,i64 d,bo q]) 1 0 = e:=(rfl)
theorem gb4_2:gb (rowsOf 4 [i64 a,bo e,i64 b,bo f,i64 c,bo p,i64 d,bo q]) 3 0 = f:=(rfl)
theorem gb4_3:gb (rowsOf 4 [i64 a,bo e,i64 b,bo f,i64 c,bo p,i64 d,bo q]) 1 1 = p:=(rfl)
theorem gb4_4:gb (rowsOf 4 [i64 a,bo e,i64 b,bo f,i64 c,bo p,i64 d,bo q]) 3 1 = q:=(rfl)
theorem vecs_rows:vecs 2 (rowsOf 4 [i64 a,bo e,i64 b,bo f,i64 c,bo p,i64 d,bo q]) = (inR a ∧ inR b ∧ inR c ∧ inR d):=by
 apply propext
 constructor
 ·intro h; exact ⟨(h 0 (by omega)).2.1,(h 0 (by omega)).2.2,(h 1 (by omega)).2.1,(h 1 (by omega)).2.2⟩
 ·rintro ⟨h1,h2,h3,h4⟩; exact vecs2 rfl rfl h1 h2 h3 h4
theorem nums_rows:nums 2 (rowsOf 2 [i64 a,bo e,i64 b,bo f]) = (inR a ∧ inR b):=by
 apply propext
 constructor
 ·intro h; exact ⟨(h 0 (by omega)).2,(h 1 (by omega)).2⟩
 ·rintro ⟨h1,h2⟩; exact nums2 rfl rfl h1 h2
theorem vecs_row1:vecs 1 (rowsOf 4 [i64 a,bo e,i64 b,bo f]) = (inR a ∧ inR b):=by
 apply propext
 constructor
 ·intro h; exact ⟨(h 0 (by omega)).2.1,(h 0 (by omega)).2.2⟩
 ·rintro ⟨h1,h2⟩; exact vecs1 rfl h1 h2
theorem nums_row1:nums 1 (rowsOf 2 [i64 a,bo e]) = inR a:=by
 apply propext
 constructor
 ·intro h; exact (h 0 (by omega)).2
 ·intro h; exact nums1 rfl h
end
def nAbs (a:Nb):Nb:=(ab (whV a.1),whF a.1 a.2)
def nMx (a b:Nb):Nb:=(if whV a.1 < whV b.1 then whV b.1 else whV a.1,whF a.1 a.2 || whF b.1 b.2)
def nMn (a b:Nb):Nb:=(if whV b.1 < whV a.1 then whV b.1 else whV a.1,whF a.1 a.2 || whF b.1 b.2)
def vLoc (x y:Int):V2:=(nRat x 256,nRat y 256)
def vAdd (a b:V2):V2:=(nAdd a.1 b.1,nAdd a.2 b.2)
def vSub (a b:V2):V2:=(nSub a.1 b.1,nSub a.2 b.2)
def vScale (v:V2) (k:Nb):V2:=(nMul v.1 k,nMul v.2 k)
def vDot (a b:V2):Nb:=nDot a.1 b.1 a.2 b.2
def vCross (a b:V2):Nb:=nDot a.1 b.2 (nNeg a.2) b.1
def vLen (a:V2):Nb:=nHyp a.1 a.2
def vOf (x y:Int):V2:=(nInt x,nInt y)
def vUnit (v:V2):Bool × V2:=unS v.1.1 v.1.2 v.2.1 v.2.2
def vApply (r v:V2):V2:=(nDot r.1 v.1 (nNeg r.2) v.2,nDot r.2 v.1 r.1 v.2)
def vNorm (a b c d:Int):V2:=(vUnit (vOf (d - b) (-(c - a)))).2
theorem inR_of {x:Int} (h:rg x):inR x = True:=eq_true (rg_inR h)
section
variable {a b c d:Nb} {u v:V2} {x y:Int}
theorem iMul:inR (nMul a b).1 = True:=inR_of nMul_rg
theorem iDiv:inR (nDiv a b).1 = True:=inR_of nDiv_rg
theorem iInt:inR (nInt x).1 = True:=inR_of nInt_rg
theorem iAdd:inR (nAdd a b).1 = True:=inR_of nAdd_rg
theorem iSub:inR (nSub a b).1 = True:=inR_of nSub_rg
theorem iRat:inR (nRat x y).1 = True:=inR_of nRat_rg
theorem iDot:inR (nDot a b c d).1 = True:=inR_of nDot_rg
theorem iHyp:inR (nHyp a b).1 = True:=inR_of nHyp_rg
theorem iSq:inR (nSq a).1 = True:=inR_of sqV_rg
theorem iNeg (h:inR a.1):inR (nNeg a).1 = True:=inR_of (nNeg_rg h)
theorem iPos (h:inR a.1):inR (nPos a).1 = True:=inR_of (nPos_rg h)
theorem iAbs (h:inR a.1):inR (nAbs a).1 = True:=by
 refine inR_of ?_
 have:=whV_rg h
 unfold nAbs ab rg at *; dsimp only; split <;> omega
theorem iMx (h:inR a.1) (k:inR b.1):inR (nMx a b).1 = True:=by
 refine inR_of ?_
 have h1:=whV_rg h
 have h2:=whV_rg k
 unfold nMx rg at *; dsimp only; split <;> omega
theorem iMn (h:inR a.1) (k:inR b.1):inR (nMn a b).1 = True:=by
 refine inR_of ?_
 have h1:=whV_rg h
 have h2:=whV_rg k
 unfold nMn rg at *; dsimp only; split <;> omega
theorem iCl (h:inR a.1) (k:inR b.1) (l:inR c.1):inR (nCl a b c).1 = True:=by
 refine inR_of ?_
 have h1:=whV_rg h
 have h2:=whV_rg k
 have h3:=whV_rg l
 unfold nCl rg at *; dsimp only; omega
theorem iLoc1:inR (vLoc x y).1.1 = True:=iRat
theorem iLoc2:inR (vLoc x y).2.1 = True:=iRat
theorem iVAdd1:inR (vAdd u v).1.1 = True:=iAdd
theorem iVAdd2:inR (vAdd u v).2.1 = True:=iAdd
theorem iVSub1:inR (vSub u v).1.1 = True:=iSub
theorem iVSub2:inR (vSub u v).2.1 = True:=iSub
theorem iScale1:inR (vScale u a).1.1 = True:=iMul
theorem iScale2:inR (vScale u a).2.1 = True:=iMul
theorem iVDot:inR (vDot u v).1 = True:=iDot
theorem iVCross:inR (vCross u v).1 = True:=iDot
theorem iLen:inR (vLen u).1 = True:=iHyp
theorem iOf1:inR (vOf x y).1.1 = True:=iInt
theorem iOf2:inR (vOf x y).2.1 = True:=iInt
theorem iUnit1:inR (vUnit u).2.1.1 = True:=inR_of unS_rg.1
theorem iUnit2:inR (vUnit u).2.2.1 = True:=inR_of unS_rg.2
theorem iApply1:inR (vApply u v).1.1 = True:=iDot
theorem iApply2:inR (vApply u v).2.1 = True:=iDot
theorem iNorm1 {z t:Int}:inR (vNorm x y z t).1.1 = True:=iUnit1
theorem iNorm2 {z t:Int}:inR (vNorm x y z t).2.1 = True:=iUnit2
theorem inR_0:inR 0 = True:=eq_true (inRo (by omega))
theorem inR_1:inR 1 = True:=eq_true (inRo (by omega))
theorem inR_2:inR 2 = True:=eq_true (inRo (by omega))
theorem inR_m1:inR (-1) = True:=eq_true (inRo (by omega))
theorem inR_256:inR 256 = True:=eq_true (inRo (by omega))
theorem inR_one:inR 4294967296 = True:=eq_true (inRo (by omega))
end
attribute [go_sem] bnd_nb bnd_ve bnd_un plain_nb plain_ve plain_un etaN etaV gx_rows1 gx_rows2 gb_rows1 gb_rows2 gx4_1 gx4_2 gx4_3 gx4_4 gb4_1 gb4_2 gb4_3 gb4_4 vecs_rows nums_rows vecs_row1 nums_row1
attribute [go_sem] iMul iDiv iInt iAdd iSub iRat iDot iHyp iSq iNeg iPos iAbs iMx iMn iCl iLoc1 iLoc2 iVAdd1 iVAdd2 iVSub1 iVSub2 iScale1 iScale2 iVDot iVCross iLen iOf1 iOf2 iUnit1 iUnit2 iApply1 iApply2 iNorm1 iNorm2 inR_0 inR_1 inR_2 inR_m1 inR_256 inR_one
def k127:Con
 | [.v (.int .i64 n)] => some ([inR n],nbA (nInt n))
 | _ => none
theorem kon127:ConOK prog 103 k127:=(show c103 = k127 by kernel_rfl) ▸ con103
def k50:Con
 | [.v (.int .i64 n)] => some ([inR n],nbA (nInt n))
 | _ => none
theorem kon50:ConOK prog 33 k50:=(show c33 = k50 by kernel_rfl) ▸ con33
def k179:Con
 | [.agg [.v (.int .i64 v),.v (.bool f)]] => some ([inR v],nbA (nNeg (v,f)))
 | _ => none
theorem kon179:ConOK prog 112 k179:=(show c112 = k179 by kernel_rfl) ▸ con112
def k111:Con
 | [.agg [.v (.int .i64 v),.v (.bool f)]] => some ([inR v],nbA (nNeg (v,f)))
 | _ => none
theorem kon111:ConOK prog 184 k111:=(show c184 = k111 by kernel_rfl) ▸ con184
def k126:Con
 | [.agg [.v (.int .i64 v),.v (.bool f)]] => some ([inR v],nbA (nAbs (v,f)))
 | _ => none
theorem kon126:ConOK prog 50 k126:=(show c50 = k126 by kernel_rfl) ▸ con50
def k45:Con
 | [.agg [.v (.int .i64 v),.v (.bool f)]] => some ([inR v],nbA (nAbs (v,f)))
 | _ => none
theorem kon45:ConOK prog 240 k45:=(show c240 = k45 by kernel_rfl) ▸ con240
def k129:Con
 | [.agg [.v (.int .i64 v),.v (.bool f)],.agg [.v (.int .i64 u),.v (.bool e)]] => some ([inR v,inR u],nbA (nMul (v,f) (u,e)))
 | _ => none
theorem kon129:ConOK prog 47 k129:=(show c47 = k129 by kernel_rfl) ▸ con47
def k52:Con
 | [.agg [.v (.int .i64 v),.v (.bool f)],.agg [.v (.int .i64 u),.v (.bool e)]] => some ([inR v,inR u],nbA (nMul (v,f) (u,e)))
 | _ => none
theorem kon52:ConOK prog 185 k52:=(show c185 = k52 by kernel_rfl) ▸ con185
def k125:Con
 | [.agg [.v (.int .i64 v),.v (.bool f)],.agg [.v (.int .i64 u),.v (.bool e)],.agg [.v (.int .i64 x),.v (.bool p)],.agg [.v (.int .i64 y),.v (.bool q)]] => some ([inR v,inR u,inR x,inR y],nbA (nDot (v,f) (u,e) (x,p) (y,q)))
 | _ => none
theorem kon125:ConOK prog 129 k125:=(show c129 = k125 by kernel_rfl) ▸ con129
def k136:Con
 | [.agg [.v (.int .i64 v),.v (.bool f)],.agg [.v (.int .i64 u),.v (.bool e)],.agg [.v (.int .i64 x),.v (.bool p)],.agg [.v (.int .i64 y),.v (.bool q)]] => some ([inR v,inR u,inR x,inR y],nbA (nDot (v,f) (u,e) (x,p) (y,q)))
 | _ => none
theorem kon136:ConOK prog 238 k136:=(show c238 = k136 by kernel_rfl) ▸ con238
def k160:Con
 | [.agg [.v (.int .i64 v),.v (.bool f)],.agg [.v (.int .i64 u),.v (.bool e)]] => some ([inR v,inR u],nbA (nSub (v,f) (u,e)))
 | _ => none
theorem kon160:ConOK prog 111 k160:=(show c111 = k160 by kernel_rfl) ▸ con111
def k46:Con
 | [.agg [.v (.int .i64 v),.v (.bool f)],.agg [.v (.int .i64 u),.v (.bool e)]] => some ([inR v,inR u],nbA (nSub (v,f) (u,e)))
 | _ => none
theorem kon46:ConOK prog 220 k46:=(show c220 = k46 by kernel_rfl) ▸ con220
def k132:Con
 | [.v (.int .i64 a),.v (.int .i64 b)] => some ([inR a,inR b],nbA (nRat a b))
 | _ => none
theorem kon132:ConOK prog 52 k132:=(show c52 = k132 by kernel_rfl) ▸ con52
def k54:Con
 | [.v (.int .i64 a),.v (.int .i64 b)] => some ([inR a,inR b],nbA (nRat a b))
 | _ => none
theorem kon54:ConOK prog 151 k54:=(show c151 = k54 by kernel_rfl) ▸ con151
def k168:Con
 | [.agg [.v (.int .i64 v),.v (.bool f)],.agg [.v (.int .i64 u),.v (.bool e)]] => some ([inR v,inR u],nbA (nDiv (v,f) (u,e)))
 | _ => none
theorem kon168:ConOK prog 78 k168:=(show c78 = k168 by kernel_rfl) ▸ con78
def k144:Con
 | [.agg [.v (.int .i64 v),.v (.bool f)],.agg [.v (.int .i64 u),.v (.bool e)]] => some ([inR v,inR u],nbA (nDiv (v,f) (u,e)))
 | _ => none
theorem kon144:ConOK prog 150 k144:=(show c150 = k144 by kernel_rfl) ▸ con150
def k213:Con
 | [.agg [.v (.int .i64 v),.v (.bool f)],.agg [.v (.int .i64 u),.v (.bool e)]] => some ([inR v,inR u],nbA (nHyp (v,f) (u,e)))
 | _ => none
theorem kon213:ConOK prog 162 k213:=(show c162 = k213 by kernel_rfl) ▸ con162
def k112:Con
 | [.agg [.v (.int .i64 v),.v (.bool f)],.agg [.v (.int .i64 u),.v (.bool e)]] => some ([inR v,inR u],nbA (nHyp (v,f) (u,e)))
 | _ => none
theorem kon112:ConOK prog 267 k112:=(show c267 = k112 by kernel_rfl) ▸ con267
def k171:Con
 | [.agg [.v (.int .i64 x),.v (.bool f)],.agg [.v (.int .i64 l),.v (.bool p)],.agg [.v (.int .i64 h),.v (.bool q)]] => some ([inR x,inR l,inR h],nbA (nCl (x,f) (l,p) (h,q)))
 | _ => none
theorem kon171:ConOK prog 102 k171:=(show c102 = k171 by kernel_rfl) ▸ con102
def k146:Con
 | [.agg [.v (.int .i64 x),.v (.bool f)],.agg [.v (.int .i64 l),.v (.bool p)],.agg [.v (.int .i64 h),.v (.bool q)]] => some ([inR x,inR l,inR h],nbA (nCl (x,f) (l,p) (h,q)))
 | _ => none
theorem kon146:ConOK prog 186 k146:=(show c186 = k146 by kernel_rfl) ▸ con186
def k69:Con
 | [.agg [.v (.int .i64 x),.v (.int .i64 y)]] => some ([inR x,inR y],veA (vLoc x y))
 | _ => none
theorem kon69:ConOK prog 159 k69:=(show c159 = k69 by kernel_rfl) ▸ con159
def k161:Con
 | [.agg [.v (.int .i64 x),.v (.bool e),.v (.int .i64 y),.v (.bool f)]] => some ([inR x,inR y],nbA (vLen ((x,e),(y,f))))
 | _ => none
theorem kon161:ConOK prog 175 k161:=(show c175 = k161 by kernel_rfl) ▸ con175
def k169:Con
 | [.agg [.v (.int .i64 x),.v (.bool e),.v (.int .i64 y),.v (.bool f)],.agg [.v (.int .i64 k),.v (.bool g)]] => some ([inR x,inR y,inR k],veA (vScale ((x,e),(y,f)) (k,g)))
 | _ => none
theorem kon169:ConOK prog 44 k169:=(show c44 = k169 by kernel_rfl) ▸ con44
def k178:Con
 | [.agg [.v (.int .i64 x),.v (.bool e),.v (.int .i64 y),.v (.bool f)],.agg [.v (.int .i64 z),.v (.bool g),.v (.int .i64 t),.v (.bool h)]] => some ([inR x,inR y,inR z,inR t],nbA (vDot ((x,e),(y,f)) ((z,g),(t,h))))
 | _ => none
theorem kon178:ConOK prog 174 k178:=(show c174 = k178 by kernel_rfl) ▸ con174
def k250:Con
 | [.agg [.v (.int .i64 x),.v (.bool e),.v (.int .i64 y),.v (.bool f)],.agg [.v (.int .i64 z),.v (.bool g),.v (.int .i64 t),.v (.bool h)]] => some ([inR x,inR y,inR z,inR t],nbA (vCross ((x,e),(y,f)) ((z,g),(t,h))))
 | _ => none
theorem kon250:ConOK prog 85 k250:=(show c85 = k250 by kernel_rfl) ▸ con85
def k165:Con
 | [.agg [.v (.int .i64 x),.v (.bool e),.v (.int .i64 y),.v (.bool f)]] => some ([inR x,inR y],unA (vUnit ((x,e),(y,f))))
 | _ => none
theorem kon165:ConOK prog 172 k165:=(show c172 = k165 by kernel_rfl) ▸ con172
def k139:Con
 | [.agg [.v (.int .i64 x),.v (.bool e),.v (.int .i64 y),.v (.bool f)],.agg [.v (.int .i64 z),.v (.bool g),.v (.int .i64 t),.v (.bool h)]] => some ([inR x,inR y,inR z,inR t],veA (vApply ((x,e),(y,f)) ((z,g),(t,h))))
 | _ => none
theorem kon139:ConOK prog 242 k139:=(show c242 = k139 by kernel_rfl) ▸ con242
theorem owe2 {p q:Prop} (h1:p) (h2:q):∀ x ∈ [p,q],x:=List.forall_mem_cons.2 ⟨h1,List.forall_mem_cons.2 ⟨h2,fun _ h => (List.not_mem_nil h).elim⟩⟩
def vTwo (g:Nat → List AV):AV:=veA (vAdd ((gx g 0 0,gb g 1 0),(gx g 2 0,gb g 3 0)) ((gx g 0 1,gb g 1 1),(gx g 2 1,gb g 3 1)))
theorem vecs_at {g:Nat → List AV} (h:vecs 2 g):g 0 = [i64 (gx g 0 0),bo (gb g 1 0),i64 (gx g 2 0),bo (gb g 3 0)] ∧ g 1 = [i64 (gx g 0 1),bo (gb g 1 1),i64 (gx g 2 1),bo (gb g 3 1)]:=⟨(h 0 (by omega)).1,(h 1 (by omega)).1⟩
theorem two_eq {g:Nat → List AV} (h:vecs 2 g):ve (su1 2 (gx g 0) (gb g 1)) (su1 2 (gx g 2) (gb g 3)) = vTwo g:=by
 obtain ⟨h0,h1⟩:=vecs_at h
 rw [su2x h0 h1,su2y h0 h1]; rfl
def k130:Con
 | [.ro 2 4 g] => some ([vecs 2 g],veA (vAdd ((gx g 0 0,gb g 1 0),(gx g 2 0,gb g 3 0)) ((gx g 0 1,gb g 1 1),(gx g 2 1,gb g 3 1))))
 | _ => none
theorem kon130:ConOK prog 43 k130:=fun l ob r hc hob => by
 unfold k130 at hc
 split at hc
 ·rename_i g
  cases hc
  have h:vecs 2 g:=hob _ (by simp)
  have:=con43 [.ro 2 4 g] _ _ rfl (owe2 h (by omega))
  rw [two_eq h] at this
  exact this
 ·cases hc
def k138:Con
 | [.ro 2 4 g] => some ([vecs 2 g],veA (vAdd ((gx g 0 0,gb g 1 0),(gx g 2 0,gb g 3 0)) ((gx g 0 1,gb g 1 1),(gx g 2 1,gb g 3 1))))
 | _ => none
theorem kon138:ConOK prog 222 k138:=fun l ob r hc hob => by
 unfold k138 at hc
 split at hc
 ·rename_i g
  cases hc
  have h:vecs 2 g:=hob _ (by simp)
  have:=con222 [.ro 2 4 g] _ _ rfl (owe2 h (by omega))
  rw [two_eq h] at this
  exact this
 ·cases hc
theorem nums_at {g:Nat → List AV} (h:nums 2 g):g 0 = [i64 (gx g 0 0),bo (gb g 1 0)] ∧ g 1 = [i64 (gx g 0 1),bo (gb g 1 1)]:=⟨(h 0 (by omega)).1,(h 1 (by omega)).1⟩
theorem mx_eq {g:Nat → List AV} (h:nums 2 g):moS (-1) 2 g = nbA (nMx (gx g 0 0,gb g 1 0) (gx g 0 1,gb g 1 1)):=by
 obtain ⟨h0,h1⟩:=nums_at h
 unfold nbA nMx
 have e:=(sum2 h0 h1).2
 have m:=mo2 (o:=-1) h0 h1
 have e1:((-1:Int) = 1) = False:=by decide
 simp only [e1,false_and,false_or,eq_self,true_and] at m
 show AV.agg [i64 (moV (-1) 2 g),bo (wfS 2 g)] = _
 rw [m,e]
theorem mn_eq {g:Nat → List AV} (h:nums 2 g):moS 1 2 g = nbA (nMn (gx g 0 0,gb g 1 0) (gx g 0 1,gb g 1 1)):=by
 obtain ⟨h0,h1⟩:=nums_at h
 unfold nbA nMn
 have e:=(sum2 h0 h1).2
 have m:=mo2 (o:=1) h0 h1
 have e1:((1:Int) = -1) = False:=by decide
 simp only [e1,false_and,or_false,eq_self,true_and] at m
 show AV.agg [i64 (moV 1 2 g),bo (wfS 2 g)] = _
 rw [m,e]
def k143:Con
 | [.ro 2 2 g] => some ([nums 2 g],nbA (nMx (gx g 0 0,gb g 1 0) (gx g 0 1,gb g 1 1)))
 | _ => none
theorem kon143:ConOK prog 219 k143:=fun l ob r hc hob => by
 unfold k143 at hc
 split at hc
 ·rename_i g
  cases hc
  have h:nums 2 g:=hob _ (by simp)
  have:=con219 [.ro 2 2 g] _ _ rfl (owe2 h (by omega))
  rw [mx_eq h] at this
  exact this
 ·cases hc
def k163:Con
 | [.ro 2 2 g] => some ([nums 2 g],nbA (nMn (gx g 0 0,gb g 1 0) (gx g 0 1,gb g 1 1)))
 | _ => none
theorem kon163:ConOK prog 251 k163:=fun l ob r hc hob => by
 unfold k163 at hc
 split at hc
 ·rename_i g
  cases hc
  have h:nums 2 g:=hob _ (by simp)
  have:=con251 [.ro 2 2 g] _ _ rfl (owe2 h (by omega))
  rw [mn_eq h] at this
  exact this
 ·cases hc
def k214:Con
 | [.ro 2 2 g] => some ([nums 2 g],nbA (nMx (gx g 0 0,gb g 1 0) (gx g 0 1,gb g 1 1)))
 | _ => none
theorem kon214:ConOK prog 49 k214:=fun l ob r hc hob => by
 unfold k214 at hc
 split at hc
 ·rename_i g
  cases hc
  have h:nums 2 g:=hob _ (by simp)
  have:=con49 [.ro 2 2 g] _ _ rfl (owe2 h (by omega))
  rw [mx_eq h] at this
  exact this
 ·cases hc
theorem nPos_eq {a:Nb}:nMx (0,false) a = nPos a:=by
 have c1:whV 0 = 0:=by decide
 have c2:whF 0 false = false:=by decide
 unfold nMx nPos
 dsimp only
 rw [c1,c2,Bool.false_or]
attribute [go_sem] nPos_eq
def k47:Con
 | [.agg [.v (.int .i64 x),.v (.bool e),.v (.int .i64 y),.v (.bool f)]] => some ([inR x,inR y],nbA (vLen ((x,e),(y,f))))
 | _ => none
theorem kon47:ConOK prog 221 k47:=ConOK.of (G:=[(267,k112)]) (H:=[]) (.cons kon112 .nil) func221 fun l ob r hc hob => by
 unfold k47 at hc
 split at hc
 ·rename_i x e y f
  cases hc
  have h_0:=ob0 hob
  have h_1:=ob1 hob
  refine ⟨by kernel_rfl,fnVC_go (rs:=[.cell 2 27]) rfl rfl ?_⟩
  simp only [go_sem,k112,h_0,h_1]
  rfl
 ·cases hc
def k145:Con
 | [.agg [.v (.int .i64 x),.v (.bool e),.v (.int .i64 y),.v (.bool f)],.agg [.v (.int .i64 z),.v (.bool g),.v (.int .i64 t),.v (.bool h)]] => some ([inR x,inR y,inR z,inR t],nbA (vDot ((x,e),(y,f)) ((z,g),(t,h))))
 | _ => none
theorem kon145:ConOK prog 230 k145:=ConOK.of (G:=[(238,k136)]) (H:=[]) (.cons kon136 .nil) func230 fun l ob r hc hob => by
 unfold k145 at hc
 split at hc
 ·rename_i x e y f z g t h
  cases hc
  have h_0:=ob0 hob
  have h_1:=ob1 hob
  have h_2:=ob2 hob
  have h_3:=ob3 hob
  refine ⟨by kernel_rfl,fnVC_go (rs:=[.cell 4 27]) rfl rfl ?_⟩
  simp only [go_sem,k136,h_0,h_1,h_2,h_3]
  rfl
 ·cases hc
def k147:Con
 | [.agg [.v (.int .i64 x),.v (.bool e),.v (.int .i64 y),.v (.bool f)],.agg [.v (.int .i64 k),.v (.bool g)]] => some ([inR x,inR y,inR k],veA (vScale ((x,e),(y,f)) (k,g)))
 | _ => none
theorem kon147:ConOK prog 223 k147:=ConOK.of (G:=[(185,k52)]) (H:=[(1,⟨[(9,.slot 4)],[]⟩)]) (.cons kon52 .nil) func223 fun l ob r hc hob => by
 unfold k147 at hc
 split at hc
 ·rename_i x e y f k g
  cases hc
  have h_0:=ob0 hob
  have h_1:=ob1 hob
  have h_2:=ob2 hob
  refine ⟨by kernel_rfl,fnVC_go (rs:=[.cell 4 29]) rfl rfl ?_⟩
  simp only [go_sem,k52,h_0,h_1,h_2]
  rfl
 ·cases hc
def k149:Con
 | [.agg [.v (.int .i64 x),.v (.int .i64 y)]] => some ([inR x,inR y],veA (vOf x y))
 | _ => none
theorem kon149:ConOK prog 231 k149:=ConOK.of (G:=[(33,k50)]) (H:=[(1,⟨[(7,.slot 2)],[]⟩)]) (.cons kon50 .nil) func231 fun l ob r hc hob => by
 unfold k149 at hc
 split at hc
 ·rename_i x y
  cases hc
  have h_0:=ob0 hob
  have h_1:=ob1 hob
  refine ⟨by kernel_rfl,fnVC_go (rs:=[.cell 2 29]) rfl rfl ?_⟩
  simp only [go_sem,k50,h_0,h_1]
  rfl
 ·cases hc
def k181:Con
 | [.agg [.v (.int .i64 x),.v (.bool e),.v (.int .i64 y),.v (.bool f)],.agg [.v (.int .i64 z),.v (.bool g),.v (.int .i64 t),.v (.bool h)]] => some ([inR x,inR y,inR z,inR t],veA (vSub ((x,e),(y,f)) ((z,g),(t,h))))
 | _ => none
theorem kon181:ConOK prog 227 k181:=ConOK.of (G:=[(220,k46)]) (H:=[(1,⟨[(11,.slot 4)],[]⟩)]) (.cons kon46 .nil) func227 fun l ob r hc hob => by
 unfold k181 at hc
 split at hc
 ·rename_i x e y f z g t h
  cases hc
  have h_0:=ob0 hob
  have h_1:=ob1 hob
  have h_2:=ob2 hob
  have h_3:=ob3 hob
  refine ⟨by kernel_rfl,fnVC_go (rs:=[.cell 4 29]) rfl rfl ?_⟩
  simp only [go_sem,k46,h_0,h_1,h_2,h_3]
  rfl
 ·cases hc
def k172:Con
 | [.agg [.v (.int .i64 x),.v (.bool e),.v (.int .i64 y),.v (.bool f)],.agg [.v (.int .i64 z),.v (.bool g),.v (.int .i64 t),.v (.bool h)]] => some ([inR x,inR y,inR z,inR t],veA (vSub ((x,e),(y,f)) ((z,g),(t,h))))
 | _ => none
theorem kon172:ConOK prog 114 k172:=ConOK.of (G:=[(111,k160)]) (H:=[(1,⟨[(11,.slot 4)],[]⟩)]) (.cons kon160 .nil) func114 fun l ob r hc hob => by
 unfold k172 at hc
 split at hc
 ·rename_i x e y f z g t h
  cases hc
  have h_0:=ob0 hob
  have h_1:=ob1 hob
  have h_2:=ob2 hob
  have h_3:=ob3 hob
  refine ⟨by kernel_rfl,fnVC_go (rs:=[.cell 4 29]) rfl rfl ?_⟩
  simp only [go_sem,k160,h_0,h_1,h_2,h_3]
  rfl
 ·cases hc
def c264:Con
 | [.ro n 4 g] => some ([vecs n g,n ≤ 1000],bo (vfS n g))
 | _ => none
theorem vc264 (n:Nat) (X Y:Nat → Int) (E F:Nat → Bool) (hX:∀ i,i < n → inR (X i) ∧ inR (Y i)) (hn:n ≤ 1000):fnVC prog [(239,c239)] [] Tryz.f264 [.ro n 4 fun i => [i64 (X i),bo (E i),i64 (Y i),bo (F i)]] (· = bo (anyB (fun i => whF (X i) (E i) || whF (Y i) (F i)) n)):=by
 refine fnVC_go (rs:=[.tmp 2]) rfl rfl ?_
 simp only [go_sem]
 refine loopC_go (fun (i:Nat) => i ≤ n ∧ ∀ j,j < i → (whF (X j) (E j) || whF (Y j) (F j)) = false) (fun i => n - i) (fun i => [(3,i64 i)]) (fun _ => []) [] [4,5,6,7,10,11,12,13,14,15,16,17,18,19,20,21,22,23,2,8,9,3] 0 (by kernel_rfl) ?_ ⟨Nat.zero_le _,fun j hj => by omega⟩ ?_ ?_
 ·intro x _; simp [goodNames]
 ·simp only [go_sem]
 ·intro i hi
  simp only [go_sem,c239]
  refine ⟨fun h => ⟨by omega,h,fun z hz => ⟨(hX i (by omega)).1,fun _ => by omega,fun _ => h,fun z1 hz1 => ⟨fun _ => (hX i (by omega)).2,fun hb => ?_,fun hb z2 hz2 => ⟨i + 1,⟨by omega,fun j hj => ?_⟩,by omega,?_⟩⟩⟩⟩,fun h => ?_⟩
  ·have:anyB (fun i => whF (X i) (E i) || whF (Y i) (F i)) n = true:=anyB_iff.2 ⟨i,by omega,by rw [← hz,← hz1]; simpa using hb⟩
   rw [this]
  ·by_cases e:j = i
   ·subst e
    rw [← hz,← hz1]
    simpa using hb
   ·simpa using hi.2 j (by omega)
  ·rw [hz2,wrap_in (inRo (by omega))]; rfl
  ·have:anyB (fun i => whF (X i) (E i) || whF (Y i) (F i)) n = false:=by
    rw [Bool.eq_false_iff]
    intro hc
    obtain ⟨j,h1,h2⟩:=anyB_iff.1 hc
    rw [hi.2 j (by omega)] at h2; cases h2
   rw [this]
theorem con264:ConOK prog 264 c264:=ConOK.go (G:=[(239,c239)]) (H:=[]) (.cons con239 .nil) func264 fun l ob r hc hob => by
 unfold c264 at hc
 split at hc
 ·rename_i n g
  cases hc
  have hs:vecs n g:=hob _ (by simp)
  exact ⟨[.ro n 4 fun i => [i64 (gx g 0 i),bo (gb g 1 i),i64 (gx g 2 i),bo (gb g 3 i)]],fun w I vs h => Rs_one (fun v => ro_alike fun i hi => (hs i hi).1) h,by kernel_rfl,vc264 n _ _ _ _ (fun i hi => (hs i hi).2) (hob _ (by simp))⟩
 ·cases hc
def k140:Con
 | [.agg [.v (.int .i64 x),.v (.bool e),.v (.int .i64 y),.v (.bool f)]] => some ([inR x,inR y],unA (vUnit ((x,e),(y,f))))
 | _ => none
theorem kon140:ConOK prog 218 k140:=ConOK.of (G:=[(264,c264),(240,k45),(265,c265),(221,k47),(150,k144)]) (H:=[(5,⟨[(11,.slot 4)],[]⟩),(9,⟨[(9,.slot 2)],[]⟩)]) (.cons con264 (.cons kon45 (.cons con265 (.cons kon47 (.cons kon144 .nil))))) func218 fun l ob r hc hob => by
 unfold k140 at hc
 split at hc
 ·rename_i x e y f
  cases hc
  have h_0:=ob0 hob
  have h_1:=ob1 hob
  refine ⟨by kernel_rfl,fnVC_go (rs:=[.cell 2 29,.tmp 3]) rfl rfl ?_⟩
  simp only [go_sem,c264,k45,c265,k47,k144,h_0,h_1]
  have eU:vUnit ((x,e),y,f) = unS x e y f:=rfl
  have eab:∀ (v:Int) (g:Bool),whF v g = false → (nAbs (v,g)).1 = ab v:=fun v g h => by
   obtain ⟨h1,_⟩:=wh_split h
   show ab (whV v) = _
   unfold whV; rw [if_neg h1]
  rw [eU]
  intro z hz
  rw [vf1 rfl] at hz
  refine ⟨fun ht => ?_,fun ht => ⟨fun _ => trivial,?_,?_⟩⟩
  ·rw [unS_none (by rw [hz] at ht; simpa using ht)]; rfl
  ·intro hs z1 hz1 z2 hz2 z3 hz3 z4 hz4 z5 hz5 z6 hz6
   have ht2:whF x e = false ∧ whF y f = false:=by rw [hz] at ht; simpa using ht
   have ht:¬ (whF x e = true ∨ whF y f = true):=by rw [ht2.1,ht2.2]; simp
   rw [eab x e ht2.1,eab y f ht2.2] at hs
   have hxb:-16777216 < x ∧ x < 16777216:=by unfold ab at hs; have:=hs.1; split at this <;> omega
   have hyb:-16777216 < y ∧ y < 16777216:=by unfold ab at hs; have:=hs.2; split at this <;> omega
   have hb:unB x y = ((x * 16777216,false),(y * 16777216,false)):=by unfold unB; rw [if_pos hs]
   rw [wrap_in (x:=x * 16777216) (inRo (by omega))] at hz1
   rw [wrap_in (x:=y * 16777216) (inRo (by omega))] at hz4
   have w1:z2 = x * 16777216:=by rw [hz2,hz1]; unfold whV; rw [if_neg (by omega)]
   have w2:z3 = false:=by rw [hz3,hz1]; unfold whF; rw [decide_eq_false (by omega)]; rfl
   have w3:z5 = y * 16777216:=by rw [hz5,hz4]; unfold whV; rw [if_neg (by omega)]
   have w4:z6 = false:=by rw [hz6,hz4]; unfold whF; rw [decide_eq_false (by omega)]; rfl
   rw [w1,w2,w3,w4]
   refine ⟨inRo (by omega),inRo (by omega),fun h => ?_,fun h => ⟨inRo (by omega),inRo (by omega),?_⟩⟩
   ·rw [unS_nul ht hb (by simpa [vLen] using h)]; rfl
   ·rw [unS_some ht hb (by simpa [vLen] using h)]; rfl
  ·intro hs
   have ht2:whF x e = false ∧ whF y f = false:=by rw [hz] at ht; simpa using ht
   have ht:¬ (whF x e = true ∨ whF y f = true):=by rw [ht2.1,ht2.2]; simp
   rw [eab x e ht2.1,eab y f ht2.2] at hs
   have hb:unB x y = ((x,false),(y,false)):=by unfold unB; rw [if_neg (by simpa using hs)]
   obtain ⟨_,rfl⟩:=wh_split ht2.1
   obtain ⟨_,rfl⟩:=wh_split ht2.2
   refine ⟨fun h => ?_,fun h => ?_⟩
   ·rw [unS_nul ht hb (by simpa [vLen] using h)]; rfl
   ·rw [unS_some ht hb (by simpa [vLen] using h)]; rfl
 ·cases hc
def k83:Con
 | [.agg [.v (.int .i64 a),.v (.int .i64 b)],.agg [.v (.int .i64 c),.v (.int .i64 d)]] => some ([validS a b = true,validS c d = true],veA (vNorm a b c d))
 | _ => none
theorem kon83:ConOK prog 226 k83:=ConOK.of (G:=[(231,k149),(218,k140)]) (H:=[]) (.cons kon149 (.cons kon140 .nil)) func226 fun l ob r hc hob => by
 unfold k83 at hc
 split at hc
 ·rename_i a b c d
  cases hc
  have h_0:=ob0 hob
  have h_1:=ob1 hob
  refine ⟨by kernel_rfl,fnVC_go (rs:=[.cell 4 29]) rfl rfl ?_⟩
  simp only [go_sem,k149,k140]
  have v1:=validS_iff.1 h_0
  have v2:=validS_iff.1 h_1
  simp only [forall_eq]
  rw [wrap_in (x:=d - b) (inRo (by omega)),wrap_in (x:=a - c) (inRo (by omega)),show a - c = -(c - a) by omega]
  exact ⟨inRo (by omega),inRo (by omega),rfl⟩
 ·cases hc
end Go.Ax
end
section
set_option maxHeartbeats 4000000
set_option maxRecDepth 100000
namespace Go.Ax
open Go.Proofs Go.Proofs.Tryz Go.RowKit
def nxt2 (n i:Nat):Nat:=nxt n (nxt n i)
theorem nxt2_lt {n i:Nat} (h:i < n):nxt2 n i < n:=nxt_lt (nxt_lt h)
theorem tmod_nxt2 {n i:Nat} (h:i < n):Int.tmod ((i:Int) + 2) n = (nxt2 n i:Nat):=by
 have e:((i:Int) + 2) = ((i + 2:Nat):Int):=rfl
 rw [e,Int.tmod_eq_emod_of_nonneg (by omega),← Int.natCast_emod]
 congr 1
 unfold nxt2 nxt
 by_cases h2:i + 2 < n
 ·rw [Nat.mod_eq_of_lt h2,if_pos (show i + 1 < n by omega),if_pos h2]
 ·by_cases h1:i + 1 < n
  ·have:i + 2 = n:=by omega
   rw [if_pos h1,if_neg (by omega),this,Nat.mod_self]
  ·have:i + 1 = n:=by omega
   rw [if_neg h1,Nat.mod_eq_sub_mod (by omega),show i + 2 - n = 1 by omega]
   by_cases h0:0 + 1 < n
   ·rw [if_pos h0,Nat.mod_eq_of_lt h0]
   ·rw [if_neg h0,show n = 1 by omega]
def cornerE (n:Nat) (g:Nat → List AV) (i:Nat):List AV:=[.agg [i64 i,i64 (gx g 0 i),i64 (gx g 1 i),i64 (gx g 0 (nxt n i)),i64 (gx g 1 (nxt n i)),i64 (gx g 0 (nxt2 n i)),i64 (gx g 1 (nxt2 n i))]]
def c179:Con
 | [.rop [.ro n 2 g]] => some ([spots n g,n ≤ 9223372036854775800],.ro n 1 (cornerE n g))
 | _ => none
structure At179 (I:Nat → Prop) (w:World) (J:Nat → World → Prop) (l n:Nat) (v1:Value) (i:Nat) (a:Act) (W:World):Prop where
 sz:a.tmps.size = 35
 de:a.defers = []
 t0:a.tmps.getD 0 undef = .func (.yield l) #[] #[]
 t1:a.tmps.getD 1 undef = v1
 t3:a.tmps.getD 3 undef = .int .i64 n
 t7:a.tmps.getD 7 undef = .int .i64 n
 t8:a.tmps.getD 8 undef = .int .i64 i
 le:i ≤ n
 j:J i W
 same:Same I w W
theorem listed_eq {L:Array Bool} {n k:Nat} (hs:L.size = n) (h:∀ i,L.getD i false = decide (i < k)):L = ((List.range n).map fun i => decide (i < k)).toArray:=by
 apply Array.ext
 ·simp [hs]
 ·intro i h1 h2
  have:=h i
  rw [Array.getD_eq_getD_getElem?,Array.getElem?_eq_getElem h1] at this
  simpa using this
theorem wpOps_free' {P:Program} {n:Nat} {Q:Exit → Act → World → Prop} {a:Act} {w:World} {ro:Option Nat} {ops:Array Oper} {i:Nat} {o:Oper} {K:Act → World → Prop} (ho:ops[i]? = some o) (hg:o.guard = none) (h:o.wpIn (Fw ro) n P a w K Q):wpOpIn (Fw ro) n P ops Q i K a w:=by
 unfold wpOpIn
 rw [ho]
 dsimp only
 rw [if_pos (by simp [Region.wanted,hg])]; exact h
theorem no_nil {l:List Nat} {k:Nat} (e:l = [k]) (h:l = []):False:=by rw [e] at h; cases h
theorem mem_one {l:List Nat} {i k:Nat} (h:l = [k]) (hi:i ∈ l):i = k:=by rw [h] at hi; simpa using hi
theorem seq179:SeqOK prog 179 c179:=by
 intro es ob N k sq hc hob
 unfold c179 at hc
 split at hc
 case h_2 => cases hc
 rename_i n g
 simp only [Option.some.injEq,Prod.mk.injEq,AV.ro.injEq] at hc
 obtain ⟨rfl,rfl,rfl,rfl⟩:=hc
 have hsp:spots n g:=hob _ (by simp)
 have hn:n ≤ 9223372036854775800:=hob _ (by simp)
 intro I w vs nn l J Jx hI hRs hJ hJx h0 hy
 obtain ⟨v1,rest,rfl,hv1,hrest⟩:=hRs.inv
 have:rest = []:=by have:=hrest.1; simpa using this
 subst this
 cases hv1 with
 | rop b o hib hex hr =>
 obtain ⟨x,hx⟩:=hex 0 (by simp)
 have hx:Has w b o x:=hx
 have hib:I b:=hib
 have hxr:R w (.ext I) (.ro n 2 (sg g)) x:=ro_alike (fun i hi => (hsp i hi).1) (hr 0 _ x rfl hx)
 have hvr:R w (.ext I) (.rop [.ro n 2 (sg g)]) (.pointer (some ⟨b,o,none⟩)):=rop1 hib hx hxr
 refine ⟨callFunc_enter func179 (by kernel_rfl) rfl,?_⟩
 refine callsIn_of_wp_marks (F:=Fence.wide) func179 rfl trivial ?_
 have hm:prog.follows .mixedOrders = true:=by kernel_rfl
 rw [show Tryz.f179.ntmps = 35 from by kernel_rfl]
 generalize hes:(#[Value.func (.yield l) #[] #[]] ++ [Value.pointer (some ⟨b,o,none⟩)].toArray:Array Value) = es
 have hes2:es.size = 2:=by rw [← hes]; rfl
 have hes0:es[0]? = some (.func (.yield l) #[] #[]):=by rw [← hes]; rfl
 have hes1:es[1]? = some (.pointer (some ⟨b,o,none⟩)):=by rw [← hes]; rfl
 generalize ha:(Act.mk (es ++ Array.replicate (35 - es.size) undef) []) = a
 have hsz:a.tmps.size = 35:=by rw [← ha]; exact start_size (by omega)
 have hde:a.defers = []:=by rw [← ha]
 have ht0:a.tmps.getD 0 undef = .func (.yield l) #[] #[]:=by rw [← ha]; exact start_get hes0
 have ht1:a.tmps.getD 1 undef = .pointer (some ⟨b,o,none⟩):=by rw [← ha]; exact start_get hes1
 clear ha hes hes0 hes1 hes2
 have keepR:∀ {av:AV} {v:Value} {W:World},R w (.ext I) av v → Same I w W → R W (.ext I) av v:=fun h hs => h.mono (.refl _) hs
 have ltI:∀ {W:World},Same I w W → ∀ b,I b → b < W.heap.size:=fun {W} hs b hb => by
  have h1:=hs b hb
  have h2:=hI b hb
  rw [Array.getElem?_eq_getElem h2] at h1
  exact (Array.getElem?_eq_some_iff.1 h1).1
 -- region 0
 refine wpIn_seq (pieceI (G:=[]) (H:=[]) .nil hm (l:=[(1,.rop [.ro n 2 (sg g)])]) (W:=[5,6,3]) (K:=fun e s => match e with | .normal => slot s.t 3 = i64 n | _ => False) (by kernel_rfl) (by kernel_rfl) (by kernel_rfl) ?_ hI hsz ?_ ?_)
 ·refine awp_go (K1:=fun e t _ => match e with | .normal => slot t 3 = i64 n | _ => False) ?_
  simp only [go_sem,List.range,List.range.loop]
 ·intro p hp; simp only [List.mem_singleton] at hp; subst hp; dsimp only; rw [ht1]; exact hvr
 intro e s1 ρ1 a1 w1 k1 k2
 cases e with
 | exit j => exact k1.elim
 | ret => exact k1.elim
 | normal =>
 have bel1:RowKit.Below w.heap.size w w1:=k2.rel.below
 have hs1:Same I w w1:=Same.of_below bel1 hI
 have hj1:J 0 w1:=hJ 0 w w1 h0 bel1
 have u0:a1.tmps.getD 0 undef = .func (.yield l) #[] #[]:=(k2.frame 0 (show ¬ (0:Nat) ∈ [5,6,3] by decide)).trans ht0
 have u1:a1.tmps.getD 1 undef = .pointer (some ⟨b,o,none⟩):=(k2.frame 1 (show ¬ (1:Nat) ∈ [5,6,3] by decide)).trans ht1
 have u3:=k2.val k1
 have usz:=k2.size
 have ude:a1.defers = []:=k2.defers.trans hde
 clear k1 k2 s1 ρ1 hsz hde ht0 ht1
 -- region 1
 refine wpIn_seq (pieceI (G:=[]) (H:=[]) .nil hm (l:=[(3,i64 n)]) (W:=[7,8]) (K:=fun e s => match e with | .normal => slot s.t 7 = i64 n ∧ slot s.t 8 = i64 0 | _ => False) (by kernel_rfl) (by kernel_rfl) (by kernel_rfl) ?_ (ltI hs1) usz ?_ ?_)
 ·refine awp_go (K1:=fun e t _ => match e with | .normal => slot t 7 = i64 n ∧ slot t 8 = i64 0 | _ => False) ?_
  simp only [go_sem,List.range,List.range.loop]
 ·intro p hp; simp only [List.mem_singleton] at hp; subst hp; dsimp only; rw [u3]; exact .v
 intro e s3 ρ3 a3 w3 k1 k2
 cases e with
 | exit j => exact k1.elim
 | ret => exact k1.elim
 | normal =>
 have bel3:RowKit.Below w1.heap.size w1 w3:=k2.rel.below
 have hs3:Same I w w3:=hs1.trans (Same.of_below bel3 (ltI hs1))
 have hAt0:At179 I w J l n (.pointer (some ⟨b,o,none⟩)) 0 a3 w3:=
  ⟨k2.size,k2.defers.trans ude,(k2.frame 0 (show ¬ (0:Nat) ∈ [7,8] by decide)).trans u0,(k2.frame 1 (show ¬ (1:Nat) ∈ [7,8] by decide)).trans u1,(k2.frame 3 (show ¬ (3:Nat) ∈ [7,8] by decide)).trans u3,
   k2.val k1.1,k2.val k1.2,Nat.zero_le _,hJ 0 w1 w3 hj1 bel3,hs3⟩
 clear k1 k2 s3 ρ3 bel3 hs3 hj1 hs1 u0 u1 u3 usz ude
 refine wpIn_block (wpIn_loop_rounds (n + 1) ?_)
 obtain ⟨i,hAt,hlt⟩:∃ i,At179 I w J l n (.pointer (some ⟨b,o,none⟩)) i a3 w3 ∧ n - i < n + 1:=⟨0,hAt0,by omega⟩
 clear hAt0
 generalize n + 1 = fuel at hlt ⊢
 induction fuel generalizing i a3 w3 with
 | zero => omega
 | succ fuel ih =>
 rw [roundsIn_succ]
 -- the guard
 refine wpIn_seq (pieceI (G:=[]) (H:=[]) .nil hm (l:=[(7,i64 n),(8,i64 i)]) (W:=[9]) (K:=fun e s => match e with | .normal => slot s.t 9 = bo (decide ((i:Int) < n)) | _ => False) (by kernel_rfl) (by kernel_rfl) (by kernel_rfl) ?_ (ltI hAt.same) hAt.sz ?_ ?_)
 ·refine awp_go (K1:=fun e t _ => match e with | .normal => slot t 9 = bo (decide ((i:Int) < n)) | _ => False) ?_
  simp only [go_sem,List.range,List.range.loop]
 ·intro p hp
  simp only [List.mem_cons,List.mem_singleton,List.not_mem_nil,or_false] at hp
  rcases hp with rfl | rfl
  ·dsimp only; rw [hAt.t7]; exact .v
  ·dsimp only; rw [hAt.t8]; exact .v
 intro e s1 ρ1 a1 w1 k1 k2
 cases e with
 | exit j => exact k1.elim
 | ret => exact k1.elim
 | normal =>
 have bel1:RowKit.Below w3.heap.size w3 w1:=k2.rel.below
 have hs1:Same I w w1:=hAt.same.trans (Same.of_below bel1 (ltI hAt.same))
 have hj1:J i w1:=hJ i w3 w1 hAt.j bel1
 have v9:=k2.val k1
 have d1:a1.defers = []:=k2.defers.trans hAt.de
 have z1:=k2.size
 have f1:∀ j,¬ j ∈ [9] → a1.tmps.getD j undef = a3.tmps.getD j undef:=k2.frame
 clear k1 k2 s1 ρ1
 refine wpIn_seq (wpIn_cond_split (t:=decide ((i:Int) < n)) v9 ?_ ?_)
 case refine_2 =>
  intro hf
  have hin:i = n:=by have:=hAt.le; simp at hf; omega
  subst hin
  refine wpIn_exit ?_
  show LeavesInM Fence.wide nn prog Tryz.f179 a1.tmps _ a1.defers .returning w1
  exact leave_nil d1 rfl fun v => ⟨⟨v,rfl⟩,.inl hj1⟩
 intro ht
 have hin:i < n:=by simp at ht; omega
 refine wpIn_skip ?_
 refine wpIn_seq (wpIn_block ?_)
 -- region 3
 refine wpIn_seq (pieceI (G:=[]) (H:=[]) .nil hm (l:=[(8,i64 i)]) (W:=[10,4]) (K:=fun e s => match e with | .normal => slot s.t 4 = i64 i | _ => False) (by kernel_rfl) (by kernel_rfl) (by kernel_rfl) ?_ (ltI hs1) z1 ?_ ?_)
 ·refine awp_go (K1:=fun e t _ => match e with | .normal => slot t 4 = i64 i | _ => False) ?_
  simp only [go_sem,List.range,List.range.loop]
 ·intro p hp; simp only [List.mem_singleton] at hp; subst hp; dsimp only; rw [f1 8 (by decide),hAt.t8]; exact .v
 intro e s4 ρ4 a4 w4 k1 k2
 cases e with
 | exit j => exact k1.elim
 | ret => exact k1.elim
 | normal =>
 have bel4:RowKit.Below w1.heap.size w1 w4:=k2.rel.below
 have hs4:Same I w w4:=hs1.trans (Same.of_below bel4 (ltI hs1))
 have hj4:J i w4:=hJ i w1 w4 hj1 bel4
 have v4:=k2.val k1
 have d4:a4.defers = []:=k2.defers.trans d1
 have z4:=k2.size
 have f4:∀ j,¬ j ∈ [9] → ¬ j ∈ [10,4] → a4.tmps.getD j undef = a3.tmps.getD j undef:=fun j h1 h2 => (k2.frame j h2).trans (f1 j h1)
 clear k1 k2 s4 ρ4 f1 z1 d1 v9 hj1 hs1 bel1 bel4
 -- region 4: all but the yield
 obtain ⟨K1,hK1⟩:∃ K1:Slots → Prop,K1 = fun t => slot t 11 = .v (.func (.yield l) #[] #[]) ∧ [slot t 31] = cornerE n g i:=⟨_,rfl⟩
 refine wpIn_seq (region_splitA (G:=[]) (nt:=35) (hot:=⟨[],[]⟩) (s:=⟨[(0,.v (.func (.yield l) #[] #[])),(1,.rop [.ro n 2 (sg g)]),(3,i64 n),(4,i64 i)] ++ anyS (List.range 35),[],0⟩) (ds:=⟨a4.defers,(· ∈ [11,12,13,14,15,16,17,18,19,20,21,22,23,24,25,26,27,28,29,30,31,32,33]),a4.tmps⟩) .nil hm 21 (by decide) (by decide) (by kernel_rfl) (by kernel_rfl) (K:=fun s => K1 s.t) (by kernel_rfl) (fun j hj => hj) ?_ (SR.anew (ltI hs4) (slots_R z4 ?_) z4 rfl (fun _ _ => rfl)) ?_)
 ·show regC prog [] [] (fun _ s => K1 s.t) (some ⟨[],[]⟩) _ _ 0 [] _ [] 0
  have hn0:((n:Int) = 0) = False:=eq_false (by omega)
  simp only [go_sem,List.range,List.range.loop,sg_eq,hn0]
  subst hK1
  have e1:IntKind.i64.wrap ((i:Int) + 1) = i + 1:=wrap_in (inRo (by omega))
  have e2:IntKind.i64.wrap ((i:Int) + 2) = i + 2:=wrap_in (inRo (by omega))
  have l1:=nxt_lt hin
  have l2:=nxt2_lt hin
  refine ⟨by omega,by omega,fun z hz z1 hz1 => ?_⟩
  rw [hz,e1,tmod_nxt hin] at hz1
  subst hz1
  refine ⟨by omega,by omega,fun z2 hz2 z3 hz3 => ?_⟩
  rw [hz2,e2,tmod_nxt2 hin] at hz3
  subst hz3
  refine ⟨by omega,by omega,?_⟩
  simp only [slot_cons,Nat.reduceEqDiff,if_true,if_false,reduceIte,true_and,cornerE,gx,Int.toNat_natCast]
 ·intro p hp
  simp only [List.mem_cons,List.mem_singleton,List.not_mem_nil,or_false] at hp
  rcases hp with rfl | rfl | rfl | rfl
  ·dsimp only; rw [f4 0 (by decide) (by decide),hAt.t0]; exact .v
  ·dsimp only; rw [f4 1 (by decide) (by decide),hAt.t1]; exact keepR hvr hs4
  ·dsimp only; rw [f4 3 (by decide) (by decide),hAt.t3]; exact .v
  ·dsimp only; rw [v4]; exact .v
 intro s5 L ρ2 a2 w2 k1 hL1 hL2 k2
 subst hK1
 have bel2:RowKit.Below w4.heap.size w4 w2:=k2.rel.below
 have hs2:Same I w w2:=hs4.trans (Same.of_below bel2 (ltI hs4))
 have hj2:J i w2:=hJ i w4 w2 hj4 bel2
 have v11:=k2.val k1.1
 have e31:slot s5.t 31 = .agg [i64 i,i64 (gx g 0 i),i64 (gx g 1 i),i64 (gx g 0 (nxt n i)),i64 (gx g 1 (nxt n i)),i64 (gx g 0 (nxt2 n i)),i64 (gx g 1 (nxt2 n i))]:=by have:=k1.2; unfold cornerE at this; exact (List.cons.inj this).1
 have hargs:Rs w2 (.ext I) (cornerE n g i) [a2.tmps.getD 31 undef]:=by
  have q31:=k2.slots 31
  rw [e31] at q31
  exact .cons (plain_sound 3 rfl q31) .nil
 have d2:a2.defers = []:=k2.defers.trans d4
 have z2:=k2.size
 have f2:=k2.frame
 clear k1 e31
 have hL:L = ((List.range 23).map fun i => decide (i < 21)).toArray:=listed_eq hL1 hL2
 subst hL
 have z32:32 < a2.tmps.size:=by rw [z2]; decide
 refine ⟨fun h => (no_nil (k:=21) (by kernel_rfl) h).elim,fun j hj => ?_⟩
 have hj:j = 21:=mem_one (by kernel_rfl) hj
 subst hj
 refine wpOps_free' rfl rfl (yield_op (l:=l) [a2.tmps.getD 31 undef] rfl v11 (by simp [Act.eval]) (hy i w2 _ hin hj2 hs2 hargs) ?_)
 intro e W hpost
 obtain ⟨r,he,hsm,hjt,hjf⟩:∃ r,e = .returned (.bool r) ∧ Same I w2 W ∧ (r = true → J (i + 1) W) ∧ (r = false → Jx W):=by
  obtain ⟨hsm,⟨rfl,hj⟩ | ⟨rfl,hj⟩⟩:=hpost
  ·exact ⟨true,rfl,hsm,fun _ => hj,fun h => (by cases h)⟩
  ·exact ⟨false,rfl,hsm,fun h => (by cases h),fun _ => hj⟩
 subst he
 refine ⟨_,rfl,?_⟩
 have hs5:Same I w W:=hs2.trans hsm
 refine ⟨fun h => (no_nil (k:=22) (by kernel_rfl) h).elim,fun j hj => ?_⟩
 have hj:j = 22:=mem_one (by kernel_rfl) hj
 subst hj
 have q0:SR ⟨W,I,[],[]⟩ (.ext I) ([(32,bo r)] ++ anyS (List.range 35)) [] (· < 0) 35 ⟨[],(· ∈ [33]),(a2.put (some 32) (.bool r)).tmps⟩ (a2.put (some 32) (.bool r)) W:=SR.anew (ltI hs5) (slots_R ((put_size _ _).trans z2) (fun p hp => by
  simp only [List.mem_singleton] at hp; subst hp; dsimp only; rw [put_at z32]; exact .v)) ((put_size _ _).trans z2) d2 (fun _ _ => rfl)
 refine wpOps_free' rfl rfl ?_
 refine aStep_sound (G:=[]) (key:=0) (g:=none) (m':=[]) (e:=⟨[],bo (!r),.none⟩) (ρ0:=opd ([(32,bo r)] ++ anyS (List.range 35))) .nil q0.rel (by simp) (fun _ _ h => h) (by kernel_rfl) (fun q hq => by simp [owed,isPick,needs,Op.operands,opd,slot] at hq) q0.opd fun v w5 hpost => ?_
 obtain ⟨ρ5,p1,p2,p3,p4⟩:=hpost
 have bel5:RowKit.Below W.heap.size W w5:=p2.below
 have hs6:Same I w w5:=hs5.trans (Same.of_below bel5 (ltI hs5))
 cases p1
 have hput:∀ j,33 ≠ j → 32 ≠ j → (((a2.put (some 32) (.bool r)).put (some 33) (.bool (!r))).tmps.getD j undef) = a2.tmps.getD j undef:=fun j h1 h2 => by
  rw [put_not (by rw [put_size,z2]; decide) h1,put_not z32 h2]
 have z33:33 < (a2.put (some 32) (.bool r)).tmps.size:=by rw [put_size,z2]; decide
 have v33:((a2.put (some 32) (.bool r)).put (some 33) (.bool (!r))).tmps.getD 33 undef = .bool (!r):=put_at z33
 have z5:((a2.put (some 32) (.bool r)).put (some 33) (.bool (!r))).tmps.size = 35:=((put_size _ _).trans (put_size _ _)).trans z2
 have d5:((a2.put (some 32) (.bool r)).put (some 33) (.bool (!r))).defers = []:=d2
 show wpAnyIn (Fw none) nn prog .any _ _ 0 _ ((a2.put (some 32) (.bool r)).put (some 33) (.bool (!r))) w5
 generalize (a2.put (some 32) (.bool r)).put (some 33) (.bool (!r)) = a5 at *
 refine ⟨by kernel_rfl,?_⟩
 refine wpIn_cond_split (t:=!r) v33 (fun hb => ?_) (fun hb => ?_)
 ·have hr:r = false:=by simpa using hb
  have hjx:Jx w5:=hJx W w5 (hjf hr) bel5
  refine wpIn_ret ?_
  show LeavesInM Fence.wide nn prog Tryz.f179 a5.tmps _ a5.defers .returning w5
  exact leave_nil d5 rfl fun v => ⟨⟨v,rfl⟩,.inr hjx⟩
 ·have hr:r = true:=by simpa using hb
  have hj5:J (i + 1) w5:=hJ (i + 1) W w5 (hjt hr) bel5
  refine wpIn_skip ?_
  show Code.wpIn Fence.wide nn prog (Code.region 5 _ false) _ a5 w5
  have g2:∀ j,¬ j ∈ [9] → ¬ j ∈ [10,4] → ¬ j ∈ [11,12,13,14,15,16,17,18,19,20,21,22,23,24,25,26,27,28,29,30,31,32,33] → a5.tmps.getD j undef = a3.tmps.getD j undef:=fun j h1 h2 h3 => by
   rw [hput j (fun h => h3 (by subst h; decide)) (fun h => h3 (by subst h; decide)),f2 j h3,f4 j h1 h2]
  refine pieceI (G:=[]) (H:=[]) .nil hm (l:=[(8,i64 i)]) (W:=[34,8]) (K:=fun e s => match e with | .normal => slot s.t 8 = i64 (i + 1) | _ => False) (by kernel_rfl) (by kernel_rfl) (by kernel_rfl) ?_ (ltI hs6) z5 ?_ ?_
  ·refine awp_go (K1:=fun e t _ => match e with | .normal => slot t 8 = i64 (i + 1) | _ => False) ?_
   simp only [go_sem,List.range,List.range.loop]
   intro z hz
   have e1:IntKind.i64.wrap ((i:Int) + 1) = i + 1:=wrap_in (inRo (by omega))
   rw [hz,e1]
  ·intro p hp; simp only [List.mem_singleton] at hp; subst hp; dsimp only; rw [g2 8 (by decide) (by decide) (by decide),hAt.t8]; exact .v
  intro e s6 ρ6 a6 w6 q1 q2
  cases e with
  | exit j => exact q1.elim
  | ret => exact q1.elim
  | normal =>
  have bel6:RowKit.Below w5.heap.size w5 w6:=q2.rel.below
  have f6:∀ j,¬ j ∈ [34,8] → a6.tmps.getD j undef = a5.tmps.getD j undef:=q2.frame
  refine ih a6 w6 (i + 1) ⟨q2.size,q2.defers.trans d5,?_,?_,?_,?_,?_,by omega,hJ (i + 1) w5 w6 hj5 bel6,hs6.trans (Same.of_below bel6 (ltI hs6))⟩ (by omega)
  ·rw [f6 0 (by decide),g2 0 (by decide) (by decide) (by decide),hAt.t0]
  ·rw [f6 1 (by decide),g2 1 (by decide) (by decide) (by decide),hAt.t1]
  ·rw [f6 3 (by decide),g2 3 (by decide) (by decide) (by decide),hAt.t3]
  ·rw [f6 7 (by decide),g2 7 (by decide) (by decide) (by decide),hAt.t7]
  ·have:=q2.val q1; rw [this]; rfl
end Go.Ax
end