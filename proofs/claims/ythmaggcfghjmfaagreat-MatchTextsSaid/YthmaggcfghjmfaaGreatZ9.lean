/- The walks, part 9: the evaluator, the functions, the laws. Conditions: none. -/
import Derived.Shelf.LaysM
import Derived.Shelf.Strings.Search1
import Derived.Shelf.Strings.Search2
import Derived.Shelf.Strings.Search3
import Derived.Shelf.Strings.Shaped
import Derived.Test.YthmaggcfghjmfaaGreatZ8
namespace Go.Proofs.YthmaggcfghjmfaaGreat.Ev
open Go.Shelf Go.Proofs
def dc:Ren :=
{
 f:=fun x =>
  match x with
  | 144=>116
  | 143=>120
  | 219=>123
  | 217=>124
  | 225=>125
  | 224=>126
  | 267=>127
  | 266=>128
  | 314=>129
  | n=>n,
 t:=fun x =>
  match x with
  | 9=>9
  | 4=>4
  | 3=>3
  | 5=>5
  | 46=>126
  | 146=>158
  | 51=>157
  | n=>n,
 g:=fun x =>
  match x with
  | 1=>0
  | n=>n }
theorem vw:LaysM.n144 Tryz.prog dc :=
{ mixed:=by kernel_rfl,f143:=Eq.trans Tryz.func120 (congrArg some (Eq.refl (Body.n143 dc))),
  f144:=Eq.trans Tryz.func116 (congrArg some (Eq.refl (Body.n144 dc))),
  f217:=Eq.trans Tryz.func124 (congrArg some (Eq.refl (Body.n217 dc))),
  f219:=Eq.trans Tryz.func123 (congrArg some (Eq.refl (Body.n219 dc))),
  f224:=Eq.trans Tryz.func126 (congrArg some (Eq.refl (Body.n224 dc))),
  f225:=Eq.trans Tryz.func125 (congrArg some (Eq.refl (Body.n225 dc))),
  f266:=Eq.trans Tryz.func128 (congrArg some (Eq.refl (Body.n266 dc))),
  f267:=Eq.trans Tryz.func127 (congrArg some (Eq.refl (Body.n267 dc))),
  f314:=Eq.trans Tryz.func129 (congrArg some (Eq.refl (Body.n314 dc))),t3:=Tryz.underlying3,
  a3:=Tryz.isAgg3,z3:=Tryz.sizeOf3,v3:=Tryz.zeroValue3,t4:=Tryz.underlying4,a4:=Tryz.isAgg4,
  z4:=Tryz.sizeOf4,v4:=Tryz.zeroValue4,t5:=Tryz.underlying5,a5:=Tryz.isAgg5,z5:=Tryz.sizeOf5,
  v5:=Tryz.zeroValue5,t9:=Tryz.underlying9,a9:=Tryz.isAgg9,z9:=Tryz.sizeOf9,v9:=Tryz.zeroValue9,
  t46:=Tryz.underlying126,a46:=Tryz.isAgg126,z46:=Tryz.sizeOf126,v46:=Tryz.zeroValue126,
  t51:=Tryz.underlying157,a51:=Tryz.isAgg157,z51:=Tryz.sizeOf157,v51:=Tryz.zeroValue157,
  t146:=Tryz.underlying158,a146:=Tryz.isAgg158,z146:=Tryz.sizeOf158,v146:=Tryz.zeroValue158,
  g1:=by kernel_rfl,i3:=by kernel_rfl,
  i4:=by kernel_rfl,i5:=by kernel_rfl,
  i9:=by kernel_rfl,
  i46:=by kernel_rfl,
  i51:=by kernel_rfl,
  i146:=by kernel_rfl,
  m1:=by kernel_rfl,
  s1_3:=fun w h=>Go.Proofs.cell_of_shapedOpen_int h (zero:=#[Go.Value.int Go.IntKind.i64 0]) (t:=3) (of_decide_eq_true (by kernel_rfl)) (by kernel_rfl) rfl (by kernel_rfl) (by kernel_rfl) Tryz.underlying3 }
def Cy:Nat:=dc.g 1
theorem L_ {σ:Sig} (hg:σ.g=some Cy):nP σ:=by
 intro s t H hs
 refine ⟨⟨_,Tryz.func116,by kernel_rfl,by kernel_rfl⟩,fun B w0 E w vs hσ hst hx=>?_⟩
 obtain ⟨_,m,hm⟩:=hst.glNow Cy (by rw [hσ]; exact hg)
 have hl:=hx.len
 obtain ⟨v0,v1,rfl⟩:∃ v0 v1,vs=#[v0,v1]:=by
  obtain ⟨l⟩:=vs
  match l,hl with
  | [a,b],_=>exact ⟨a,b,rfl⟩
 have r0:=hx.at_ 0 _ v0 rfl (by simp)
 have r1:=hx.at_ 1 _ v1 rfl (by simp)
 cases r0
 cases r1
 refine (Any.strings_Contains (ρ:=dc) { vw with } s t m w hs hm).mono fun e w' he=>?_
 obtain ⟨rfl,rfl⟩:=he
 exact ⟨E,_,rfl,.refl E,hst,.lit _⟩
theorem GT (W:World) (h:W.ShapedOpen Tryz.prog) {σ:Sig} (hg:σ.g=some Cy):∀ g,σ.g=some g→∃ m:Int,W.cell? ⟨g,0,none⟩=some (.int .i64 m):=by
 intro g hg'
 rw [hg] at hg'
 cases hg'
 exact vw.s1_3 W h
end Go.Proofs.YthmaggcfghjmfaaGreat.Ev
namespace Go.Proofs.YthmaggcfghjmfaaGreat.Ev
open Go.RowKit
set_option linter.unusedVariables false
set_option linter.unusedSimpArgs false
set_option maxRecDepth 100000
variable {σ:Sig}
theorem yy.low {n:Nd} (h:yy n):SmN (ca n):=by
 have r:reachBytes=140737488351232:=rfl
 refine ⟨by have:=h.classes; show n.classes.length≤_; omega,by have:=h.attrs; show (n.attrs.map jO).length≤_; rw [List.length_map]; omega,fun p hp=>?_⟩
 obtain ⟨q,hq,rfl⟩:=List.mem_map.1 hp
 have:=(h.at' q hq).2
 show q.2.data.size<_
 omega
theorem pv.smN {L:List Nd} {d:List Nat} (h:pv L d):∀ e,e<L.length→SmN (ca (cB L e)):=by
 intro e he
 refine (h.sm _ ?_).low
 unfold cB
 rw [List.getD_eq_getElem?_getD,List.getElem?_eq_getElem he]
 exact List.getElem_mem _
theorem pv.mc {L:List Nd} {d:List Nat} (h:pv L d) (hC:nP σ):McT σ L d:=⟨hC,h.hB,by have:=h.len; omega,h.smN⟩
def IX:Sig:=⟨fun _=>0,fun _=>false,fun _=>⟨#[]⟩,some Cy⟩
theorem Cq:IX.g=some Cy:=rfl
section
attribute [local irreducible] aH.L0 aH.L1
theorem qb (hC:nP σ) {L:List Nd} (hW:∀ n ∈ L,mV n) {s:ByteArray}:∃ Hf,az Tryz.prog σ fC [nds L,Sx s] Hp.empty (Bo true) Hf:=by
 refine ⟨Hp.empty,bl (fun K hK=>aH.run ?_) (by simp [aP,bF]) rfl _⟩
 refine am (F3 hC _) ?_
 rcases DV (σ:=σ) L hW with hg | ⟨d,hT,hg⟩
 ·refine am (hg _) ?_
  simp only [oz,List.getElem?_cons_zero,List.getElem?_cons_succ,aa,dQ,ah,Bool.not_true,Bool.not_false,Bool.false_eq_true,if_true,if_false,eU,eF]
  split<;>exact hK _
 refine am (hg _) ?_
 simp only [oz,List.getElem?_cons_zero,List.getElem?_cons_succ,aa,dQ,ah,Bool.not_true,Bool.not_false,Bool.false_eq_true,if_true,if_false,eU,eF]
 split
 ·exact hK _
 rename_i hs
 have hs:s.data.size≤200:=by
  have:¬ (200:Int)<(s.data.size:Int):=by simpa using hs
  omega
 obtain ⟨m,hm,hb,hSels⟩:=FT (σ:=σ) s hs
 refine am (hSels _) ?_
 obtain ⟨much,hdear,hfit⟩:=FS (σ:=σ) m hm
 refine am (hdear _) ?_
 rw [ah]
 cases hmu:much with
 | true=>exact hK _
 | false =>
 simp only [Bool.false_eq_true,if_false]
 have M:=hT.mc hC
 have hl40:=hT.len
 have hN:NB=1048576:=rfl
 obtain ⟨S,X⟩:=Ar hm (hfit hmu) (by omega)
 have hml:m.length≤dz (m.map aU):=nr fun s _=>by rw [u5]; omega
 have L0:∀ (f e:Nat) (y:AV) (H:Hp),L.length - e=f→e≤L.length→aH.L0 σ K (nds L) (eI L d) (dZ L d) (sls m) (I (e:Int)) y H:=by
  intro f
  induction f with
  | zero =>
   intro e y H hf he
   have:¬ ((e:Int)<(L.length:Int)):=by omega
   refine aH.L0_step ?_
   simp only [iR,aa,bA,this,decide_false,ah,Bool.false_eq_true,if_false]
   exact hK _
  | succ f ih =>
   intro e y H hf he
   have hlt:(e:Int)<(L.length:Int):=by omega
   have h0:(0:Int)≤(e:Int):=by omega
   refine aH.L0_step ?_
   simp only [iR,aa,bA,hlt,decide_true,ah,if_true]
   refine am (BZ M S _ _) ?_
   refine am (Bh M S X (by omega) _ _) ?_
   rw [Aw (show e<L.length by omega)]
   simp only [h0,hlt,decide_true,Bool.and_self,Bool.true_and,Int.toNat_natCast,xT,BEq.rfl,Bool.not_true,aa,ah,Bool.false_eq_true,if_false]
   have L1:∀ (g i:Nat) (H:Hp),m.length - i=g→i≤m.length→aH.L1 σ K (nds L) (eI L d) (dZ L d) (sls m) (I (e:Int)) (I (i:Int)) H:=by
    intro g
    induction g with
    | zero =>
     intro i H hg hi
     have:¬ ((i:Int)<(m.length:Int)):=by omega
     refine aH.L1_step ?_
     simp only [nL,aa,bA,this,decide_false,ah,Bool.false_eq_true,if_false,bN]
     rw [bz (by omega)]
     exact ih (e+1) _ H (by omega) (by omega)
    | succ g ihg =>
     intro i H hg hi
     have hlt:(i:Int)<(m.length:Int):=by omega
     obtain ⟨t,ht⟩:=cb (show i<m.length by omega)
     have htm:=List.mem_of_getElem? ht
     have hix:aJ 1 (sls m) (I (i:Int))=some (.ip (aU t)):=bS ht
     refine aH.L1_step ?_
     simp only [nL,aa,bA,hlt,decide_true,ah,if_true,hix,e8,nG]
     refine am (tn M (S.one htm) _ _) ?_
     rw [KY]
     refine am (qY M (S.one htm) (X.one htm) _ _) ?_
     simp only [xT,BEq.rfl,Bool.not_true,aa,ah,Bool.false_eq_true,if_false,bN]
     rw [bz (by omega)]
     exact ihg (i+1) H (by omega) (by omega)
   exact L1 _ 0 H rfl (Nat.zero_le _)
 exact L0 _ 0 _ _ rfl (Nat.zero_le _)
end
theorem MatchTexts_walk {H:Type} {enc:TypeId × Value→H} (W:World) (hsh:W.ShapedOpen Tryz.prog) {v0 v1:Value} {r:Reach} {b0 base:Nat} {spare:Nat→Bool} {held:Bool} {d0 d1:DataW H} {p0 p1:List MemPlace}
  (e0:Value.okWide Tryz.prog W r b0 dH v0) (h0:DataW.Trod enc Tryz.prog W base spare held dH v0 d0 p0) (w0:∀ n ∈ d0.weights Tryz.prog dH,n≤reachBytes)
  (e1:Value.okWide Tryz.prog W r b0 eN v1) (h1:DataW.Trod enc Tryz.prog W base spare held eN v1 d1 p1) (w1:∀ n ∈ d1.weights Tryz.prog eN,n≤reachBytes) :
  Calls Tryz.prog fC #[v0,v1] W fun e W'=>e=.returned (.bool true)∧Below W.heap.size W W':=by
 obtain ⟨x0,r0,s0⟩:=uS (P:=Tryz.prog) (ti:=tiT.get) (S:=BS) (t:=dH) (σ:=IX) wb oN (mO (by kernel_rfl)) e0 h0 w0
 obtain ⟨x1,r1,s1⟩:=uS (P:=Tryz.prog) (ti:=tiT.get) (S:=BS) (t:=eN) (σ:=IX) wb oN (mO (by kernel_rfl)) e1 h1 w1
 obtain ⟨a,rfl,ha,_⟩:=FZ s0
 obtain ⟨s,rfl,hs⟩:=KL s1
 obtain ⟨Hf,hg⟩:=qb (L_ Cq) ha
 exact uG (Lq r0 r1) hg (GT W hsh Cq)
end Go.Proofs.YthmaggcfghjmfaaGreat.Ev
