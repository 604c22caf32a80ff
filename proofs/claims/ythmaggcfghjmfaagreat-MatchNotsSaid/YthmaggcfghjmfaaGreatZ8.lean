/- The walks, part 8: the evaluator, the functions, the laws. Conditions: none. -/
import Derived.Shelf.LaysM
import Derived.Shelf.Strings.Search1
import Derived.Shelf.Strings.Search2
import Derived.Shelf.Strings.Search3
import Derived.Shelf.Strings.Shaped
import Derived.Test.YthmaggcfghjmfaaGreatZ7
namespace Go.Proofs.YthmaggcfghjmfaaGreat.Ev
open Go.Shelf Go.Proofs
def cL:Ren :=
{
 f:=fun x =>
  match x with
  | 144=>116
  | 143=>120
  | 219=>123
  | 217=>124
  | 225=>125
  | 224=>126
  | 267=>127
  | 266=>128
  | 314=>129
  | n=>n,
 t:=fun x =>
  match x with
  | 9=>9
  | 4=>4
  | 3=>3
  | 5=>5
  | 46=>126
  | 146=>158
  | 51=>157
  | n=>n,
 g:=fun x =>
  match x with
  | 1=>0
  | n=>n }
theorem uu:LaysM.n144 Tryz.prog cL :=
{ mixed:=by kernel_rfl,f143:=Eq.trans Tryz.func120 (congrArg some (Eq.refl (Body.n143 cL))),
  f144:=Eq.trans Tryz.func116 (congrArg some (Eq.refl (Body.n144 cL))),
  f217:=Eq.trans Tryz.func124 (congrArg some (Eq.refl (Body.n217 cL))),
  f219:=Eq.trans Tryz.func123 (congrArg some (Eq.refl (Body.n219 cL))),
  f224:=Eq.trans Tryz.func126 (congrArg some (Eq.refl (Body.n224 cL))),
  f225:=Eq.trans Tryz.func125 (congrArg some (Eq.refl (Body.n225 cL))),
  f266:=Eq.trans Tryz.func128 (congrArg some (Eq.refl (Body.n266 cL))),
  f267:=Eq.trans Tryz.func127 (congrArg some (Eq.refl (Body.n267 cL))),
  f314:=Eq.trans Tryz.func129 (congrArg some (Eq.refl (Body.n314 cL))),t3:=Tryz.underlying3,
  a3:=Tryz.isAgg3,z3:=Tryz.sizeOf3,v3:=Tryz.zeroValue3,t4:=Tryz.underlying4,a4:=Tryz.isAgg4,
  z4:=Tryz.sizeOf4,v4:=Tryz.zeroValue4,t5:=Tryz.underlying5,a5:=Tryz.isAgg5,z5:=Tryz.sizeOf5,
  v5:=Tryz.zeroValue5,t9:=Tryz.underlying9,a9:=Tryz.isAgg9,z9:=Tryz.sizeOf9,v9:=Tryz.zeroValue9,
  t46:=Tryz.underlying126,a46:=Tryz.isAgg126,z46:=Tryz.sizeOf126,v46:=Tryz.zeroValue126,
  t51:=Tryz.underlying157,a51:=Tryz.isAgg157,z51:=Tryz.sizeOf157,v51:=Tryz.zeroValue157,
  t146:=Tryz.underlying158,a146:=Tryz.isAgg158,z146:=Tryz.sizeOf158,v146:=Tryz.zeroValue158,
  g1:=by kernel_rfl,i3:=by kernel_rfl,
  i4:=by kernel_rfl,i5:=by kernel_rfl,
  i9:=by kernel_rfl,
  i46:=by kernel_rfl,
  i51:=by kernel_rfl,
  i146:=by kernel_rfl,
  m1:=by kernel_rfl,
  s1_3:=fun w h=>Go.Proofs.cell_of_shapedOpen_int h (zero:=#[Go.Value.int Go.IntKind.i64 0]) (t:=3) (of_decide_eq_true (by kernel_rfl)) (by kernel_rfl) rfl (by kernel_rfl) (by kernel_rfl) Tryz.underlying3 }
def Cc:Nat:=cL.g 1
theorem KY {σ:Sig} (hg:σ.g=some Cc):nr σ:=by
 intro s t H hs
 refine ⟨⟨_,Tryz.func116,by kernel_rfl,by kernel_rfl⟩,fun B w0 E w vs hσ hst hx=>?_⟩
 obtain ⟨_,m,hm⟩:=hst.glNow Cc (by rw [hσ]; exact hg)
 have hl:=hx.len
 obtain ⟨v0,v1,rfl⟩:∃ v0 v1,vs=#[v0,v1]:=by
  obtain ⟨l⟩:=vs
  match l,hl with
  | [a,b],_=>exact ⟨a,b,rfl⟩
 have r0:=hx.at_ 0 _ v0 rfl (by simp)
 have r1:=hx.at_ 1 _ v1 rfl (by simp)
 cases r0
 cases r1
 refine (Any.strings_Contains (ρ:=cL) { uu with } s t m w hs hm).mono fun e w' he=>?_
 obtain ⟨rfl,rfl⟩:=he
 exact ⟨E,_,rfl,.refl E,hst,.lit _⟩
theorem Dq (W:World) (h:W.ShapedOpen Tryz.prog) {σ:Sig} (hg:σ.g=some Cc):∀ g,σ.g=some g→∃ m:Int,W.cell? ⟨g,0,none⟩=some (.int .i64 m):=by
 intro g hg'
 rw [hg] at hg'
 cases hg'
 exact uu.s1_3 W h
end Go.Proofs.YthmaggcfghjmfaaGreat.Ev
namespace Go.Proofs.YthmaggcfghjmfaaGreat.Ev
open Go.RowKit
set_option linter.unusedVariables false
set_option linter.unusedSimpArgs false
set_option maxRecDepth 100000
variable {σ:Sig}
theorem xY.low {n:Nd} (h:xY n):SmN (cm n):=by
 have r:reachBytes=140737488351232:=rfl
 refine ⟨by have:=h.classes; show n.classes.length≤_; omega,by have:=h.attrs; show (n.attrs.map iZ).length≤_; rw [List.length_map]; omega,fun p hp=>?_⟩
 obtain ⟨q,hq,rfl⟩:=List.mem_map.1 hp
 have:=(h.at' q hq).2
 show q.2.data.size<_
 omega
theorem oz.smN {L:List Nd} {d:List Nat} (h:oz L d):∀ e,e<L.length→SmN (cm (cW L e)):=by
 intro e he
 refine (h.sm _ ?_).low
 unfold cW
 rw [List.getD_eq_getElem?_getD,List.getElem?_eq_getElem he]
 exact List.getElem_mem _
theorem oz.mc {L:List Nd} {d:List Nat} (h:oz L d) (hC:nr σ):McT σ L d:=⟨hC,h.hB,by have:=h.len; omega,h.smN⟩
def DZ:Sig:=⟨fun _=>0,fun _=>false,fun _=>⟨#[]⟩,some Cc⟩
theorem yH:DZ.g=some Cc:=rfl
section
end
end Go.Proofs.YthmaggcfghjmfaaGreat.Ev
namespace Go.Proofs.YthmaggcfghjmfaaGreat.Ev
open Go.RowKit
set_option linter.unusedVariables false
set_option linter.unusedSimpArgs false
set_option maxRecDepth 100000
variable {σ:Sig}
theorem rG:∀ (f:Nat) {l:List Sl} {dp dp':Nat},dp≤dp'→dj f l dp=true→dj f l dp'=true
 | 0,_,_,_,_,h=>by cases h
 | f+1,l,dp,dp',hd,h=>by
  rw [dj,List.all_eq_true] at h ⊢
  intro s hs
  have h1:=h s hs
  unfold lQ at h1 ⊢
  rw [Bool.and_eq_true,List.all_eq_true] at h1 ⊢
  refine ⟨h1.1,fun p hp=>?_⟩
  have h2:=h1.2 p hp
  unfold lR at h2 ⊢
  rw [List.all_eq_true] at h2 ⊢
  intro q hq
  have h3:=h2 q hq
  unfold mu at h3 ⊢
  split at h3
  ·rename_i hk
   rw [if_pos hk]
   simp only [Bool.and_eq_true,Bool.not_eq_true',decide_eq_false_iff_not] at h3 ⊢
   exact ⟨by omega,rG f (by omega) h3.2⟩
  ·rename_i hk
   rw [if_neg hk]
def psC (k:Int) (l:List Sl):Cp:=.mk emp [] [] [] [.mk k 0 0 l]
theorem zB {c:Cp} (h:pq cF c):gd cF [[⟨0,c⟩]]:=⟨by show 1≤cF; decide,fun s' h'=>by
  rw [List.mem_singleton.1 h']
  refine ⟨by show 1≤cF; decide,fun p hp=>?_⟩
  rw [List.mem_singleton.1 hp,Pt.wf_iff]
  exact ⟨by show i64 0; unfold i64; decide,h⟩⟩
theorem Bv {k:Int} (hk:i64 k) {l:List Sl} (hl:gd cF l):pq cF (psC k l):=by
 have z:i64 0:=by unfold i64; decide
 refine ⟨by show (0:Nat)≤cF; decide,⟨by show (0:Nat)≤cF; decide,fun _ h=>by cases h⟩,⟨by show (0:Nat)≤cF; decide,fun _ h=>by cases h⟩,by show (0:Nat)≤cF; decide,(fun _ h=>by cases h),by show 1≤cF; decide,fun p hp=>?_⟩
 rw [List.mem_singleton.1 hp,Ps.wf_iff]
 exact ⟨hk,z,z,hl⟩
theorem wz {k:Int} (hk:i64 k) {l:List Sl} (S:kK 11 l) (hc:eK 11 l≤1000000):kK 12 [[⟨0,psC k l⟩]]:=by
 have z:i64 0:=by unfold i64; decide
 have hN:NB=1048576:=rfl
 refine ⟨zB (Bv hk S.wf),⟨by show 1≤NB; decide,fun s hs=>?_⟩,fun s hs p hp q hq=>?_,by decide,?_⟩
 ·rw [List.mem_singleton.1 hs]
  refine ⟨by show 1≤NB; decide,fun p hp=>?_⟩
  rw [List.mem_singleton.1 hp]
  refine ⟨⟨by show (0:Nat)≤reachBytes; decide,by show (0:Nat)≤reachBytes; decide,by show (0:Nat)≤reachBytes; decide,(fun _ h=>by cases h),by show 1≤reachBytes; decide⟩,by show 1≤NB; decide,fun q hq=>?_⟩
  rw [List.mem_singleton.1 hq]
  exact ⟨⟨z,z⟩,S.ok⟩
 ·rw [List.mem_singleton.1 hs] at hp
  rw [List.mem_singleton.1 hp] at hq
  rw [List.mem_singleton.1 hq]
  exact S.nest
 ·have e:eK 12 [[⟨0,psC k l⟩]]=1+(eK 11 l+0+0)+0:=rfl
  rw [e]
  omega
theorem uA {L:List Nd} {f:Nat} {c:Cp} (S:kK (f+1) [[⟨0,c⟩]]) (hm:lR (dj f) 8 c=true) {e:Nat} (he:e<L.length):cpB L (f+1) c (e:Int)=jp (AA L) L e c:=by
 unfold cpB xE jK
 have i1:(0:Int)≤(e:Int):=by omega
 have i2:(e:Int)<(L.length:Int):=by omega
 have hms:lQ (dj f) 8 [⟨0,c⟩]=lR (dj f) 8 c:=by simp [lQ,Pt.c]
 simp only [i1,i2,decide_true,Bool.and_self,Bool.true_and,Int.toNat_natCast,List.any_cons,List.any_nil,Bool.or_false,tV,hms,hm]
 rw [Hv S.nest S.hf]
 rfl
theorem sC {L:List Nd} (l:List Sl) (e:Nat):AA L l e=l.any fun s=>AA L [s] e:=by
 show oo (sO L 11) L l e=l.any fun s=>oo (sO L 11) L [s] e
 unfold oo
 simp only [List.any_cons,List.any_nil,Bool.or_false]
theorem JG {L:List Nd} (l:List Sl) (e:Nat):jp (AA L) L e (psC 8 l)=AA L l e:=by
 simp [jp,mD,ub,psC,gZ,Cp.tag,Cp.ids,Cp.classes,Cp.attrs,Cp.pseudos,Ps.kind,Ps.list]
theorem Jw {L:List Nd} (l:List Sl) (e:Nat):jp (AA L) L e (psC 7 l)=!AA L l e:=by
 simp [jp,mD,ub,psC,gZ,Cp.tag,Cp.ids,Cp.classes,Cp.attrs,Cp.pseudos,Ps.kind,Ps.list]
theorem sj {f:Nat} {k:Int} (hk:k=7∨k=8) (l:List Sl):lR (dj f) 8 (psC k l)=dj f l 7:=by
 unfold lR psC
 show (List.all [Ps.mk k 0 0 l] (mu (dj f) 8))=_
 simp only [List.all_cons,List.all_nil,Bool.and_true]
 unfold mu
 rw [if_pos (show (Ps.mk k 0 0 l).kind=7∨(Ps.mk k 0 0 l).kind=8 from hk)]
 rfl
theorem rN {L:List Nd} {l:List Sl} (h:dj 11 l 7=true) (e:Nat):jK L 11 l e=AA L l e:=by
 rw [sC]
 unfold jK
 rw [dj,List.all_eq_true] at h
 rw [Bool.eq_iff_iff,List.any_eq_true,List.any_eq_true]
 constructor
 ·rintro ⟨s,hs,h1⟩
  rw [Bool.and_eq_true] at h1
  exact ⟨s,hs,h1.2⟩
 ·rintro ⟨s,hs,h1⟩
  refine ⟨s,hs,?_⟩
  rw [Bool.and_eq_true]
  refine ⟨rG 11 (show 7≤8 by decide) ?_,h1⟩
  rw [tV]
  exact h s hs
theorem Gs.is_sl {sz:Nat} {H:Hp} {x:AV} {rows:List (List AV)} (h:Gs sz H x rows) (hr:rows≠[]):∃ id ex,x=.sl id 0 sz rows.length none∧id<H.n∧H.get id=some (.cells rows.flatten ex)∧∀ row ∈ rows,row.length=sz:=by
 cases h with
 | nil=>exact absurd rfl hr
 | sl hlt hg hsz=>exact ⟨_,_,rfl,hlt,hg,hsz⟩
theorem wv (l:List Sl):∀ r ∈ l.map aX,r.length=1:=fun r hr=>by
 obtain ⟨s,_,rfl⟩:=List.mem_map.1 hr
 rfl
theorem wD (l:List Sl):(l.map aX).flatten.all AV.one=true:=by
 rw [List.all_eq_true]
 intro x hx
 obtain ⟨r,hr,hx⟩:=List.mem_flatten.1 hx
 obtain ⟨s,_,rfl⟩:=List.mem_map.1 hr
 rw [List.mem_singleton.1 hx]
 rfl
theorem Cx {Hd:Hp} {k:Int} {x:AV} {l:List Sl} {id:Nat} (hx:Fz Hd x (sls l)) (hg:Hd.get id=some (.cells [I k,I 0,I 0,x] true)):FzL Hd [.lit (.string ⟨#[]⟩),.lit (.slice none 0 0),.lit (.slice none 0 0),.lit (.slice none 0 0),.sl id 0 4 1 (some 1)] (bG (psC k l)):=by
 rw [cD]
 refine .cons (.refl rfl) (.cons .nil (.cons .nil (.cons .nil (.cons ?_ .nil))))
 show Fz Hd _ (.imm 4 [bA (.mk k 0 0 l)])
 refine Fz.sl1 hg ?_ (fC _)
 rw [dF]
 exact .cons (.refl rfl) (.cons (.refl rfl) (.cons (.refl rfl) (.cons hx .nil)))
section
attribute [local irreducible] bc.L0
theorem yg {L:List Nd} {x5 x14 x16 x27 x31 x37 c8 c7:AV} {H:Hp} {P Q:Nat→Bool} {K:AV→Hp→Prop} (hl:L.length≤1000)
  (hx:∀ e:Nat,e<L.length→aE Tryz.prog σ cX [x5,I (e:Int),x14] H (Bo (P e)) H) (hy:∀ e:Nat,e<L.length→aE Tryz.prog σ cX [x5,I (e:Int),x16] H (Bo (Q e)) H)
  (hb:∀ e:Nat,e<L.length→aE Tryz.prog σ cX [x5,I (e:Int),x27] H (Bo (P e||Q e)) H)
  (l8:ldA true 5 H x31=some c8) (l7:ldA true 5 H x37=some c7)
  (h8:∀ e:Nat,e<L.length→aE Tryz.prog σ b_ [x5,I (e:Int),c8] H (Bo (P e||Q e)) H) (h7:∀ e:Nat,e<L.length→aE Tryz.prog σ b_ [x5,I (e:Int),c7] H (Bo (!(P e||Q e))) H)
  (hK:K (Bo true) H):∀ (f e:Nat),L.length - e=f→e≤L.length→bc.L0 σ K (nds L) x5 x14 x16 x27 x31 x37 (I (e:Int)) H:=by
 intro f
 induction f with
 | zero =>
  intro e hf he
  have:¬ ((e:Int)<(L.length:Int)):=by omega
  refine bc.L0_step ?_
  simp only [gY,aa,ca,this,decide_false,aj,Bool.false_eq_true,if_false]
  exact hK
 | succ f ih =>
  intro e hf he
  have hlt:(e:Int)<(L.length:Int):=by omega
  have hlt':e<L.length:=by omega
  refine bc.L0_step ?_
  simp only [gY,aa,ca,hlt,decide_true,aj,if_true]
  refine au (hx e hlt') (au (hy e hlt') (au (hb e hlt') ?_))
  have g8:=h8 e hlt'
  have g7:=h7 e hlt'
  have nx:=ih (e+1) (by omega) (by omega)
  have ew:wr .i64 ((e:Int)+1)=((e+1:Nat):Int):=ci (by omega)
  generalize P e=p at g8 g7 ⊢
  generalize Q e=q at g8 g7 ⊢
  cases p<;>cases q<;>simp only [Bool.or_true,Bool.or_false,Bool.true_or,Bool.false_or,Bool.not_true,Bool.not_false] at g8 g7 ⊢<;>simp only [aj,Bool.false_eq_true,if_true,if_false,sW,uJ,BEq.rfl,Bool.not_true,Bool.not_false,aa,l8]<;>refine au g8 ?_<;>simp only [aj,Bool.false_eq_true,if_true,if_false,sW,uJ,BEq.rfl,Bool.not_true,Bool.not_false,aa,l7]<;>refine au g7 ?_<;>simp only [aj,Bool.false_eq_true,if_true,if_false,sW,uJ,BEq.rfl,Bool.not_true,Bool.not_false,aa,cx,ew]<;>exact nx
theorem pH (hC:nr σ) {L:List Nd} (hW:∀ n ∈ L,lS n) {sa sb:ByteArray}:∃ Hf,aE Tryz.prog σ e8 [nds L,Sx sa,Sx sb] Hp.empty (Bo true) Hf:=by
 refine ⟨Hp.empty,bO (fun K hK=>bc.run ?_) (by simp [aU,bS]) rfl _⟩
 refine au (ES hC _) ?_
 rcases A4 (σ:=σ) L hW with hg | ⟨d,hT,hg⟩
 ·refine au (hg _) ?_
  simp only [nc,List.getElem?_cons_zero,List.getElem?_cons_succ,aa,eS,aj,Bool.not_true,Bool.not_false,Bool.false_eq_true,if_true,if_false,hY,eQ]
  split
  ·exact hK _
  ·split<;>exact hK _
 refine au (hg _) ?_
 simp only [nc,List.getElem?_cons_zero,List.getElem?_cons_succ,aa,eS,aj,Bool.not_true,Bool.not_false,Bool.false_eq_true,if_true,if_false,hY,eQ]
 split
 ·exact hK _
 rename_i hsa
 split
 ·exact hK _
 rename_i hsb
 have hsa:sa.data.size≤200:=by
  have:¬ (100:Int)<(sa.data.size:Int):=by simpa using hsa
  omega
 have hsb:sb.data.size≤200:=by
  have:¬ (100:Int)<(sb.data.size:Int):=by simpa using hsb
  omega
 obtain ⟨mx,hmx,hbx,hSx⟩:=vX (σ:=σ) sa hsa
 obtain ⟨my,hmy,hby,hSy⟩:=vX (σ:=σ) sb hsb
 refine au (hSx _) (au (hSy _) ?_)
 obtain ⟨muchx,hdx,hfx⟩:=vW (σ:=σ) mx hmx
 obtain ⟨muchy,hdy,hfy⟩:=vW (σ:=σ) my hmy
 refine au (hdx _) ?_
 rw [aj]
 cases hmu:muchx with
 | true=>exact hK _
 | false =>
 simp only [Bool.false_eq_true,if_false]
 refine au (hdy _) ?_
 rw [aj]
 cases hmu2:muchy with
 | true=>exact hK _
 | false =>
 simp only [Bool.false_eq_true,if_false,Fd,aa,bZ,aj,decide_eq_true_eq]
 split
 ·exact hK _
 rename_i hx0
 split
 ·exact hK _
 have M:=hT.mc hC
 have hl40:=hT.len
 have hN:NB=1048576:=rfl
 have hL:cF=9223372036854775807:=rfl
 obtain ⟨Sx',Xx⟩:=pI hmx (hfx hmu) (by omega)
 obtain ⟨Sy,Xy⟩:=pI hmy (hfy hmu2) (by omega)
 have hlx:mx.length≤cP (mx.map aX):=lj fun s _=>by rw [ru]; omega
 have hly:my.length≤cP (my.map aX):=lj fun s _=>by rw [ru]; omega
 have hmb:gd cF (mx++my):=⟨by rw [List.length_append]; omega,fun s hs=>by
  rcases List.mem_append.1 hs with h | h
  ·exact hmx.2 s h
  ·exact hmy.2 s h⟩
 have hfb:nN 11 (mx++my):=fun s hs=>by
  rcases List.mem_append.1 hs with h | h
  ·exact hfx hmu s h
  ·exact hfy hmu2 s h
 have bkA:∀ a b:List (List AV),cP (a++b)=cP a+cP b:=by
  intro a b
  induction a with
  | nil=>simp [cP]
  | cons x a ih=>simp only [List.cons_append,cP,ih]; omega
 have hbb:cP ((mx++my).map aX)≤600000:=by rw [List.map_append,bkA]; omega
 obtain ⟨Sb,Xb⟩:=pI hmb hfb (by omega)
 have hcb:eK 11 (mx++my)≤1000000:=by
  have:=(qF 11 _ hmb hfb (by omega)).2.2
  omega
 have src:∀ (H:Hp) (l:List Sl),gS H 1 (sls l)=some ((l.map aX).length,(l.map aX).flatten):=fun H l=>rR
 refine mO (rows:=[]) .nil rfl (src _ mx) (wv mx) (wD mx) (by rw [List.length_map]; simp; omega) (by rw [List.length_map]; simp; omega) fun x1 H1 g1 f1=>?_
 rw [List.nil_append] at g1
 dsimp only
 refine mO g1 rfl (src _ my) (wv my) (wD my) (by rw [List.length_map,List.length_map]; omega) (by rw [List.length_map,List.length_map]; omega) fun x2 H2 g2 f2=>?_
 dsimp only
 rw [← List.map_append] at g2
 obtain ⟨id,ex,rfl,hid,hgid,hsz⟩:=g2.is_sl (by
  intro h
  have:=congrArg List.length h
  rw [List.length_map,List.length_append] at this
  simp at this
  exact hx0 (by rw [this.1]; rfl))
 obtain ⟨x2,hx2⟩:∃ x,x=AV.sl id 0 1 ((mx++my).map aX).length none:=⟨_,rfl⟩
 have fz2:∀ Hd:Hp,Hd.get id=H2.get id→H2.n≤Hd.n→Fz Hd x2 (sls (mx++my)):=fun Hd h hn=>by
  refine (g2.keep (H':=Hd) (fun j hj=>?_) hn).fz (ba _ lO _) |> fun h=>hx2 ▸ h
  have:j=id:=by simp only [own] at hj; omega
  rw [this]; exact h
 have eb:∀ k:Int,aT [.lit (.int .i64 0),.lit (.int .i64 0),.lit (.int .i64 0),.lit (.slice none 0 0)] [(0,1,.lit (.int .i64 k)),(3,1,x2)]=some [I k,I 0,I 0,x2]:=fun k=>by rw [hx2]; rfl
 rw [← hx2]
 rw [eb,aa]
 have es:∀ (k:Int) (H:Hp),ar [.int .i64 0,.int .i64 0,.int .i64 0,.slice none 0 0] 4 1 H [(0,4,.agg [I k,I 0,I 0,x2])]=some (.sl H.n 0 4 1 (some 1),H.new (.cells [I k,I 0,I 0,x2] true)):=fun k H=>kr (x:=.agg [I k,I 0,I 0,x2]) rfl rfl
 rw [es,aa]
 dsimp only
 have ec:∀ n:Nat,aT [.lit (.string ⟨#[]⟩),.lit (.slice none 0 0),.lit (.slice none 0 0),.lit (.slice none 0 0),.lit (.slice none 0 0)] [(4,1,.sl n 0 4 1 (some 1))]=some [.lit (.string ⟨#[]⟩),.lit (.slice none 0 0),.lit (.slice none 0 0),.lit (.slice none 0 0),.sl n 0 4 1 (some 1)]:=fun n=>rfl
 rw [ec,aa,bl]
 have sg:∀ (H:Hp) (n:Nat) (cs:List AV),cs.length=5→cs.all AV.one=true→stA 5 (H.new (.cells [.lit (.string ⟨#[]⟩),.lit (.slice none 0 0),.lit (.slice none 0 0),.lit (.slice none 0 0),.lit (.slice none 0 0)] true)) (.ptr H.n 0) (.agg cs)=some ((H.new (.cells [.lit (.string ⟨#[]⟩),.lit (.slice none 0 0),.lit (.slice none 0 0),.lit (.slice none 0 0),.lit (.slice none 0 0)] true)).set H.n (some (.cells cs true))):=by
  intro H n cs h1 h2
  rw [fV,ay,if_pos rfl,if_pos h1,cw,if_pos ⟨by rw [h1]; show 0+5≤5; omega,h2⟩,aQ (by rw [h1]; rfl)]
 rw [sg _ 0 _ rfl rfl,aa,eb,aa,es,aa]
 dsimp only
 rw [ec,aa,bl,sg _ 0 _ rfl rfl,aa]
 simp only [Hp.n_new,Hp.n_set]
 obtain ⟨n,hn⟩:∃ n,n=H2.n:=⟨_,rfl⟩
 rw [← hn]
 have hid:id<n:=by omega
 obtain ⟨H9,h9⟩:∃ H9,H9=(((((((H2.new (.cells [I 8,I 0,I 0,x2] true)).new (.cells [.lit (.string ⟨#[]⟩),.lit (.slice none 0 0),.lit (.slice none 0 0),.lit (.slice none 0 0),.lit (.slice none 0 0)] true)).set (n+1) (some (.cells [.lit (.string ⟨#[]⟩),.lit (.slice none 0 0),.lit (.slice none 0 0),.lit (.slice none 0 0),.sl n 0 4 1 (some 1)] true))).new (.cells [I 7,I 0,I 0,x2] true)).new (.cells [.lit (.string ⟨#[]⟩),.lit (.slice none 0 0),.lit (.slice none 0 0),.lit (.slice none 0 0),.lit (.slice none 0 0)] true)).set (n+1+1+1) (some (.cells [.lit (.string ⟨#[]⟩),.lit (.slice none 0 0),.lit (.slice none 0 0),.lit (.slice none 0 0),.sl (n+1+1) 0 4 1 (some 1)] true)))):=⟨_,rfl⟩
 have n9:H9.n=n+4:=by rw [h9]; simp [← hn]
 have k0:H9.get id=H2.get id:=by
  rw [h9]
  simp only [ay,aw,Hp.n_new,Hp.n_set,← hn]
  rw [if_neg (by omega),if_neg (by omega),if_neg (by omega),if_neg (by omega),if_neg (by omega),if_neg (by omega)]
 have k1:H9.get n=some (.cells [I 8,I 0,I 0,x2] true):=by
  rw [h9]
  simp only [ay,aw,Hp.n_new,Hp.n_set,← hn]
  rw [if_neg (by omega),if_neg (by omega),if_neg (by omega),if_neg (by omega),if_neg (by omega),if_pos trivial]
 have k2:H9.get (n+1)=some (.cells [.lit (.string ⟨#[]⟩),.lit (.slice none 0 0),.lit (.slice none 0 0),.lit (.slice none 0 0),.sl n 0 4 1 (some 1)] true):=by
  rw [h9]
  simp only [ay,aw,Hp.n_new,Hp.n_set,← hn]
  rw [if_neg (by omega),if_neg (by omega),if_neg (by omega),if_pos trivial]
 have k3:H9.get (n+1+1)=some (.cells [I 7,I 0,I 0,x2] true):=by
  rw [h9]
  simp only [ay,aw,Hp.n_new,Hp.n_set,← hn]
  rw [if_neg (by omega),if_neg (by omega),if_pos trivial]
 have k4:H9.get (n+1+1+1)=some (.cells [.lit (.string ⟨#[]⟩),.lit (.slice none 0 0),.lit (.slice none 0 0),.lit (.slice none 0 0),.sl (n+1+1) 0 4 1 (some 1)] true):=by
  rw [h9]
  simp only [aw]
  rw [if_pos trivial]
 rw [← h9]
 clear h9
 have l8:∀ H:Hp,H.get (n+1)=H9.get (n+1)→ldA true 5 H (.ptr (n+1) 0)=some (.agg [.lit (.string ⟨#[]⟩),.lit (.slice none 0 0),.lit (.slice none 0 0),.lit (.slice none 0 0),.sl n 0 4 1 (some 1)]):=fun H h=>by
  rw [bq,h,k2]; rfl
 have l7:∀ H:Hp,H.get (n+1+1+1)=H9.get (n+1+1+1)→ldA true 5 H (.ptr (n+1+1+1) 0)=some (.agg [.lit (.string ⟨#[]⟩),.lit (.slice none 0 0),.lit (.slice none 0 0),.lit (.slice none 0 0),.sl (n+1+1) 0 4 1 (some 1)]):=fun H h=>by
  rw [bq,h,k4]; rfl
 rw [l8 _ rfl,aa]
 have ep:aT [.lit (.int .i64 0),.lit (.string ⟨#[]⟩),.lit (.slice none 0 0),.lit (.slice none 0 0),.lit (.slice none 0 0),.lit (.slice none 0 0)] [(1,5,.agg [.lit (.string ⟨#[]⟩),.lit (.slice none 0 0),.lit (.slice none 0 0),.lit (.slice none 0 0),.sl n 0 4 1 (some 1)])]=some [I 0,.lit (.string ⟨#[]⟩),.lit (.slice none 0 0),.lit (.slice none 0 0),.lit (.slice none 0 0),.sl n 0 4 1 (some 1)]:=rfl
 rw [ep,aa]
 have eq:ar [.int .i64 0,.string ⟨#[]⟩,.slice none 0 0,.slice none 0 0,.slice none 0 0,.slice none 0 0] 6 1 H9 [(0,6,.agg [I 0,.lit (.string ⟨#[]⟩),.lit (.slice none 0 0),.lit (.slice none 0 0),.lit (.slice none 0 0),.sl n 0 4 1 (some 1)])]=some (.sl H9.n 0 6 1 (some 1),H9.new (.cells [I 0,.lit (.string ⟨#[]⟩),.lit (.slice none 0 0),.lit (.slice none 0 0),.lit (.slice none 0 0),.sl n 0 4 1 (some 1)] true)):=kr (x:=.agg [I 0,.lit (.string ⟨#[]⟩),.lit (.slice none 0 0),.lit (.slice none 0 0),.lit (.slice none 0 0),.sl n 0 4 1 (some 1)]) rfl rfl
 rw [eq,aa]
 dsimp only
 have er:aT [.lit (.slice none 0 0)] [(0,1,.sl H9.n 0 6 1 (some 1))]=some [.sl H9.n 0 6 1 (some 1)]:=rfl
 rw [er,aa]
 obtain ⟨HA,hA⟩:∃ HA,HA=H9.new (.cells [I 0,.lit (.string ⟨#[]⟩),.lit (.slice none 0 0),.lit (.slice none 0 0),.lit (.slice none 0 0),.sl n 0 4 1 (some 1)] true):=⟨_,rfl⟩
 have a5:HA.get H9.n=some (.cells [I 0,.lit (.string ⟨#[]⟩),.lit (.slice none 0 0),.lit (.slice none 0 0),.lit (.slice none 0 0),.sl n 0 4 1 (some 1)] true):=by rw [hA,ay,if_pos rfl]
 have aN:∀ j,j<n+4→HA.get j=H9.get j:=fun j hj=>by rw [hA,ay,if_neg (by omega)]
 have nA:HA.n=n+5:=by rw [hA,Hp.n_new,n9]
 rw [← hA]
 have fA:Fz HA x2 (sls (mx++my)):=fz2 HA (by rw [aN id (by omega),k0]) (by omega)
 have f8:FzL HA [.lit (.string ⟨#[]⟩),.lit (.slice none 0 0),.lit (.slice none 0 0),.lit (.slice none 0 0),.sl n 0 4 1 (some 1)] (bG (psC 8 (mx++my))):=Cx fA (by rw [aN n (by omega),k1])
 have f7:FzL HA [.lit (.string ⟨#[]⟩),.lit (.slice none 0 0),.lit (.slice none 0 0),.lit (.slice none 0 0),.sl (n+1+1) 0 4 1 (some 1)] (bG (psC 7 (mx++my))):=Cx fA (by rw [aN (n+1+1) (by omega),k3])
 have i78:i64 7∧i64 8:=by unfold i64; decide
 have hw8:=Bv i78.2 Sb.wf
 have fs:Fz HA (.agg [.sl H9.n 0 6 1 (some 1)]) (.agg (aX [⟨0,psC 8 (mx++my)⟩])):=by
  refine .aggL (.cons ?_ .nil)
  show Fz HA _ (.imm 6 [bm ⟨0,psC 8 (mx++my)⟩])
  refine Fz.sl1 a5 ?_ (gg _)
  rw [dE]
  exact .cons (.refl rfl) f8
 have hnest:∀ p ∈ ([⟨0,psC 8 (mx++my)⟩]:Sl),∀ q ∈ p.c.pseudos,kj 11 q.list:=fun p hp q hq=>by
  rw [List.mem_singleton.1 hp] at hq
  rw [List.mem_singleton.1 hq]
  exact Sb.nest
 have hds:=JM (σ:=σ) 11 [⟨0,psC 8 (mx++my)⟩] 0 Hp.empty ((zB hw8).2 _ (List.mem_singleton.2 rfl)) hnest (by decide)
 refine au (hds.frzA (.cons fs (.cons (.refl rfl) .nil)) rfl) ?_
 have hms:lQ (dj 11) (8 - 0) [⟨0,psC 8 (mx++my)⟩]=dj 11 (mx++my) 7:=by
  rw [← sj (k:=8) (.inr rfl)]
  simp [lQ,Pt.c]
 rw [hms,aj]
 cases hmay:dj 11 (mx++my) 7 with
 | false=>simp only [Bool.not_false,if_true]; exact hK _
 | true =>
 simp only [Bool.not_true,Bool.false_eq_true,if_false]
 have hmayx:dj 11 mx 7=true:=by
  rw [dj,List.all_eq_true] at hmay ⊢
  exact fun s hs=>hmay s (List.mem_append.2 (.inl hs))
 have hmayy:dj 11 my 7=true:=by
  rw [dj,List.all_eq_true] at hmay ⊢
  exact fun s hs=>hmay s (List.mem_append.2 (.inr hs))
 have hAA:∀ e,AA L (mx++my) e=(AA L mx e||AA L my e):=fun e=>by
  rw [sC,sC mx,sC my,List.any_append]
 have inr:∀ {e:Nat},e<L.length→(decide (0≤(e:Int))&&decide ((e:Int)<(L.length:Int)))=true:=fun h=>by
  rw [Bool.and_eq_true,decide_eq_true_eq,decide_eq_true_eq]
  omega
 have dm:Fz HA (dL L d) (dL L d):=.refl (cb L d)
 have S8:=wz i78.2 Sb hcb
 have S7:=wz i78.1 Sb hcb
 refine yg (P:=fun e=>AA L mx e) (Q:=fun e=>AA L my e) (by omega) (fun e he=>?_) (fun e he=>?_) (fun e he=>?_) (l8 HA (aN _ (by omega))) (l7 HA (aN _ (by omega))) (fun e he=>?_) (fun e he=>?_) (hK _) _ 0 rfl (Nat.zero_le _)
 ·have:=pT M Sx' (e:Int) HA
  rwa [inr he,Bool.true_and,Int.toNat_natCast,rN hmayx] at this
 ·have:=pT M Sy (e:Int) HA
  rwa [inr he,Bool.true_and,Int.toNat_natCast,rN hmayy] at this
 ·have:=pT M Sb (e:Int) Hp.empty
  rw [inr he,Bool.true_and,Int.toNat_natCast,rN hmay,hAA] at this
  exact this.frzA (.cons dm (.cons (.refl rfl) (.cons fA .nil))) rfl
 ·have:=FU M S8 (e:Int) Hp.empty
  rw [uA S8 (by rw [sj (.inr rfl)]; exact hmay) he,JG,hAA] at this
  exact this.frzA (.cons dm (.cons (.refl rfl) (.cons (.aggL f8) .nil))) rfl
 ·have:=FU M S7 (e:Int) Hp.empty
  rw [uA S7 (by rw [sj (.inl rfl)]; exact hmay) he,Jw,hAA] at this
  exact this.frzA (.cons dm (.cons (.refl rfl) (.cons (.aggL f7) .nil))) rfl
end
theorem MatchNots_walk {H:Type} {enc:TypeId × Value→H} (W:World) (hsh:W.ShapedOpen Tryz.prog) {v0 v1 v2:Value} {r:Reach} {b0 base:Nat} {spare:Nat→Bool} {held:Bool} {d0 d1 d2:DataW H} {p0 p1 p2:List MemPlace}
  (e0:Value.okWide Tryz.prog W r b0 dk v0) (h0:DataW.Trod enc Tryz.prog W base spare held dk v0 d0 p0) (w0:∀ n ∈ d0.weights Tryz.prog dk,n≤reachBytes)
  (e1:Value.okWide Tryz.prog W r b0 cU v1) (h1:DataW.Trod enc Tryz.prog W base spare held cU v1 d1 p1) (w1:∀ n ∈ d1.weights Tryz.prog cU,n≤reachBytes)
  (e2:Value.okWide Tryz.prog W r b0 cU v2) (h2:DataW.Trod enc Tryz.prog W base spare held cU v2 d2 p2) (w2:∀ n ∈ d2.weights Tryz.prog cU,n≤reachBytes) :
  Calls Tryz.prog e8 #[v0,v1,v2] W fun e W'=>e=.returned (.bool true)∧Below W.heap.size W W':=by
 obtain ⟨x0,r0,s0⟩:=qJ (P:=Tryz.prog) (ti:=tiT.get) (S:=vV) (t:=dk) (σ:=DZ) sS ku (kg (by kernel_rfl)) e0 h0 w0
 obtain ⟨x1,r1,s1⟩:=qJ (P:=Tryz.prog) (ti:=tiT.get) (S:=vV) (t:=cU) (σ:=DZ) sS ku (kg (by kernel_rfl)) e1 h1 w1
 obtain ⟨x2,r2,s2⟩:=qJ (P:=Tryz.prog) (ti:=tiT.get) (S:=vV) (t:=cU) (σ:=DZ) sS ku (kg (by kernel_rfl)) e2 h2 w2
 obtain ⟨a,rfl,ha,_⟩:=DL s0
 obtain ⟨sa,rfl,_⟩:=F8 s1
 obtain ⟨sb,rfl,_⟩:=F8 s2
 obtain ⟨Hf,hg⟩:=pH (KY yH) ha
 exact uE (JO r0 r1 r2) hg (Dq W hsh yH)
end Go.Proofs.YthmaggcfghjmfaaGreat.Ev
