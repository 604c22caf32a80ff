/- The walks, part 6: the evaluator, the functions, the laws. Conditions: none. -/
import Derived.Shelf.LaysM
import Derived.Shelf.Strings.Search1
import Derived.Shelf.Strings.Search2
import Derived.Shelf.Strings.Search3
import Derived.Shelf.Strings.Shaped
import Derived.Shelf.Sort.Plain
import Derived.Shelf.Slices.CompactI
import Derived.Shelf.Slices.In.SortNone
import Derived.Shelf.Spec.SlicesGrow
import Derived.Test.YtaoegkmfgfefgaaGreatProg
import Derived.JoinedCond
import Derived.SizedLaws
import Derived.Test.YtaoegkmfgfefgaaGreatZ5
namespace Go.Proofs.YtaoegkmfgfefgaaGreat.Ev
open Go.Shelf Go.Proofs
def laysM144_ren:Ren :=
{
 f:=fun x =>
  match x with
  | 144=>171
  | 143=>175
  | 219=>178
  | 217=>179
  | 225=>180
  | 224=>181
  | 267=>182
  | 266=>183
  | 314=>184
  | n=>n,
 t:=fun x =>
  match x with
  | 9=>9
  | 4=>4
  | 3=>3
  | 5=>5
  | 46=>115
  | 146=>217
  | 51=>151
  | n=>n,
 g:=fun x =>
  match x with
  | 1=>0
  | n=>n }
theorem laysM144:LaysM.n144 Tryz.prog laysM144_ren :=
{ mixed:=by kernel_rfl,f143:=Eq.trans Tryz.func175 (congrArg some (Eq.refl (Body.n143 laysM144_ren))),
  f144:=Eq.trans Tryz.func171 (congrArg some (Eq.refl (Body.n144 laysM144_ren))),
  f217:=Eq.trans Tryz.func179 (congrArg some (Eq.refl (Body.n217 laysM144_ren))),
  f219:=Eq.trans Tryz.func178 (congrArg some (Eq.refl (Body.n219 laysM144_ren))),
  f224:=Eq.trans Tryz.func181 (congrArg some (Eq.refl (Body.n224 laysM144_ren))),
  f225:=Eq.trans Tryz.func180 (congrArg some (Eq.refl (Body.n225 laysM144_ren))),
  f266:=Eq.trans Tryz.func183 (congrArg some (Eq.refl (Body.n266 laysM144_ren))),
  f267:=Eq.trans Tryz.func182 (congrArg some (Eq.refl (Body.n267 laysM144_ren))),
  f314:=Eq.trans Tryz.func184 (congrArg some (Eq.refl (Body.n314 laysM144_ren))),t3:=Tryz.underlying3,
  a3:=Tryz.isAgg3,z3:=Tryz.sizeOf3,v3:=Tryz.zeroValue3,t4:=Tryz.underlying4,a4:=Tryz.isAgg4,
  z4:=Tryz.sizeOf4,v4:=Tryz.zeroValue4,t5:=Tryz.underlying5,a5:=Tryz.isAgg5,z5:=Tryz.sizeOf5,
  v5:=Tryz.zeroValue5,t9:=Tryz.underlying9,a9:=Tryz.isAgg9,z9:=Tryz.sizeOf9,v9:=Tryz.zeroValue9,
  t46:=Tryz.underlying115,a46:=Tryz.isAgg115,z46:=Tryz.sizeOf115,v46:=Tryz.zeroValue115,
  t51:=Tryz.underlying151,a51:=Tryz.isAgg151,z51:=Tryz.sizeOf151,v51:=Tryz.zeroValue151,
  t146:=Tryz.underlying217,a146:=Tryz.isAgg217,z146:=Tryz.sizeOf217,v146:=Tryz.zeroValue217,
  g1:=by kernel_rfl,i3:=by kernel_rfl,
  i4:=by kernel_rfl,i5:=by kernel_rfl,
  i9:=by kernel_rfl,
  i46:=by kernel_rfl,
  i51:=by kernel_rfl,
  i146:=by kernel_rfl,
  m1:=by kernel_rfl,
  s1_3:=fun w h=>Go.Proofs.cell_of_shapedOpen_int h (zero:=#[Go.Value.int Go.IntKind.i64 0]) (t:=3) (of_decide_eq_true (by kernel_rfl)) (by kernel_rfl) rfl (by kernel_rfl) (by kernel_rfl) Tryz.underlying3 }
def gMax:Nat:=laysM144_ren.g 1
theorem hasC {σ:Sig} (hg:σ.g=some gMax):HasC σ:=by
 intro s t H hs
 refine ⟨⟨_,Tryz.func171,by kernel_rfl,by kernel_rfl⟩,fun B w0 E w vs hσ hst hx=>?_⟩
 obtain ⟨_,m,hm⟩:=hst.glNow gMax (by rw [hσ]; exact hg)
 have hl:=hx.len
 obtain ⟨v0,v1,rfl⟩:∃ v0 v1,vs=#[v0,v1]:=by
  obtain ⟨l⟩:=vs
  match l,hl with
  | [a,b],_=>exact ⟨a,b,rfl⟩
 have r0:=hx.at_ 0 _ v0 rfl (by simp)
 have r1:=hx.at_ 1 _ v1 rfl (by simp)
 cases r0
 cases r1
 refine (Any.strings_Contains (ρ:=laysM144_ren) { laysM144 with } s t m w hs hm).mono fun e w' he=>?_
 obtain ⟨rfl,rfl⟩:=he
 exact ⟨E,_,rfl,.refl E,hst,.lit _⟩
theorem gMax_ok (W:World) (h:W.ShapedOpen Tryz.prog) {σ:Sig} (hg:σ.g=some gMax):∀ g,σ.g=some g→∃ m:Int,W.cell? ⟨g,0,none⟩=some (.int .i64 m):=by
 intro g hg'
 rw [hg] at hg'
 cases hg'
 exact laysM144.s1_3 W h
end Go.Proofs.YtaoegkmfgfefgaaGreat.Ev
namespace Go.Proofs.YtaoegkmfgfefgaaGreat.Ev
set_option linter.unusedVariables false
set_option linter.unusedSimpArgs false
variable {σ:Sig}
section
end
structure Rl8 (l:List RL):Prop where
 len:l.length≤60
 sels:∀ r ∈ l,r.sels.length≤8
 parts:∀ r ∈ l,∀ s ∈ r.sels,s.length<9000000000000000000
section
end
section
end
section
end
end Go.Proofs.YtaoegkmfgfefgaaGreat.Ev
namespace Go.Proofs.YtaoegkmfgfefgaaGreat.Ev
set_option linter.unusedVariables false
set_option linter.unusedSimpArgs false
variable {σ:Sig}
def encB (b:Bool):List AV:=[Bo b]
def bools (l:List Bool):AV:=.imm 1 (l.map encB)
@[simp] theorem noId_bools (l:List Bool):noId (bools l)=true:=by unfold bools; simp only [noId]; exact noIds_map _ (fun _=>rfl) l
@[simp] theorem len_bools (l:List Bool):lenSl (bools l)=some (.lit (.int .i64 l.length)):=by simp [bools]
section
end
section
end
end Go.Proofs.YtaoegkmfgfefgaaGreat.Ev
namespace Go.Proofs.YtaoegkmfgfefgaaGreat.Ev
set_option linter.unusedVariables false
set_option linter.unusedSimpArgs false
variable {σ:Sig}
def keyC (c:Cp):Int × ByteArray:=match c.ids with
 | x::_=>(1,x)
 | []=>match c.classes with
  | x::_=>(2,x)
  | []=>if c.tag=⟨#[]⟩ then (0,⟨#[]⟩) else (3,c.tag)
def encKey (k:Int × ByteArray):List AV:=[I k.1,Sx k.2]
theorem of_ok (c:Cp) (H:Hp):Good Tryz.prog σ n_bucket_of [.agg (encCp c)] H (.agg (encKey (keyC c))) H:=by
 refine good_by (fun K hK=>bucket_of.run ?_) (by simp [noIds,noId,noId_Cp]) rfl H
 simp only [boxK_agg,allocK_eq]
 obtain ⟨H4,hH4⟩:∃ H4,H4=(Hp.empty.new (.cells (encCp c) true)).new (.cells [I 0,.lit (.string ⟨#[]⟩)] true):=⟨_,rfl⟩
 have e0:(Hp.empty.new (.cells (encCp c) true)).n=1:=rfl
 have e1:Hp.empty.n=0:=rfl
 rw [← hH4,e0,e1]
 have g0:H4.get 0=some (.cells (encCp c) true):=by rw [hH4]; simp [Hp.empty]
 have g1:H4.get 1=some (.cells [I 0,.lit (.string ⟨#[]⟩)] true):=by rw [hH4]; simp [Hp.empty]
 clear hH4
 have l1:ldA false 1 H4 (.ptr 0 1)=some (strs c.ids):=by rw [ld_ptr,g0,ldO_cells,f_encCp1']
 have l2:ldA false 1 H4 (.ptr 0 2)=some (strs c.classes):=by rw [ld_ptr,g0,ldO_cells,f_encCp2]
 have l0:ldA false 1 H4 (.ptr 0 0)=some (Sx c.tag):=by rw [ld_ptr,g0,ldO_cells,List.drop_zero,f_encCp0]
 have fin:∀ (k:Int) (s:ByteArray),(k,s)=keyC c→bnd (stA 2 H4 (.ptr 1 0) (.agg [I k,Sx s])) fun H14=>bnd (ldA true 2 H14 (.ptr 1 0)) fun r=>K r H14:=by
  intro k s hk
  refine bnd_of (x:=H4.set 1 (some (.cells [I k,Sx s] true))) ?_ ?_
  ·rw [st_agg,g1]; rfl
  have l:ldA true 2 (H4.set 1 (some (.cells [I k,Sx s] true))) (.ptr 1 0)=some (.agg [I k,Sx s]):=by rw [ld_ptr,hp_get_set,if_pos rfl]; rfl
  rw [l,bnd_some]
  have:([I k,Sx s]:List AV)=encKey (keyC c):=by rw [← hk]; rfl
  rw [this]
  exact hK _
 have b2:∀ (k:Int) (s:ByteArray),bldR [I 0,.lit (.string ⟨#[]⟩)] [(0,1,I k),(1,1,Sx s)]=some [I k,Sx s]:=fun _ _=>rfl
 have b1:bldR [I 0,.lit (.string ⟨#[]⟩)] [(0,1,I 0)]=some [I 0,.lit (.string ⟨#[]⟩)]:=rfl
 simp only [sh_ptr,Nat.zero_add,bnd_some,l1,l2,l0,len_strs,b_gtr,ifB_lit]
 cases hi:c.ids with
 | cons x r =>
  have hlt:(0:Int)<((x::r).length:Int):=by simp
  have hx:ixaSl 1 (strs (x::r)) (I 0)=some (.ip [Sx x]):=rfl
  have lx:ldA false 1 H4 (.ip [Sx x])=some (Sx x):=rfl
  simp only [hlt,decide_true,if_true,hx,lx,bnd_some,b2]
  exact fin 1 x (by unfold keyC; rw [hi])
 | nil =>
  simp only [List.length_nil,Int.natCast_zero,Int.lt_irrefl,decide_false,Bool.false_eq_true,if_false]
  cases hc:c.classes with
  | cons x r =>
   have hlt:(0:Int)<((x::r).length:Int):=by simp
   have hx:ixaSl 1 (strs (x::r)) (I 0)=some (.ip [Sx x]):=rfl
   have lx:ldA false 1 H4 (.ip [Sx x])=some (Sx x):=rfl
   simp only [hlt,decide_true,if_true,hx,lx,bnd_some,b2]
   exact fin 2 x (by unfold keyC; rw [hi,hc])
  | nil =>
   simp only [List.length_nil,Int.natCast_zero,Int.lt_irrefl,decide_false,Bool.false_eq_true,if_false,b_sneq,bnd_some,ifB_lit]
   by_cases ht:c.tag=⟨#[]⟩
   ·simp only [ht,decide_true,Bool.not_true,Bool.false_eq_true,if_false,b1,bnd_some]
    exact fin 0 ⟨#[]⟩ (by unfold keyC; rw [hi,hc,if_pos ht])
   ·simp only [ht,decide_false,Bool.not_false,if_true,b2,bnd_some]
    exact fin 3 c.tag (by unfold keyC; rw [hi,hc,if_neg ht])
end Go.Proofs.YtaoegkmfgfefgaaGreat.Ev
namespace Go.Proofs.YtaoegkmfgfefgaaGreat.Ev
set_option linter.unusedVariables false
set_option linter.unusedSimpArgs false
variable {σ:Sig}
def cntS (l:List Sl):Nat:=(l.filter fun s=>decide (0<s.length)).length
def cntR:List RL→Nat
 | []=>0
 | r::l=>cntS r.sels+cntR l
section
end
end Go.Proofs.YtaoegkmfgfefgaaGreat.Ev
namespace Go.Proofs.YtaoegkmfgfefgaaGreat.Ev
set_option linter.unusedVariables false
set_option linter.unusedSimpArgs false
variable {σ:Sig}
def bktC (c:Cp) (n:Nd):Bool:=match c.ids with
 | x::_=>decide (n.id≠⟨#[]⟩)&&decide (x=n.id)
 | []=>match c.classes with
  | x::_=>hasB n.classes x
  | []=>if c.tag=⟨#[]⟩ then true else decide (c.tag=n.tag)
def bktB (s:Sl) (n:Nd):Bool:=match s[s.length - 1]? with
 | some p=>bktC p.c n
 | none=>false
end Go.Proofs.YtaoegkmfgfefgaaGreat.Ev
namespace Go.Proofs.YtaoegkmfgfefgaaGreat.Ev
set_option linter.unusedVariables false
set_option linter.unusedSimpArgs false
variable {σ:Sig}
def encZ1 (n:Int):List AV:=[I n]
def intz (l:List Int):AV:=.imm 1 (l.map encZ1)
@[simp] theorem noId_intz (l:List Int):noId (intz l)=true:=by unfold intz; simp only [noId]; exact noIds_map _ (fun _=>rfl) l
@[simp] theorem len_intz (l:List Int):lenSl (intz l)=some (.lit (.int .i64 l.length)):=by simp [intz]
section
end
end Go.Proofs.YtaoegkmfgfefgaaGreat.Ev
namespace Go.Proofs.YtaoegkmfgfefgaaGreat.Ev
set_option linter.unusedVariables false
set_option linter.unusedSimpArgs false
variable {σ:Sig}
def forR (n:Nd):Nat→List RL→List Int
 | _,[]=>[]
 | k,r::l=>if r.sels.any (fun s=>bktB s n) then (k:Int)::forR n (k+1) l else forR n (k+1) l
section
end
end Go.Proofs.YtaoegkmfgfefgaaGreat.Ev
namespace Go.Proofs.YtaoegkmfgfefgaaGreat.Ev
open Go.Shelf Go.Proofs
def laysSort_ren:Ren :=
{
 f:=fun x =>
  match x with
  | 189=>37
  | 125=>54
  | 257=>53
  | 128=>84
  | 129=>85
  | 294=>75
  | 295=>76
  | 296=>77
  | 297=>78
  | 298=>79
  | 299=>80
  | 216=>81
  | 300=>82
  | 301=>83
  | 328=>108
  | 329=>109
  | 330=>110
  | 331=>111
  | 332=>112
  | 215=>113
  | 343=>126
  | n=>n,
 t:=fun x =>
  match x with
  | 28=>32
  | 3=>3
  | 46=>115
  | 0=>0
  | 51=>151
  | 53=>153
  | 4=>4
  | 183=>144
  | 182=>143
  | 131=>63
  | 5=>5
  | 9=>9
  | 218=>171
  | 222=>175
  | 228=>189
  | 229=>169
  | n=>n,
 g:=fun x =>
  x }
theorem laysSort:Lays.n189 Tryz.prog laysSort_ren :=
{ mixed:=by kernel_rfl,f125:=Eq.trans Tryz.func54 (congrArg some (by kernel_rfl)),
  f128:=Eq.trans Tryz.func84 (congrArg some (by kernel_rfl)),
  f129:=Eq.trans Tryz.func85 (congrArg some (by kernel_rfl)),
  f189:=Eq.trans Tryz.func37 (congrArg some (by kernel_rfl)),
  f215:=Eq.trans Tryz.func113 (congrArg some (by kernel_rfl)),
  f216:=Eq.trans Tryz.func81 (congrArg some (by kernel_rfl)),
  f257:=Eq.trans Tryz.func53 (congrArg some (by kernel_rfl)),
  f294:=Eq.trans Tryz.func75 (congrArg some (by kernel_rfl)),
  f295:=Eq.trans Tryz.func76 (congrArg some (by kernel_rfl)),
  f296:=Eq.trans Tryz.func77 (congrArg some (by kernel_rfl)),
  f297:=Eq.trans Tryz.func78 (congrArg some (by kernel_rfl)),
  f298:=Eq.trans Tryz.func79 (congrArg some (by kernel_rfl)),
  f299:=Eq.trans Tryz.func80 (congrArg some (by kernel_rfl)),
  f300:=Eq.trans Tryz.func82 (congrArg some (by kernel_rfl)),
  f301:=Eq.trans Tryz.func83 (congrArg some (by kernel_rfl)),
  f328:=Eq.trans Tryz.func108 (congrArg some (by kernel_rfl)),
  f329:=Eq.trans Tryz.func109 (congrArg some (by kernel_rfl)),
  f330:=Eq.trans Tryz.func110 (congrArg some (by kernel_rfl)),
  f331:=Eq.trans Tryz.func111 (congrArg some (by kernel_rfl)),
  f332:=Eq.trans Tryz.func112 (congrArg some (by kernel_rfl)),
  f343:=Eq.trans Tryz.func126 (congrArg some (by kernel_rfl)),t0:=Tryz.underlying0,
  a0:=Tryz.isAgg0,z0:=Tryz.sizeOf0,v0:=Tryz.zeroValue0,t3:=Tryz.underlying3,a3:=Tryz.isAgg3,
  z3:=Tryz.sizeOf3,v3:=Tryz.zeroValue3,t4:=Tryz.underlying4,a4:=Tryz.isAgg4,z4:=Tryz.sizeOf4,
  v4:=Tryz.zeroValue4,t5:=Tryz.underlying5,a5:=Tryz.isAgg5,z5:=Tryz.sizeOf5,v5:=Tryz.zeroValue5,
  t9:=Tryz.underlying9,a9:=Tryz.isAgg9,z9:=Tryz.sizeOf9,v9:=Tryz.zeroValue9,t28:=Tryz.underlying32,
  a28:=Tryz.isAgg32,z28:=Tryz.sizeOf32,v28:=Tryz.zeroValue32,t46:=Tryz.underlying115,a46:=Tryz.isAgg115,
  z46:=Tryz.sizeOf115,v46:=Tryz.zeroValue115,t51:=Tryz.underlying151,a51:=Tryz.isAgg151,
  z51:=Tryz.sizeOf151,v51:=Tryz.zeroValue151,t53:=Tryz.underlying153,a53:=Tryz.isAgg153,
  z53:=Tryz.sizeOf153,v53:=Tryz.zeroValue153,t131:=Tryz.underlying63,a131:=Tryz.isAgg63,
  z131:=Tryz.sizeOf63,v131:=Tryz.zeroValue63,t182:=Tryz.underlying143,a182:=Tryz.isAgg143,
  z182:=Tryz.sizeOf143,v182:=Tryz.zeroValue143,t183:=Tryz.underlying144,a183:=Tryz.isAgg144,
  z183:=Tryz.sizeOf144,v183:=Tryz.zeroValue144,t218:=Tryz.underlying171,a218:=Tryz.isAgg171,
  z218:=Tryz.sizeOf171,v218:=Tryz.zeroValue171,t222:=Tryz.underlying175,a222:=Tryz.isAgg175,
  z222:=Tryz.sizeOf175,v222:=Tryz.zeroValue175,t228:=Tryz.underlying189,a228:=Tryz.isAgg189,
  z228:=Tryz.sizeOf189,v228:=Tryz.zeroValue189,t229:=Tryz.underlying169,a229:=Tryz.isAgg169,
  z229:=Tryz.sizeOf169,v229:=Tryz.zeroValue169 }
def laysCompact_ren:Ren :=
{
 f:=fun x =>
  match x with
  | 20=>38
  | n=>n,
 t:=fun x =>
  match x with
  | 22=>32
  | 3=>3
  | 4=>4
  | 0=>0
  | n=>n,
 g:=fun x =>
  x }
theorem laysCompact:Lays2.n20 Tryz.prog laysCompact_ren :=
{ mixed:=by kernel_rfl,f20:=Eq.trans Tryz.func38 (congrArg some (by kernel_rfl)),
  t0:=Tryz.underlying0,a0:=Tryz.isAgg0,z0:=Tryz.sizeOf0,v0:=Tryz.zeroValue0,t3:=Tryz.underlying3,
  a3:=Tryz.isAgg3,z3:=Tryz.sizeOf3,v3:=Tryz.zeroValue3,t4:=Tryz.underlying4,a4:=Tryz.isAgg4,
  z4:=Tryz.sizeOf4,v4:=Tryz.zeroValue4,t22:=Tryz.underlying32,a22:=Tryz.isAgg32,z22:=Tryz.sizeOf32,
  v22:=Tryz.zeroValue32,i3:=by kernel_rfl }
def laysGrow_ren:Ren :=
{
 f:=fun x =>
  match x with
  | 4=>52
  | n=>n,
 t:=fun x =>
  match x with
  | 22=>32
  | 25=>3
  | 3=>3
  | 4=>4
  | 9=>9
  | 20=>20
  | 0=>0
  | n=>n,
 g:=fun x =>
  x }
theorem laysGrow:Lays8.n4 Tryz.prog laysGrow_ren :=
{ mixed:=by kernel_rfl,
  f4 :=
    Exists.intro "slices.Grow[[]int,int]" ⟨of_decide_eq_true (id (Eq.refl true)), Eq.trans Tryz.func52 (congrArg some (by kernel_rfl))⟩,
  t0:=Tryz.underlying0,a0:=Tryz.isAgg0,z0:=Tryz.sizeOf0,v0:=Tryz.zeroValue0,t3:=Tryz.underlying3,
  a3:=Tryz.isAgg3,z3:=Tryz.sizeOf3,v3:=Tryz.zeroValue3,t4:=Tryz.underlying4,a4:=Tryz.isAgg4,
  z4:=Tryz.sizeOf4,v4:=Tryz.zeroValue4,t9:=Tryz.underlying9,a9:=Tryz.isAgg9,z9:=Tryz.sizeOf9,
  v9:=Tryz.zeroValue9,t20:=Tryz.underlying20,a20:=Tryz.isAgg20,z20:=Tryz.sizeOf20,v20:=Tryz.zeroValue20,
  t22:=Tryz.underlying32,a22:=Tryz.isAgg32,z22:=Tryz.sizeOf32,v22:=Tryz.zeroValue32 }
end Go.Proofs.YtaoegkmfgfefgaaGreat.Ev
namespace Go.Proofs.YtaoegkmfgfefgaaGreat.Ev
open Go.Shelf Go.Proofs Go.Sort
set_option linter.unusedVariables false
set_option linter.unusedSimpArgs false
variable {σ:Sig}
section
variable {B:Nat} {w0:Base} {E:Env} {H:Hp} {w:World}
theorem St.junk (h:St B w0 E H w) (os:Array Obj):St B w0 E H (Go.Sort.grow w os):=by
 have hold:∀ b,b<w.heap.size→(w.heap++os)[b]?=w.heap[b]?:=fun b hb=>Array.getElem?_append_left hb
 have hlt:∀ b x,E.ro b=some x→b<w.heap.size:=fun b x hx=>(Array.getElem?_eq_some_iff.1 (h.ro b x hx)).1
 refine ⟨h.below.trans ⟨rfl,rfl,rfl,by simp [Go.Sort.grow],fun b hb=>hold b (by have:=h.size; omega)⟩,by have:=h.size; simp [Go.Sort.grow]; omega,fun b x hx=>by show (w.heap++os)[b]?=_; rw [hold b (hlt b x hx)]; exact h.ro b x hx,h.dom,h.hdom,fun i k hk=>?_,h.disj,h.rob,fun b x hx=>?_,h.frl,h.sig,h.gl⟩
 ·obtain ⟨c,o,n,e,hc,hr,ok⟩:=h.live i k hk
  exact ⟨c,o,n,e,hc,hr,ok.heap (hold c ok.lt)⟩
 ·obtain ⟨h1,h2⟩:=h.fr b x hx
  exact ⟨by show (w.heap++os)[b]?=_; rw [hold b (Array.getElem?_eq_some_iff.1 h1).1]; exact h1,h2⟩
theorem rel_I {n:Int} {v:Value} (h:Rel E (I n) v):v=.int .i64 n:=by cases h; rfl
theorem St.holds (h:St B w0 E H w) {id b o n:Nat} {l:List Int} {ex:Bool} (hg:H.get id=some (.cells (l.map I) ex)) (hρ:E.ρ id=some (b,o,n)):Go.Sort.Holds (Value.int .i64) w b o l.toArray:=by
 intro j hj
 have hj':j<l.length:=by simpa using hj
 obtain ⟨v,hv,r⟩:=h.cell_live hg hρ (j:=j) (x:=I l[j]) (by simp [hj'])
 obtain ⟨b',o',n',e,_,_,c,ty,lo,hi,h1,h2,h3,_⟩:=h.live id _ hg
 rw [hρ] at e
 cases e
 refine ⟨?_,(h.frozen_live hg hρ (j:=j) (by simp at h3; omega)).1⟩
 rw [hv,rel_I r]
 simp [hj']
theorem St.putRow (h:St B w0 E H w) {id b o n:Nat} {l d:List Int} {ex:Bool} (hg:H.get id=some (.cells (l.map I) ex)) (hρ:E.ρ id=some (b,o,n)) (hd:d.length=l.length):St B w0 E (H.set id (some (.cells (d.map I) ex))) (Go.Sort.putRow (Value.int .i64) w b o d.toArray):=by
 obtain ⟨b',o',n',e,hb,hr,c,ty,lo,hi,h1,h2,h3,h4,h5,h6⟩:=h.live id _ hg
 rw [hρ] at e
 cases e
 have hlt:=(Array.getElem?_eq_some_iff.1 h1).1
 have hsz:(putCells (Value.int .i64) o d.toArray c).size=c.size:=by simp [putCells]
 refine h.write hg hρ (k':=.cells (d.map I) ex) (fun x hx=>?_) ?_ rfl rfl rfl ⟨putCells (Value.int .i64) o d.toArray c,ty,lo,hi,?_,by rw [hsz]; exact h2,by simp at h3 ⊢; omega,fun e=>by have:=h4 e; simp at this ⊢; omega,by rw [hsz]; exact h5,fun j x hj=>?_⟩
 ·simp only [Go.Sort.putRow,mapBlock,Array.getElem?_modify]
  rw [if_neg (Ne.symm hx)]
 ·simp [Go.Sort.putRow,mapBlock]
 ·simp only [Go.Sort.putRow,mapBlock,Array.getElem?_modify,if_true,h1,Option.map_some,onCells]
 ·have hjl:j<d.length:=by have:=(List.getElem?_eq_some_iff.1 hj).1; simpa using this
  simp only [List.length_map] at h3
  refine ⟨.int .i64 d[j],?_,?_⟩
  ·simp only [putCells,Array.getElem?_mapIdx]
   rw [Array.getElem?_eq_getElem (by omega)]
   simp [hjl]
  ·simp [hjl] at hj
   subst hj
   exact .lit _
end
def srt (l:List Int):List Int:=l.mergeSort fun x y=>decide (x≤y)
theorem sort_ok {l:List Int} {H:Hp} {id:Nat} {ex:Bool} (hg:H.get id=some (.cells (l.map I) ex)) (hl:l.length≤1000000):Good Tryz.prog σ n_slices_Sort_int_int [.sl id 0 1 l.length none] H (.tup []) (H.set id (some (.cells ((srt l).map I) ex))):=by
 refine ⟨⟨_,Tryz.func37,by kernel_rfl,by kernel_rfl⟩,fun B w0 E w vs hσ hst hx=>?_⟩
 have hlen:=hx.len
 obtain ⟨v0,rfl⟩:∃ v0,vs=#[v0]:=by
  obtain ⟨l⟩:=vs
  match l,hlen with
  | [a],_=>exact ⟨a,rfl⟩
 have r0:=hx.at_ 0 _ v0 rfl (by simp)
 cases r0 with
 | sl hρ hc hle hn =>
  rename_i b o n c
  have hb:b<w.heap.size:=by
   obtain ⟨b',o',n',e,_,_,ok⟩:=hst.live id _ hg
   rw [hρ] at e
   cases e
   exact ok.lt
  refine (Any.slices_Sort_int (ρ:=laysSort_ren) laysSort b o c l w (hst.holds hg hρ) hb (by omega)).mono fun e w' he=>?_
  obtain ⟨rfl,k,os,rfl⟩:=he
  refine ⟨E,_,rfl,.refl E,St.junk (St.putRow (h:=hst.drew (w.drawn+k)) hg hρ (d:=srt l) ?_) os,.tup rfl fun i x v hx=>by simp at hx⟩
  simp [srt]
theorem sort_nil (H:Hp):Good Tryz.prog σ n_slices_Sort_int_int [.lit (.slice none 0 0)] H (.tup []) H:=by
 refine ⟨⟨_,Tryz.func37,by kernel_rfl,by kernel_rfl⟩,fun B w0 E w vs hσ hst hx=>?_⟩
 have hlen:=hx.len
 obtain ⟨v0,rfl⟩:∃ v0,vs=#[v0]:=by
  obtain ⟨l⟩:=vs
  match l,hlen with
  | [a],_=>exact ⟨a,rfl⟩
 have r0:=hx.at_ 0 _ v0 rfl (by simp)
 cases r0
 refine (Any.slices_Sort_int_none (ρ:=laysSort_ren) laysSort none 0 w).mono fun e w' he=>?_
 obtain ⟨rfl,rfl⟩:=he
 exact ⟨E,_,rfl,.refl E,hst,.tup rfl fun i x v hx=>by simp at hx⟩
theorem compact_len (l:List Int):(Go.Lib.compact l).length≤l.length:=by
 unfold Go.Lib.compact
 have:∀ m,(Go.Lib.compactUpTo l.toArray m).length≤m:=by
  intro m
  induction m with
  | zero=>simp [Go.Lib.compactUpTo]
  | succ m ih =>
   rw [Go.Lib.compactUpTo_succ]
   split<;>simp<;>omega
 exact this _
theorem compact_ok {l:List Int} {H:Hp} {id:Nat} {ex:Bool} (hg:H.get id=some (.cells (l.map I) ex)) (hl:l.length≤1000000):Good Tryz.prog σ n_slices_Compact_int_int [.sl id 0 1 l.length none] H (.sl id 0 1 (Go.Lib.compact l).length none) (H.set id (some (.cells ((Go.Lib.compact l++List.replicate (l.length - (Go.Lib.compact l).length) 0).map I) ex))):=by
 refine ⟨⟨_,Tryz.func38,by kernel_rfl,by kernel_rfl⟩,fun B w0 E w vs hσ hst hx=>?_⟩
 have hlen:=hx.len
 obtain ⟨v0,rfl⟩:∃ v0,vs=#[v0]:=by
  obtain ⟨l⟩:=vs
  match l,hlen with
  | [a],_=>exact ⟨a,rfl⟩
 have r0:=hx.at_ 0 _ v0 rfl (by simp)
 have hcl:=compact_len l
 cases r0 with
 | sl hρ hc hle hn =>
  rename_i b o n c
  refine (Any.slices_Compact_int (ρ:=laysCompact_ren) laysCompact b o c l w (hst.holds hg hρ) (by omega) hle).mono fun e w' he=>?_
  obtain ⟨rfl,k,rfl⟩:=he
  exact ⟨E,_,rfl,.refl E,St.putRow (h:=hst.drew (w.drawn+k)) hg hρ (by simp; omega),.sl hρ (fun k hk=>by cases hk) (by omega) hn⟩
theorem compact_nil (H:Hp):Good Tryz.prog σ n_slices_Compact_int_int [.lit (.slice none 0 0)] H (.lit (.slice none 0 0)) H:=by
 refine ⟨⟨_,Tryz.func38,by kernel_rfl,by kernel_rfl⟩,fun B w0 E w vs hσ hst hx=>?_⟩
 have hlen:=hx.len
 obtain ⟨v0,rfl⟩:∃ v0,vs=#[v0]:=by
  obtain ⟨l⟩:=vs
  match l,hlen with
  | [a],_=>exact ⟨a,rfl⟩
 have r0:=hx.at_ 0 _ v0 rfl (by simp)
 cases r0
 refine (Any.slices_Compact_int_empty (ρ:=laysCompact_ren) laysCompact none 0 w).mono fun e w' he=>?_
 obtain ⟨rfl,rfl⟩:=he
 exact ⟨E,_,rfl,.refl E,hst,.lit _⟩
theorem zeroCells_at {z:Value} {n j:Nat} (hz:z.cells=#[.int .i64 0]) (hj:j<n):(Builtin.zeroCells z.cells n)[j]?=some (.int .i64 0):=by
 rw [hz]
 simp [Builtin.zeroCells,hj,Nat.mod_one]
theorem zeroCells_size {z:Value} {n:Nat} (hz:z.cells=#[.int .i64 0]):(Builtin.zeroCells z.cells n).size=n:=by
 rw [hz]
 simp [Builtin.zeroCells]
theorem grow_nil0 (H:Hp):Good Tryz.prog σ n_slices_Grow_int_int [.lit (.slice none 0 0),I 0] H (.lit (.slice none 0 0)) H:=by
 refine ⟨⟨_,Tryz.func52,by kernel_rfl,by kernel_rfl⟩,fun B w0 E w vs hσ hst hx=>?_⟩
 have hlen:=hx.len
 obtain ⟨v0,v1,rfl⟩:∃ v0 v1,vs=#[v0,v1]:=by
  obtain ⟨l⟩:=vs
  match l,hlen with
  | [a,b],_=>exact ⟨a,b,rfl⟩
 have r0:=hx.at_ 0 _ v0 rfl (by simp)
 have r1:=hx.at_ 1 _ v1 rfl (by simp)
 cases r0
 cases r1
 refine (Any8.slices_Grow_room (ρ:=laysGrow_ren) laysGrow none 0 0 0 w (by omega) (by omega) (by omega) (by omega)).mono fun e w' he=>?_
 obtain ⟨rfl,rfl⟩:=he
 exact ⟨E,_,rfl,.refl E,hst,.lit _⟩
theorem grow_nil (n:Nat) (h0:0<n) (h1:n≤1000000) (H:Hp):Good Tryz.prog σ n_slices_Grow_int_int [.lit (.slice none 0 0),I n] H (.sl H.n 0 1 0 none) (H.new (.cells ((List.replicate n (0:Int)).map I) false)):=by
 refine ⟨⟨_,Tryz.func52,by kernel_rfl,by kernel_rfl⟩,fun B w0 E w vs hσ hst hx=>?_⟩
 have hlen:=hx.len
 obtain ⟨v0,v1,rfl⟩:∃ v0 v1,vs=#[v0,v1]:=by
  obtain ⟨l⟩:=vs
  match l,hlen with
  | [a,b],_=>exact ⟨a,b,rfl⟩
 have r0:=hx.at_ 0 _ v0 rfl (by simp)
 have r1:=hx.at_ 1 _ v1 rfl (by simp)
 cases r0
 cases r1
 obtain ⟨t,ht,hd,hs⟩:=T_int_is
 obtain ⟨ht2⟩:=tiOf_ok (tiT_ok _ _ ht)
 have e1:=ht2.he
 have hsz:ht2.info.size=1:=by rw [e1] at hs; exact hs
 obtain ⟨bz,hbz⟩:∃ i,tiT.get T_int=some i∧i.bytes=8∧i.zero=[.int .i64 0]:=⟨_,(by kernel_rfl:tiT.get T_int=some ti3),by kernel_rfl,by kernel_rfl⟩
 have hbe:bz=t:=by rw [ht] at hbz; exact (Option.some.inj hbz.1).symm
 subst hbe
 have hb8:ht2.info.bytes=8:=by have:=hbz.2.1; rw [e1] at this; exact this
 have hzc:ht2.z.cells=#[.int .i64 0]:=by
  have:=hbz.2.2
  rw [e1] at this
  have h:ht2.z.cells.toList=[.int .i64 0]:=this
  rw [← Array.toArray_toList (xs:=ht2.z.cells),h]
 refine (Any8.slices_Grow_grow (ρ:=laysGrow_ren) laysGrow ht2.info ht2.z ht2.hi ht2.hz (by rw [hsz]; omega) none 0 0 n [] w (by omega) (by omega) (by rw [hb8]; omega) (by omega) (by simp) (fun _=>rfl) (fun a ha=>by cases ha)).mono fun e w' he=>?_
 obtain ⟨rfl,rfl⟩:=he
 obtain ⟨G,hG⟩:∃ G,G=grownCap w (0+n) 0 (laysGrow_ren.t 25):=⟨_,rfl⟩
 have hGn:0+n≤G:=by rw [hG]; exact grownCap_ge w _ _ _
 rw [← hG]
 have hcs:((([]:List Value).toArray++Builtin.zeroCells ht2.z.cells (0+n - 0)++Builtin.zeroCells ht2.z.cells (G - (0+n)))).size=G:=by
  simp only [Array.size_append,zeroCells_size hzc]
  simp; omega
 obtain ⟨E',g1,g2,g3⟩:=(hst.drew (w.drawn+1)).row (xs:=(List.replicate n (0:Int)).map I) (c:=(([]:List Value).toArray++Builtin.zeroCells ht2.z.cells (0+n - 0)++Builtin.zeroCells ht2.z.cells (G - (0+n)))) (ex:=false) (laysGrow_ren.t 25) 0 0 (.inl rfl) (by rw [hcs]; simp; omega) (fun h=>by cases h) (fun j x hj=>by
  have hjn:j<n:=by have:=(List.getElem?_eq_some_iff.1 hj).1; simpa using this
  refine ⟨.int .i64 0,?_,?_⟩
  ·rw [Array.getElem?_append_left (by simp only [Array.size_append,zeroCells_size hzc]; simp; omega),Array.getElem?_append_right (by simp)]
   simp only [List.size_toArray,List.length_nil,Nat.sub_zero]
   exact zeroCells_at hzc (by omega)
  ·simp [hjn] at hj
   subst hj
   exact .lit _)
 refine ⟨E',_,rfl,g1,g2,.sl g3 (fun k hk=>by cases hk) (Nat.zero_le _) ?_⟩
 rw [hcs]; omega
end Go.Proofs.YtaoegkmfgfefgaaGreat.Ev
namespace Go.Proofs.YtaoegkmfgfefgaaGreat.Ev
set_option linter.unusedVariables false
set_option linter.unusedSimpArgs false
variable {σ:Sig}
abbrev Key:=Int × ByteArray
def kyA (k:Key):AV:=.agg (encKey k)
theorem kyA_inj {a b:Key} (h:kyA a=kyA b):a=b:=by
 obtain ⟨a1,a2⟩:=a
 obtain ⟨b1,b2⟩:=b
 simp [kyA,encKey] at h
 simp [h]
def esA (es:List (Key × AV)):List (AV × AV):=es.map fun p=>(kyA p.1,p.2)
def fndE (k:Key):List (Key × AV)→Option AV
 | []=>none
 | p::r=>if p.1=k then some p.2 else fndE k r
def putE (k:Key) (v:AV):List (Key × AV)→List (Key × AV)
 | []=>[(k,v)]
 | p::r=>if p.1=k then (p.1,v)::r else p::putE k v r
theorem mfind_es (k:Key):∀ es:List (Key × AV),mfind (kyA k) (esA es)=fndE k es
 | []=>rfl
 | p::r=>by
  show mfind (kyA k) ((kyA p.1,p.2)::esA r)=_
  unfold mfind fndE
  by_cases h:p.1=k
  ·rw [if_pos (by rw [h]),if_pos h]
  ·rw [if_neg (fun e=>h (kyA_inj e)),if_neg h]
   exact mfind_es k r
theorem mput_es (k:Key) (v:AV):∀ es:List (Key × AV),mput (kyA k) v (esA es)=esA (putE k v es)
 | []=>rfl
 | p::r=>by
  show mput (kyA k) v ((kyA p.1,p.2)::esA r)=_
  unfold mput putE
  by_cases h:p.1=k
  ·rw [if_pos (by rw [h]),if_pos h]; rfl
  ·rw [if_neg (fun e=>h (kyA_inj e)),if_neg h,mput_es k v r]; rfl
theorem fndE_none {k:Key}:∀ {es:List (Key × AV)},fndE k es=none→∀ p ∈ es,p.1≠k
 | [],_,p,hp=>by cases hp
 | q::r,h,p,hp=>by
  unfold fndE at h
  split at h
  ·cases h
  ·rename_i hne
   rcases List.mem_cons.1 hp with rfl | hp
   ·exact hne
   ·exact fndE_none h p hp
theorem fndE_some {k:Key} {v:AV}:∀ {es:List (Key × AV)},fndE k es=some v→(k,v) ∈ es
 | [],h=>by cases h
 | q::r,h=>by
  unfold fndE at h
  split at h
  ·rename_i e
   cases h
   rw [← e]; simp
  ·exact List.mem_cons_of_mem _ (fndE_some h)
theorem putE_mem {k:Key} {v:AV}:∀ {es:List (Key × AV)},(es.map (·.1)).Nodup→∀ p,p ∈ putE k v es→p=(k,v)∨(p ∈ es∧p.1≠k)
 | [],_,p,hp=>by
  left; simpa [putE] using hp
 | q::r,hn,p,hp=>by
  have hn':=List.nodup_cons.1 (show (q.1::r.map (·.1)).Nodup from hn)
  unfold putE at hp
  split at hp
  ·rename_i e
   rcases List.mem_cons.1 hp with rfl | hp
   ·left; rw [e]
   ·right
    refine ⟨by simp [hp],fun e2=>hn'.1 ?_⟩
    rw [e,← e2]
    exact List.mem_map_of_mem hp
  ·rename_i e
   rcases List.mem_cons.1 hp with rfl | hp
   ·exact .inr ⟨by simp,e⟩
   ·rcases putE_mem hn'.2 p hp with h | h
    ·exact .inl h
    ·exact .inr ⟨by simp [h.1],h.2⟩
theorem putE_keys {k:Key} {v:AV}:∀ {es:List (Key × AV)} (q:Key),q ∈ (putE k v es).map (·.1) ↔ q=k∨q ∈ es.map (·.1)
 | [],q=>by simp [putE]
 | p::r,q=>by
  unfold putE
  split
  ·rename_i e
   simp [e]
  ·simp only [List.map_cons,List.mem_cons,putE_keys q]
   constructor
   ·rintro (h | h | h)
    ·exact .inr (.inl h)
    ·exact .inl h
    ·exact .inr (.inr h)
   ·rintro (h | h | h)
    ·exact .inr (.inl h)
    ·exact .inl h
    ·exact .inr (.inr h)
theorem putE_nodup {k:Key} {v:AV}:∀ {es:List (Key × AV)},(es.map (·.1)).Nodup→((putE k v es).map (·.1)).Nodup
 | [],_=>by simp [putE]
 | p::r,hn=>by
  have hn':=List.nodup_cons.1 (show (p.1::r.map (·.1)).Nodup from hn)
  unfold putE
  split
  ·exact hn
  ·rename_i e
   refine List.nodup_cons.2 ⟨fun hm=>?_,putE_nodup hn'.2⟩
   rcases (putE_keys p.1).1 hm with h | h
   ·exact e h
   ·exact hn'.1 h
theorem Gs.src {sz:Nat} {H:Hp} {x:AV} {rows:List (List AV)} (h:Gs sz H x rows):notStr x=true∧srcA H sz x=some (rows.length,rows.flatten):=by
 cases h with
 | nil=>exact ⟨rfl,rfl⟩
 | sl hlt hg hsz =>
  rename_i id ex
  have hl:=flatten_len hsz
  have ht:(rows.flatten.drop 0).take (rows.length*sz)=rows.flatten:=by rw [List.drop_zero,← hl]; exact List.take_length
  refine ⟨rfl,?_⟩
  simp only [srcA,hg,beqN,bleN,ht,hl]
  simp
theorem Gs.ownlt {sz:Nat} {H:Hp} {x:AV} {rows:List (List AV)} (h:Gs sz H x rows) {j:Nat} (ho:own x j):j<H.n:=by
 cases h with
 | nil=>exact ho.elim
 | sl hlt=>exact ho ▸ hlt
theorem z1_one (l:List Int):(l.map encZ1).flatten.all AV.one=true:=by
 induction l with
 | nil=>rfl
 | cons a l ih=>simp [encZ1,ih]
theorem z1_sz {l:List Int}:∀ row ∈ l.map encZ1,row.length=1:=by
 intro row hr
 obtain ⟨a,_,rfl⟩:=List.mem_map.1 hr
 rfl
structure Es (n0:Nat) (H:Hp) (b mid:Nat) (es:List (Key × AV)) (R:Key→List Int):Prop where
 hm:H.get mid=some (.map (esA es))
 nd:(es.map (·.1)).Nodup
 gs:∀ p ∈ es,Gs 1 H p.2 ((R p.1).map encZ1)
 ow:∀ p ∈ es,∀ j,own p.2 j→n0≤j∧j≠b∧j≠mid
 sep:∀ p ∈ es,∀ q ∈ es,p.1≠q.1→∀ j,own p.2 j→¬ own q.2 j
 no:∀ k,k ∉ es.map (·.1)→R k=[]
structure Bk (n0:Nat) (H:Hp) (b:Nat) (R:Key→List Int) (cnt:Nat):Prop where
 b0:n0≤b
 blt:b<H.n
 ok:∀ j,H.n≤j→H.get j=none
 m:(H.get b=some (.cells [.lit (.map none),I cnt] true)∧∀ k,R k=[])∨∃ mid es,H.get b=some (.cells [.mp mid,I cnt] true)∧n0≤mid∧mid≠b∧mid<H.n∧Es n0 H b mid es R
structure Up (n0:Nat) (H H':Hp):Prop where
 n:H.n≤H'.n
 g:∀ j,j<n0→H'.get j=H.get j
theorem Up.refl {n0:Nat} {H:Hp}:Up n0 H H:=⟨Nat.le_refl _,fun _ _=>rfl⟩
theorem Up.trans {n0:Nat} {H H1 H2:Hp} (h:Up n0 H H1) (h':Up n0 H1 H2):Up n0 H H2:=⟨Nat.le_trans h.n h'.n,fun j hj=>(h'.g j hj).trans (h.g j hj)⟩
theorem Up.le {n0 n1:Nat} {H H':Hp} (h:Up n1 H H') (hle:n0≤n1):Up n0 H H':=⟨h.n,fun j hj=>h.g j (by omega)⟩
theorem kOk_key (k:Key):kOk true [.int .i64,.string] (kyA k)=true:=rfl
theorem esA_ok (es:List (Key × AV)):(esA es).all (fun p=>kOk true [.int .i64,.string] p.1)=true:=by
 rw [List.all_eq_true]
 intro p hp
 obtain ⟨q,_,rfl⟩:=List.mem_map.1 hp
 rfl
theorem Es.look {n0:Nat} {H:Hp} {b mid:Nat} {es:List (Key × AV)} {R:Key→List Int} (h:Es n0 H b mid es R) (k:Key) :
  ∃ x,lookR (.lit (.slice none 0 0)) true [.int .i64,.string] false H (.mp mid) (kyA k)=some x∧Gs 1 H x ((R k).map encZ1)∧((x=.lit (.slice none 0 0)∧fndE k es=none)∨(k,x) ∈ es):=by
 unfold lookR
 simp only [h.hm,kOk_key,esA_ok,Bool.and_self,cond_true,mres,mfind_es]
 cases hf:fndE k es with
 | none =>
  refine ⟨_,rfl,?_,.inl ⟨rfl,rfl⟩⟩
  rw [h.no k (fun hm=>by
   obtain ⟨p,hp,e⟩:=List.mem_map.1 hm
   exact fndE_none hf p hp e)]
  exact .nil
 | some v=>exact ⟨v,rfl,h.gs _ (fndE_some hf),.inr (fndE_some hf)⟩
theorem Bk.look {n0:Nat} {H:Hp} {b:Nat} {R:Key→List Int} {cnt:Nat} (h:Bk n0 H b R cnt):∃ m,H.get b=some (.cells [m,I cnt] true)∧∀ k,∃ x,lookR (.lit (.slice none 0 0)) true [.int .i64,.string] false H m (kyA k)=some x∧Gs 1 H x ((R k).map encZ1):=by
 rcases h.m with ⟨hb,hR⟩ | ⟨mid,es,hb,_,_,_,he⟩
 ·refine ⟨_,hb,fun k=>⟨.lit (.slice none 0 0),rfl,?_⟩⟩
  rw [hR k]; exact .nil
 ·exact ⟨_,hb,fun k=>by obtain ⟨x,h1,h2,_⟩:=he.look k; exact ⟨x,h1,h2⟩⟩
theorem Es.mono {n0:Nat} {H H':Hp} {b mid:Nat} {es:List (Key × AV)} {R:Key→List Int} (h:Es n0 H b mid es R) (hmid:mid<H.n) (u:Up H.n H H'):Es n0 H' b mid es R :=
 ⟨by rw [u.g _ hmid]; exact h.hm,h.nd,fun p hp=>(h.gs p hp).keep (fun j hj=>u.g j ((h.gs p hp).ownlt hj)) u.n,h.ow,h.sep,h.no⟩
theorem Bk.mono {n0:Nat} {H H':Hp} {b:Nat} {R:Key→List Int} {cnt:Nat} (h:Bk n0 H b R cnt) (u:Up H.n H H') (ok:∀ j,H'.n≤j→H'.get j=none):Bk n0 H' b R cnt:=by
 refine ⟨h.b0,by have:=h.blt; have:=u.n; omega,ok,?_⟩
 rcases h.m with ⟨hb,hR⟩ | ⟨mid,es,hb,h1,h2,h3,he⟩
 ·exact .inl ⟨by rw [u.g _ h.blt]; exact hb,hR⟩
 ·exact .inr ⟨mid,es,by rw [u.g _ h.blt]; exact hb,h1,h2,by have:=u.n; omega,he.mono h3 u⟩
def updR (R:Key→List Int) (k:Key) (v:Int):Key→List Int:=fun q=>if q=k then R k++[v] else R q
theorem new_ok {H:Hp} (ok:∀ j,H.n≤j→H.get j=none) (b:Blk):∀ j,(H.new b).n≤j→(H.new b).get j=none:=by
 intro j hj
 simp only [hp_get_new,Hp.n_new] at hj ⊢
 rw [if_neg (by omega)]
 exact ok j (by omega)
theorem set_ok {H:Hp} {i:Nat} (ok:∀ j,H.n≤j→H.get j=none) (hi:i<H.n) (b:Option Blk):∀ j,(H.set i b).n≤j→(H.set i b).get j=none:=by
 intro j hj
 simp only [hp_get_set,Hp.n_set] at hj ⊢
 rw [if_neg (by omega)]
 exact ok j hj
theorem app_ok {sz bytes:Nat} {H H':Hp} {x y x':AV} {rows rows2:List (List AV)} (ok:∀ j,H.n≤j→H.get j=none) (hx:Gs sz H x rows) (hns:notStr y=true) (hs:srcA H sz y=some (rows2.length,rows2.flatten)) (hone:rows2.flatten.all AV.one=true)
  (hb:(rows.length+rows2.length)*bytes≤140737488355328) (hn:rows.length+rows2.length≤4611686018427387904) (h:appR false sz bytes H x y=some (x',H')):∀ j,H'.n≤j→H'.get j=none:=by
 have hn':∀ (id:Nat) (b:Blk) j,((H.set id none).new b).n≤j→((H.set id none).new b).get j=none:=by
  intro id b j hj
  simp only [hp_get_new,Hp.n_new,hp_get_set,Hp.n_set] at hj ⊢
  rw [if_neg (by omega)]
  split
  ·rfl
  ·exact ok j (by omega)
 unfold appR at h
 simp only [hns,cond_true,hs,hone,beqN,bleN] at h
 by_cases h0:rows2.length=0
 ·have:rows2=[]:=List.length_eq_zero_iff.1 h0
  subst this
  cases hx<;>simp at h<;>rw [← h.2]<;>exact ok
 ·simp only [h0,decide_false,cond_false] at h
  cases hx with
  | nil =>
   simp only [List.length_nil,Nat.zero_add] at hb hn
   simp [hb,hn] at h
   rw [← h.2]
   exact new_ok ok _
  | sl hlt hg hsz =>
   have hl:=flatten_len hsz
   simp only [hg] at h
   simp [hb,hn,hl] at h
   rw [← h.2]
   exact hn' _ _
end Go.Proofs.YtaoegkmfgfefgaaGreat.Ev
namespace Go.Proofs.YtaoegkmfgfefgaaGreat.Ev
set_option linter.unusedVariables false
set_option linter.unusedSimpArgs false
variable {σ:Sig}
section
attribute [local irreducible] bucket_lists_bucket_key_int_put.J0
theorem put_J0 {n0:Nat} {H:Hp} {b mid bx cnt:Nat} {es:List (Key × AV)} {R:Key→List Int} {k:Key} {v:Int} {K:AV→Hp→Prop} (h:Es n0 H b mid es R) (hl:(R k).length≤1000000) (hb:H.get b=some (.cells [.mp mid,I cnt] true)) (b0:n0≤b) (m0:n0≤mid) (hmb:mid≠b) (blt:b<H.n) (mlt:mid<H.n)
  (ok:∀ j,H.n≤j→H.get j=none) (hx:H.get bx=some (.cells (encKey k) true)) (xlt:bx<H.n) (xb:bx≠b) (xm:bx≠mid) (xo:∀ p ∈ es,¬ own p.2 bx)
  (hK:∀ H',Bk n0 H' b (updR R k v) cnt→Up n0 H H'→K (.tup []) H'):bucket_lists_bucket_key_int_put.J0 σ K (.ptr b 0) (I v) (.ptr bx 0) H:=by
 refine bucket_lists_bucket_key_int_put.J0_step ?_
 have l0:ldA false 1 H (.ptr b 0)=some (.mp mid):=by rw [ld_ptr,hb]; rfl
 have lx:ldA true 2 H (.ptr bx 0)=some (kyA k):=by rw [ld_ptr,hx]; rfl
 obtain ⟨x,hlook,hgs,hxe⟩:=h.look k
 have hbld:bldSlR [.int .i64 0] 1 1 H [(0,1,I v)]=some (.sl H.n 0 1 1 (some 1),H.new (.cells [I v] true)):=rfl
 have e1:bx≠H.n:=by omega
 have e2:b≠H.n:=by omega
 have e3:mid≠H.n:=by omega
 have gx1:(H.new (.cells [I v] true)).get bx=H.get bx:=by simp [e1]
 have gb1:(H.new (.cells [I v] true)).get b=H.get b:=by simp [e2]
 have gm1:(H.new (.cells [I v] true)).get mid=H.get mid:=by simp [e3]
 have hgs1:Gs 1 (H.new (.cells [I v] true)) x ((R k).map encZ1):=by
  refine hgs.keep (fun j hj=>?_) (by simp)
  have:=hgs.ownlt hj
  have:j≠H.n:=by omega
  simp [this]
 have hsrc:srcA (H.new (.cells [I v] true)) 1 (.sl H.n 0 1 1 (some 1))=some (([encZ1 v]:List (List AV)).length,([encZ1 v]:List (List AV)).flatten):=src_sl1 (cap:=some 1) (row:=encZ1 v) (ex:=true) (by simp [encZ1]) rfl
 obtain ⟨x',H2,happ,hgs2,hfr⟩:=app_gs (bytes:=8) hgs1 (y:=.sl H.n 0 1 1 (some 1)) rfl hsrc (fun row hr=>by rw [List.mem_singleton.1 hr]; rfl) rfl (by rw [List.length_map]; simp; omega) (by rw [List.length_map]; simp; omega)
 have xown:∀ j,own x j→j<H.n∧n0≤j∧j≠b∧j≠mid∧j≠bx:=by
  intro j hj
  rcases hxe with ⟨rfl,_⟩ | hm
  ·exact hj.elim
  ·have:=h.ow _ hm j hj
   exact ⟨hgs.ownlt hj,this.1,this.2.1,this.2.2,fun e=>xo _ hm (e ▸ hj)⟩
 have n1:(H.new (.cells [I v] true)).n=H.n+1:=rfl
 have same:∀ j,j<H.n→¬ own x j→H2.get j=H.get j:=by
  intro j hj hne
  rw [hfr.same j (by rw [n1]; omega) hne]
  have:j≠H.n:=by omega
  simp [this]
 have sx:H2.get bx=H.get bx:=same bx xlt fun ho=>(xown bx ho).2.2.2.2 rfl
 have sb:H2.get b=H.get b:=same b blt fun ho=>(xown b ho).2.2.1 rfl
 have sm:H2.get mid=H.get mid:=same mid mlt fun ho=>(xown mid ho).2.2.2.1 rfl
 have hup:=hfr.grow
 rw [n1] at hup
 have own':∀ j,own x' j→own x j∨H.n≤j∧j<H2.n:=by
  intro j hj
  rcases hfr.mine j hj with h | h
  ·exact .inl h
  ·rw [n1] at h; exact .inr ⟨by omega,h.2⟩
 have hput:putR true [.int .i64,.string] H2 (.mp mid) (kyA k) x'=some (H2.set mid (some (.map (esA (putE k x' es))))):=by
  unfold putR
  have ha:x'.isAny=false:=hgs2.cells.2
  simp only [sm,h.hm,kOk_key,esA_ok,ha,Bool.not_false,Bool.and_self,cond_true,mput_es]
 simp only [n_ptr,bnd_some,sh_ptr,Nat.zero_add,l0,lx,hlook,hbld,kp_ptr,kp_ptrN,gx1,gb1,happ,sx,sb,hput,true_and]
 refine ⟨gm1,hK _ ?_ ?_⟩
 ·have ok2:∀ j,H2.n≤j→H2.get j=none:=by
   intro j hj
   have hgt:j≠H.n:=by omega
   by_cases ho:own x j
   ·have:=(xown j ho).1; omega
   ·-- beyond what is made there is nothing
    exact app_ok (new_ok ok _) hgs1 rfl hsrc rfl (by rw [List.length_map]; simp; omega) (by rw [List.length_map]; simp; omega) happ j hj
  refine ⟨b0,by simp; omega,set_ok ok2 (by omega) _,.inr ⟨mid,putE k x' es,?_,m0,hmb,by simp; omega,?_⟩⟩
  ·simp [Ne.symm hmb,sb,hb]
  ·refine ⟨by simp,putE_nodup h.nd,fun p hp=>?_,fun p hp j hj=>?_,fun p hp q hq hne j hj hj2=>?_,fun q hq=>?_⟩
   ·rcases putE_mem h.nd p hp with rfl | ⟨hm,hne⟩
    ·have:updR R k v k=R k++[v]:=by simp [updR]
     show Gs 1 _ x' ((updR R k v k).map encZ1)
     rw [this,List.map_append]
     refine hgs2.keep (fun j hj=>?_) (by simp)
     have:j≠mid:=by
      rcases own' j hj with h | h
      ·exact (xown j h).2.2.2.1
      ·omega
     simp [this]
    ·have:updR R k v p.1=R p.1:=by simp [updR,hne]
     rw [this]
     refine (h.gs p hm).keep (fun j hj=>?_) (by simp; omega)
     have hjm:=(h.ow p hm j hj).2.2
     have hjn:=(h.gs p hm).ownlt hj
     have hjx:¬ own x j:=by
      rcases hxe with ⟨rfl,_⟩ | hxm
      ·exact fun h=>h
      ·exact h.sep p hm _ hxm hne j hj
     simp [hjm,same j hjn hjx]
   ·rcases putE_mem h.nd p hp with rfl | ⟨hm,hne⟩
    ·rcases own' j hj with h | h
     ·exact ⟨(xown j h).2.1,(xown j h).2.2.1,(xown j h).2.2.2.1⟩
     ·exact ⟨by omega,by omega,by omega⟩
    ·exact h.ow p hm j hj
   ·have key:∀ (p:Key × AV),p ∈ es→p.1≠k→∀ j,own p.2 j→¬ own x' j:=by
     intro p hm hne j hj hj2
     rcases own' j hj2 with h2 | h2
     ·rcases hxe with ⟨rfl,_⟩ | hxm
      ·exact h2
      ·exact h.sep p hm _ hxm hne j hj h2
     ·have:=(h.gs p hm).ownlt hj; omega
    rcases putE_mem h.nd p hp with rfl | ⟨hm,hnk⟩
    ·rcases putE_mem h.nd q hq with rfl | ⟨hm2,hnk2⟩
     ·exact hne rfl
     ·exact key q hm2 hnk2 j hj2 hj
    ·rcases putE_mem h.nd q hq with rfl | ⟨hm2,hnk2⟩
     ·exact key p hm hnk j hj hj2
     ·exact h.sep p hm q hm2 hne j hj hj2
   ·have hq':¬ (q=k∨q ∈ es.map (·.1)):=fun h=>hq ((putE_keys q).2 h)
    have h1:q≠k:=fun e=>hq' (.inl e)
    simp only [updR,h1,if_false]
    exact h.no q fun e=>hq' (.inr e)
 ·refine ⟨by simp; omega,fun j hj=>?_⟩
  have:j≠mid:=by omega
  rw [hp_get_set,if_neg this]
  exact same j (by omega) fun ho=>by have:=(xown j ho).2.1; omega
theorem bput_sp {n0:Nat} {H:Hp} {b cnt:Nat} {R:Key→List Int} {k:Key} {v:Int} {K:AV→Hp→Prop} (h:Bk n0 H b R cnt) (hl:(R k).length≤1000000)
  (hK:∀ H',Bk n0 H' b (updR R k v) cnt→Up n0 H H'→K (.tup []) H'):callK Tryz.prog σ n_bucket_lists_bucket_key_int_put [.ptr b 0,kyA k,I v] H K:=by
 refine bucket_lists_bucket_key_int_put.run ?_
 have blt:=h.blt
 have b0:=h.b0
 have e2:b≠H.n:=by omega
 simp only [kyA,boxK_agg,n_ptr,bnd_some,sh_ptr,Nat.zero_add]
 rcases h.m with ⟨hb,hR⟩ | ⟨mid,es,hb,m0,hmb,mlt,he⟩
 ·have l0:ldA false 1 (H.new (.cells (encKey k) true)) (.ptr b 0)=some (.lit (.map none)):=by
   rw [ld_ptr,hp_get_new,if_neg e2,hb]; rfl
  have em:eqMpR .eql (.lit (.map none)) (.lit (.map none))=some (Bo true):=rfl
  have st:stA 1 ((H.new (.cells (encKey k) true)).new (.map [])) (.ptr b 0) (.mp (H.new (.cells (encKey k) true)).n)=some (((H.new (.cells (encKey k) true)).new (.map [])).set b (some (.cells [.mp (H.n+1),I cnt] true))):=by
   have e3:b≠H.n+1:=by omega
   rw [st_ptr 1 _ _ _ _ rfl rfl]
   simp [e2,e3,hb,AV.cells]
   rfl
  simp only [l0,em,bnd_some,ifB_lit,if_true,st]
  obtain ⟨H9,hH9⟩:∃ H9,H9=((H.new (.cells (encKey k) true)).new (.map [])).set b (some (.cells [.mp (H.n+1),I cnt] true)):=⟨_,rfl⟩
  rw [← hH9]
  have n9:H9.n=H.n+2:=by rw [hH9]; rfl
  have g9:∀ j,H9.get j=if j=b then some (.cells [.mp (H.n+1),I cnt] true) else if j=H.n+1 then some (.map []) else if j=H.n then some (.cells (encKey k) true) else H.get j:=by
   intro j; rw [hH9]; simp
  clear hH9
  refine put_J0 (es:=[]) (mid:=H.n+1) (bx:=H.n) (R:=R) (k:=k) (v:=v) ⟨by rw [g9,if_neg (by omega),if_pos rfl]; rfl,by simp,(fun p hp=>by cases hp),(fun p hp=>by cases hp),(fun p hp=>by cases hp),fun q _=>hR q⟩ hl (by rw [g9,if_pos rfl]) b0 (by omega) (by omega) (by omega) (by omega) (fun j hj=>?_) (by rw [g9,if_neg (by omega),if_neg (by omega),if_pos rfl]) (by omega) (by omega) (by omega) (fun p hp=>by cases hp) fun H' h' u=>hK H' h' ⟨by have:=u.n; omega,fun j hj=>?_⟩
  ·rw [g9,if_neg (by omega),if_neg (by omega),if_neg (by omega)]
   exact h.ok j (by omega)
  ·rw [u.g j hj,g9,if_neg (by omega),if_neg (by omega),if_neg (by omega)]
 ·have l0:ldA false 1 (H.new (.cells (encKey k) true)) (.ptr b 0)=some (.mp mid):=by
   rw [ld_ptr,hp_get_new,if_neg e2,hb]; rfl
  have em:eqMpR .eql (.mp mid) (.lit (.map none))=some (Bo false):=rfl
  simp only [l0,em,bnd_some,ifB_lit,Bool.false_eq_true,if_false]
  have u1:Up H.n H (H.new (.cells (encKey k) true)):=by
   refine ⟨by simp,fun j hj=>?_⟩
   have:j≠H.n:=by omega
   simp [this]
  refine put_J0 (he.mono mlt u1) hl (by rw [u1.g _ blt]; exact hb) b0 m0 hmb (by simp; omega) (by simp; omega) (new_ok h.ok _) (bx:=H.n) (by simp) (by simp) (by omega) (by omega) (fun p hp ho=>by have:=(he.gs p hp).ownlt ho; omega) fun H' h' u=>hK H' h' ((u1.le (by omega)).trans u)
end
end Go.Proofs.YtaoegkmfgfefgaaGreat.Ev
namespace Go.Proofs.YtaoegkmfgfefgaaGreat.Ev
set_option linter.unusedVariables false
set_option linter.unusedSimpArgs false
variable {σ:Sig}
def lastKey (s:Sl):Option Key:=(s[s.length - 1]?).map fun p=>keyC p.c
def rwS (k:Key) (i:Nat):List Sl→List Int
 | []=>[]
 | s::r=>if lastKey s=some k then (i:Int)::rwS k i r else rwS k i r
def rwR (k:Key):Nat→List RL→List Int
 | _,[]=>[]
 | i,r::l=>rwS k i r.sels++rwR k (i+1) l
theorem cntS_cons (s:Sl) (r:List Sl):cntS (s::r)=(if 0<s.length then 1 else 0)+cntS r:=by
 unfold cntS
 by_cases h:0<s.length
 ·simp [h]; omega
 ·simp [h]
theorem lastKey_nil {s:Sl} (h:¬ 0<s.length):lastKey s=none:=by
 have:s=[]:=List.length_eq_zero_iff.1 (by omega)
 subst this; rfl
section
attribute [local irreducible] bucket_New.L0 bucket_New.L1 bucket_New.J2
theorem BNew_sp (l:List RL) (hl:Rl8 l) {H:Hp} (ok:∀ j,H.n≤j→H.get j=none) {K:AV→Hp→Prop} (hK:∀ H' b,Bk H.n H' b (fun k=>rwR k 0 l) (cntR l)→Up H.n H H'→K (.ptr b 0) H'):callK Tryz.prog σ n_bucket_New [rls l] H K:=by
 have hlen:=hl.len
 refine bucket_New.run ?_
 have hb0:bldR [.lit (.map none),I 0] []=some [.lit (.map none),I 0]:=rfl
 simp only [hb0,bnd_some,boxK_agg,len_rls]
 obtain ⟨b,hb⟩:∃ b,b=H.n:=⟨_,rfl⟩
 obtain ⟨n0,hn0⟩:∃ n0,n0=H.n:=⟨_,rfl⟩
 have L0:∀ (f i:Nat) (H1:Hp) (R:Key→List Int) (cnt:Nat) (y4 y19 y20 y21:AV),l.length - i=f→i≤l.length→Bk n0 H1 b R cnt→Up n0 H H1→(∀ k,R k++rwR k i (l.drop i)=rwR k 0 l)→cnt+cntR (l.drop i)=cntR l→(∀ k,(R k).length≤cnt)→cnt≤8*i →
   bucket_New.L0 σ K (.ptr b 0) y4 (rls l) (I l.length) (I (i:Int)) y19 y20 y21 H1:=by
  intro f
  induction f with
  | zero =>
   intro i H1 R cnt y4 y19 y20 y21 hf hi hB hU hR hc hrl hcl
   have:i=l.length:=by omega
   subst this
   refine bucket_New.L0_step ?_
   simp only [b_lss,bnd_some,Int.lt_irrefl,decide_false,ifB_lit,Bool.false_eq_true,if_false]
   rw [List.drop_length] at hR hc
   have e1:R=fun k=>rwR k 0 l:=by
    funext k
    have:=hR k
    simpa [rwR] using this
   have e2:cnt=cntR l:=by simpa [cntR] using hc
   rw [e1,e2,hn0] at hB
   rw [hn0] at hU
   exact hK H1 b hB hU
  | succ f ih =>
   intro i H1 R cnt y4 y19 y20 y21 hf hi hB hU hR hc hrl hcl
   have hlt:i<l.length:=by omega
   have hlt':(i:Int)<l.length:=by omega
   obtain ⟨r,hr⟩:=get_lt hlt
   have hrm:=List.mem_of_getElem? hr
   have h8:=hl.sels r hrm
   rw [drop_get hr] at hR hc
   have hix:ixaSl 2 (rls l) (I (i:Int))=some (.ip (encRL r)):=ix_map hr
   have lr:∀ H:Hp,ldA true 2 H (.ip (encRL r))=some (.agg (encRL r)):=fun _=>rfl
   refine bucket_New.L0_step ?_
   simp only [b_lss,bnd_some,hlt',decide_true,ifB_lit,if_true,hix,lr,allocK_eq]
   obtain ⟨H2,hH2⟩:∃ H2,H2=(H1.new (.cells [.lit (.slice none 0 0),.lit (.slice none 0 0)] true)).set H1.n (some (.cells (encRL r) true)):=⟨_,rfl⟩
   have st:stA 2 (H1.new (.cells [.lit (.slice none 0 0),.lit (.slice none 0 0)] true)) (.ptr H1.n 0) (.agg (encRL r))=some H2:=by
    rw [st_agg,hH2]; simp [encRL]; exact ⟨rfl,rfl⟩
   have g2:H2.get H1.n=some (.cells (encRL r) true):=by rw [hH2]; simp
   have u2:Up H1.n H1 H2:=by
    rw [hH2]
    refine ⟨by simp,fun j hj=>?_⟩
    have:j≠H1.n:=by omega
    simp [this]
   have ok2:∀ j,H2.n≤j→H2.get j=none:=by
    rw [hH2]
    exact set_ok (new_ok hB.ok _) (by simp) _
   clear hH2
   have l2:ldA false 1 H2 (.ptr H1.n 0)=some (sls r.sels):=by rw [ld_ptr,g2]; rfl
   simp only [st,bnd_some,sh_ptr,Nat.zero_add,l2,len_sls]
   have L1:∀ (g m:Nat) (H1:Hp) (R:Key→List Int) (cnt:Nat),r.sels.length - m=g→m≤r.sels.length→Bk n0 H1 b R cnt→Up n0 H H1→(∀ k,R k++(rwS k i (r.sels.drop m)++rwR k (i+1) (l.drop (i+1)))=rwR k 0 l)→cnt+(cntS (r.sels.drop m)+cntR (l.drop (i+1)))=cntR l→(∀ k,(R k).length≤cnt)→cnt≤8*i+m →
     bucket_New.L1 σ K (.ptr b 0) (I (i:Int)) (rls l) (I l.length) (I (i:Int)) (sls r.sels) (I r.sels.length) (I (m:Int)) H1:=by
    intro g
    induction g with
    | zero =>
     intro m H1 R cnt hf hm hB hU hR hc hrl hcl
     have:m=r.sels.length:=by omega
     subst this
     refine bucket_New.L1_step ?_
     simp only [b_lss,bnd_some,Int.lt_irrefl,decide_false,ifB_lit,Bool.false_eq_true,if_false,b_add,wr_succ (show i<9000000000000000000 by omega)]
     rw [List.drop_length] at hR hc
     refine ih (i+1) H1 R cnt _ _ _ _ (by omega) (by omega) hB hU (fun k=>by have:=hR k; simpa [rwS] using this) (by simpa [cntS] using hc) hrl (by omega)
    | succ g ihg =>
     intro m H1 R cnt hf hm hB hU hR hc hrl hcl
     have hml:m<r.sels.length:=by omega
     have hml':(m:Int)<r.sels.length:=by omega
     obtain ⟨s,hs⟩:=get_lt hml
     have hsm:=List.mem_of_getElem? hs
     have hsl:=hl.parts r hrm s hsm
     rw [drop_get hs,cntS_cons] at hc
     have his:ixaSl 1 (sls r.sels) (I (m:Int))=some (.ip (encSl s)):=ix_map hs
     refine bucket_New.L1_step ?_
     simp only [b_lss,bnd_some,hml',decide_true,ifB_lit,if_true,his,ld_ip,ldL_sl,allocK_eq]
     obtain ⟨H2,hH2⟩:∃ H2,H2=(H1.new (.cells [.lit (.slice none 0 0)] true)).set H1.n (some (.cells (encSl s) true)):=⟨_,rfl⟩
     have st:stA 1 (H1.new (.cells [.lit (.slice none 0 0)] true)) (.ptr H1.n 0) (.agg (encSl s))=some H2:=by
      rw [st_agg,hH2]; simp [encSl]
     have g2:H2.get H1.n=some (.cells (encSl s) true):=by rw [hH2]; simp
     have u2:Up H1.n H1 H2:=by
      rw [hH2]
      refine ⟨by simp,fun j hj=>?_⟩
      have:j≠H1.n:=by omega
      simp [this]
     have ok2:∀ j,H2.n≤j→H2.get j=none:=by
      rw [hH2]
      exact set_ok (new_ok hB.ok _) (by simp) _
     clear hH2
     have hB2:=hB.mono u2 ok2
     have hU2:Up n0 H H2:=hU.trans (u2.le (by have:=hB.b0; have:=hB.blt; omega))
     have l2:ldA false 1 H2 (.ptr H1.n 0)=some (.imm 6 (s.map encPt)):=by rw [ld_ptr,g2]; rfl
     have J2:∀ (H3:Hp) (R':Key→List Int) (cnt':Nat),Bk n0 H3 b R' cnt'→Up n0 H H3→(∀ k,R' k++(rwS k i (r.sels.drop (m+1))++rwR k (i+1) (l.drop (i+1)))=rwR k 0 l)→cnt'+(cntS (r.sels.drop (m+1))+cntR (l.drop (i+1)))=cntR l→(∀ k,(R' k).length≤cnt')→cnt'≤8*i+(m+1) →
       bucket_New.J2 σ K (.ptr b 0) (I (i:Int)) (rls l) (I l.length) (I (i:Int)) (sls r.sels) (I r.sels.length) (I (m:Int)) H3:=by
      intro H3 R' cnt' h1 h2 h3 h4 h5 h6
      refine bucket_New.J2_step ?_
      simp only [b_add,bnd_some,wr_succ (show m<9000000000000000000 by omega)]
      exact ihg (m+1) H3 R' cnt' (by omega) (by omega) h1 h2 h3 h4 h5 h6
     simp only [st,bnd_some,sh_ptr,Nat.zero_add,l2,len_imm,List.length_map,b_gtr]
     by_cases hpos:0<s.length
     ·have hpos':(0:Int)<s.length:=by omega
      obtain ⟨p,hp⟩:=get_lt (show s.length - 1<s.length by omega)
      have hw:wr .i64 ((s.length:Int) - 1)=((s.length - 1:Nat):Int):=by rw [wr64 (by omega) (by omega)]; omega
      have hip:ixaSl 6 (.imm 6 (s.map encPt)) (I ((s.length - 1:Nat):Int))=some (.ip (encPt p)):=ix_map hp
      have lp:∀ H:Hp,ldA true 5 H (.ip ((encPt p).drop 1))=some (.agg (encCp p.c)):=fun H=>by rw [encPt_eq,ld_ip]; exact ldL_cp _
      have hkey:lastKey s=some (keyC p.c):=by simp [lastKey,hp]
      simp only [hpos',decide_true,ifB_lit,if_true,n_ptr,bnd_some,sh_ptr,b_sub,hw,hip,sh_ip,lp]
      refine callK_of (of_ok p.c _) ?_
      refine bput_sp hB2 (by have:=hrl (keyC p.c); omega) fun H4 h4 u4=>?_
      obtain ⟨mm,hbm,_⟩:=h4.look
      have l4:ldA false 1 H4 (.ptr b (0+1))=some (I cnt):=by rw [ld_ptr,hbm]; rfl
      have w4:wr .i64 ((cnt:Int)+1)=((cnt+1:Nat):Int):=wr_succ (by omega)
      have s4:stA 1 H4 (.ptr b (0+1)) (I ((cnt+1:Nat):Int))=some (H4.set b (some (.cells [mm,I ((cnt+1:Nat):Int)] true))):=by
       rw [st_int,hbm]; simp
      simp only [n_ptr,bnd_some,sh_ptr,l4,b_add,w4,s4]
      refine J2 _ (updR R (keyC p.c) (i:Int)) (cnt+1) ?_ ?_ ?_ (by rw [if_pos hpos] at hc; omega) (fun k=>?_) (by omega)
      ·-- the number stands beside the map
       have blt:=h4.blt
       refine ⟨h4.b0,by simpa using blt,set_ok h4.ok blt _,?_⟩
       rcases h4.m with ⟨h5,h6⟩ | ⟨mid,es,h5,h6,h7,h8,h9⟩
       ·rw [hbm] at h5
        cases h5
        exact .inl ⟨by simp,h6⟩
       ·rw [hbm] at h5
        cases h5
        refine .inr ⟨mid,es,by simp,h6,h7,by simpa using h8,?_⟩
        refine ⟨by simp [h7]; exact h9.hm,h9.nd,fun q hq=>(h9.gs q hq).keep (fun j hj=>?_) (by simp),h9.ow,h9.sep,h9.no⟩
        have:=(h9.ow q hq j hj).2.1
        simp [this]
      ·refine (hU2.trans u4).trans ⟨by simp,fun j hj=>?_⟩
       have:j≠b:=by have:=h4.b0; omega
       simp [this]
      ·intro k
       have:=hR k
       rw [drop_get hs,rwS] at this
       by_cases hk:k=keyC p.c
       ·subst hk
        rw [if_pos hkey] at this
        rw [← this]
        simp [updR]
       ·rw [if_neg (fun e=>hk (by rw [hkey] at e; cases e; rfl))] at this
        simp only [updR,hk,if_false]
        exact this
      ·unfold updR
       split
       ·rename_i e
        subst e
        have:=hrl (keyC p.c)
        simp; omega
       ·have:=hrl k; omega
     ·have hpos':¬ (0:Int)<s.length:=by omega
      simp only [hpos',decide_false,ifB_lit,Bool.false_eq_true,if_false]
      refine J2 H2 R cnt hB2 hU2 (fun k=>?_) (by rw [if_neg hpos] at hc; omega) hrl (by omega)
      have:=hR k
      rw [drop_get hs,rwS,if_neg (by rw [lastKey_nil hpos]; simp)] at this
      exact this
   exact L1 _ 0 H2 R cnt rfl (Nat.zero_le _) (hB.mono u2 ok2) (hU.trans (u2.le (by have:=hB.b0; have:=hB.blt; omega))) (fun k=>by rw [List.drop_zero]; have:=hR k; simpa [rwR] using this) (by rw [List.drop_zero]; simpa [cntR] using hc) hrl (by omega)
 have u0:Up n0 H (H.new (.cells [.lit (.map none),I 0] true)):=by
  refine ⟨by simp,fun j hj=>?_⟩
  have:j≠H.n:=by omega
  simp [this]
 have B0:Bk n0 (H.new (.cells [.lit (.map none),I 0] true)) b (fun _=>[]) 0 :=
  ⟨by omega,by simp; omega,new_ok ok _,.inl ⟨by rw [hb]; simp,fun _=>rfl⟩⟩
 have:=L0 _ 0 _ (fun _=>[]) 0 (.lit undef) (.lit undef) (.lit undef) (.lit undef) rfl (Nat.zero_le _) B0 u0 (fun k=>by simp) (by simp) (fun k=>by simp) (Nat.zero_le _)
 rw [hb] at this
 exact this
end
end Go.Proofs.YtaoegkmfgfefgaaGreat.Ev
namespace Go.Proofs.YtaoegkmfgfefgaaGreat.Ev
set_option linter.unusedVariables false
set_option linter.unusedSimpArgs false
variable {σ:Sig}
theorem wrNt {n:Nat} (h:n<9000000000000000000):wr .i64 (n:Int)=(n:Int):=wr64 (by omega) (by omega)
theorem app_made {bytes:Nat} {H:Hp} {id:Nat} {cs:List AV} {ex:Bool} {y:AV} {rows:List (List AV)} (ok:∀ j,H.n≤j→H.get j=none) (hid:id<H.n) (hg:H.get id=some (.cells cs ex)) (hns:notStr y=true) (hs:srcA H 1 y=some (rows.length,rows.flatten)) (h2:∀ row ∈ rows,row.length=1) (hone:rows.flatten.all AV.one=true)
  (hb:rows.length*bytes≤140737488355328) (hn:rows.length≤4611686018427387904) (h0:rows.length≠0) :
  ∃ x' H',appR false 1 bytes H (.sl id 0 1 0 none) y=some (x',H')∧Gs 1 H' x' rows∧H.n≤H'.n∧(∀ j,j<H.n→j≠id→H'.get j=H.get j)∧(∀ j,own x' j→H.n≤j)∧∀ j,H'.n≤j→H'.get j=none:=by
 unfold appR
 simp only [hns,cond_true,hs,hone,beqN,bleN,h0,decide_false,cond_false,hg]
 refine ⟨.sl H.n 0 1 rows.length none,(H.set id none).new (.cells rows.flatten false),by simp [hb,hn],.sl (ex:=false) (by simp) (by simp) h2,by simp,fun j hj hne=>?_,fun j hj=>by simp only [own] at hj; omega,fun j hj=>?_⟩
 ·have:j≠H.n:=by omega
  simp [this,hne]
 ·simp only [hp_get_new,Hp.n_new,hp_get_set,Hp.n_set] at hj ⊢
  rw [if_neg (by omega)]
  split
  ·rfl
  ·exact ok j (by omega)
section
attribute [local irreducible] slices_Concat_int_int.L0 slices_Concat_int_int.J1 slices_Concat_int_int.L2
theorem Concat_sp {H:Hp} {id:Nat} {x y:AV} {a c:List Int} {ex:Bool} {K:AV→Hp→Prop} (ok:∀ j,H.n≤j→H.get j=none) (hid:id<H.n) (hg:H.get id=some (.cells [x,y] ex)) (hx:Gs 1 H x (a.map encZ1)) (hy:Gs 1 H y (c.map encZ1)) (ha:a.length≤100000) (hc:c.length≤100000)
  (hK:∀ H' r,Gs 1 H' r ((a++c).map encZ1)→Up H.n H H'→(∀ j,H'.n≤j→H'.get j=none)→(∀ j,own r j→H.n≤j)→K r H'):callK Tryz.prog σ n_slices_Concat_int_int [.sl id 0 1 2 (some 2)] H K:=by
 refine slices_Concat_int_int.run ?_
 have lx:=hx.len
 have ly:=hy.len
 rw [List.length_map] at lx ly
 have i0:ixaSl 1 (.sl id 0 1 2 (some 2)) (I 0)=some (.ptr id 0):=by rw [ix_sl (by omega) (by omega)]; rfl
 have i1:ixaSl 1 (.sl id 0 1 2 (some 2)) (I 1)=some (.ptr id 1):=by rw [ix_sl (by omega) (by omega)]; rfl
 have l0:∀ H1:Hp,H1.get id=H.get id→ldA false 1 H1 (.ptr id 0)=some x:=fun H1 h=>by rw [ld_ptr,h,hg]; rfl
 have l1:∀ H1:Hp,H1.get id=H.get id→ldA false 1 H1 (.ptr id 1)=some y:=fun H1 h=>by rw [ld_ptr,h,hg]; rfl
 have d0:decide ((0:Int)<(2:Nat))=true:=rfl
 have d1:decide ((1:Int)<(2:Nat))=true:=rfl
 have d2:decide ((2:Int)<(2:Nat))=false:=rfl
 have w1:wr .i64 ((0:Int)+1)=1:=rfl
 have w2:wr .i64 ((1:Int)+1)=2:=rfl
 have s1:wr .i64 ((0:Int)+a.length)=(a.length:Int):=by rw [Int.zero_add]; exact wrNt (by omega)
 have s2:wr .i64 ((a.length:Int)+c.length)=((a.length+c.length:Nat):Int):=by rw [← Int.natCast_add]; exact wrNt (by omega)
 have n1:¬ (a.length:Int)<0:=by omega
 have n2:¬ ((a.length+c.length:Nat):Int)<0:=by omega
 simp only [len_sl,bnd_some]
 refine slices_Concat_int_int.L0_step ?_
 simp only [b_lss,bnd_some,d0,ifB_lit,if_true,i0,l0 H rfl,lx,b_add,s1,n1,decide_false,Bool.false_eq_true,if_false]
 refine slices_Concat_int_int.J1_step ?_
 simp only [b_add,bnd_some,w1]
 refine slices_Concat_int_int.L0_step ?_
 simp only [b_lss,bnd_some,d1,ifB_lit,if_true,i1,l1 H rfl,ly,b_add,s2,n2,decide_false,Bool.false_eq_true,if_false]
 refine slices_Concat_int_int.J1_step ?_
 simp only [b_add,bnd_some,w2]
 refine slices_Concat_int_int.L0_step ?_
 simp only [b_lss,bnd_some,d2,ifB_lit,Bool.false_eq_true,if_false]
 have fin:∀ (H1:Hp) (r:AV) (y3 y9 y10 y11:AV),(∀ j,H1.n≤j→H1.get j=none)→Up H.n H H1→((r=.lit (.slice none 0 0)∧a.length+c.length=0)∨∃ i cs e,r=.sl i 0 1 0 none∧H.n≤i∧i<H1.n∧H1.get i=some (.cells cs e)∧a.length+c.length≠0) →
   slices_Concat_int_int.L2 σ K (.sl id 0 1 2 (some 2)) y3 r y9 y10 y11 (.sl id 0 1 2 (some 2)) (I (2:Nat)) (I 0) H1:=by
  intro H1 r y3 y9 y10 y11 ok1 u1 hr
  have x1:Gs 1 H1 x (a.map encZ1):=hx.keep (fun j hj=>u1.g j (hx.ownlt hj)) u1.n
  have y1:Gs 1 H1 y (c.map encZ1):=hy.keep (fun j hj=>u1.g j (hy.ownlt hj)) u1.n
  have step:∃ x' H2,appR false 1 8 H1 r x=some (x',H2)∧(∀ j,H2.n≤j→H2.get j=none)∧Up H.n H1 H2∧((a.length≠0∧Gs 1 H2 x' (a.map encZ1)∧∀ j,own x' j→H.n≤j)∨(a.length=0∧x'=r∧H2=H1)):=by
   by_cases h0:a.length=0
   ·have e:a=[]:=List.length_eq_zero_iff.1 h0
    subst e
    refine ⟨r,H1,?_,ok1,.refl,.inr ⟨rfl,rfl,rfl⟩⟩
    have hs:srcA H1 1 x=some (0,[]):=x1.src.2
    unfold appR
    rcases hr with ⟨rfl,_⟩ | ⟨i,cs,e,rfl,_⟩<;>simp [x1.src.1,hs]
   ·rcases hr with ⟨rfl,he⟩ | ⟨i,cs,e,rfl,hi,hin,hgi,_⟩
    ·omega
    ·obtain ⟨x',H2,e1,e2,e3,e4,e5,e6⟩:=app_made (bytes:=8) ok1 hin hgi x1.src.1 x1.src.2 z1_sz (z1_one a) (by rw [List.length_map]; omega) (by rw [List.length_map]; omega) (by rw [List.length_map]; exact h0)
     exact ⟨x',H2,e1,e6,⟨e3,fun j hj=>e4 j (by have:=u1.n; omega) (by omega)⟩,.inl ⟨h0,e2,fun j hj=>by have:=e5 j hj; have:=u1.n; omega⟩⟩
  obtain ⟨x',H2,e1,ok2,u2,hx'⟩:=step
  have u12:=u1.trans u2
  refine slices_Concat_int_int.L2_step ?_
  simp only [b_lss,bnd_some,d0,ifB_lit,if_true,i0,l0 H1 (u1.g id hid),e1,b_add,w1]
  have y2:Gs 1 H2 y (c.map encZ1):=hy.keep (fun j hj=>u12.g j (hy.ownlt hj)) u12.n
  have step2:∃ x2 H3,appR false 1 8 H2 x' y=some (x2,H3)∧(∀ j,H3.n≤j→H3.get j=none)∧Up H.n H2 H3∧Gs 1 H3 x2 ((a++c).map encZ1)∧∀ j,own x2 j→H.n≤j:=by
   rcases hx' with ⟨h0,hgx,hox⟩ | ⟨h0,rfl,rfl⟩
   ·obtain ⟨x2,H3,f1,f2,f3⟩:=app_gs (bytes:=8) hgx y2.src.1 y2.src.2 z1_sz (z1_one c) (by simp; omega) (by simp; omega)
    refine ⟨x2,H3,f1,app_ok ok2 hgx y2.src.1 y2.src.2 (z1_one c) (by simp; omega) (by simp; omega) f1,⟨f3.grow,fun j hj=>f3.same j (by have:=u12.n; omega) fun ho=>by have:=hox j ho; omega⟩,by rw [List.map_append]; exact f2,fun j hj=>?_⟩
    rcases f3.mine j hj with h | h
    ·exact hox j h
    ·have:=u12.n; omega
   ·have e:a=[]:=List.length_eq_zero_iff.1 h0
    subst e
    rw [List.nil_append]
    rcases hr with ⟨rfl,he⟩ | ⟨i,cs,e,rfl,hi,hin,hgi,hne⟩
    ·have hc0:c=[]:=List.length_eq_zero_iff.1 (by simpa using he)
     subst hc0
     have hs:srcA H2 1 y=some (0,[]):=y2.src.2
     exact ⟨_,H2,by unfold appR; simp [y2.src.1,hs],ok2,.refl,.nil,fun j hj=>hj.elim⟩
    ·obtain ⟨x2,H3,e1,e2,e3,e4,e5,e6⟩:=app_made (bytes:=8) ok2 hin hgi y2.src.1 y2.src.2 z1_sz (z1_one c) (by rw [List.length_map]; omega) (by rw [List.length_map]; omega) (by rw [List.length_map]; simpa using hne)
     exact ⟨x2,H3,e1,e6,⟨e3,fun j hj=>e4 j (by have:=u1.n; omega) (by omega)⟩,e2,fun j hj=>by have:=e5 j hj; have:=u1.n; omega⟩
  obtain ⟨x2,H3,f1,ok3,u3,hg3,ho3⟩:=step2
  refine slices_Concat_int_int.L2_step ?_
  simp only [b_lss,bnd_some,d1,ifB_lit,if_true,i1,l1 H2 (u12.g id hid),f1,b_add,w2]
  refine slices_Concat_int_int.L2_step ?_
  simp only [b_lss,bnd_some,d2,ifB_lit,Bool.false_eq_true,if_false]
  exact hK H3 x2 hg3 (u12.trans u3) ok3 ho3
 by_cases hz:a.length+c.length=0
 ·rw [hz]
  refine callK_of (grow_nil0 _) ?_
  simp only [len_sl,bnd_some]
  exact fin H _ _ _ _ _ ok .refl (.inl ⟨rfl,hz⟩)
 ·refine callK_of (grow_nil _ (by omega) (by omega) _) ?_
  simp only [len_sl,bnd_some]
  refine fin _ _ _ _ _ _ (new_ok ok _) ⟨by simp,fun j hj=>?_⟩ (.inr ⟨_,_,_,rfl,Nat.le_refl _,by simp,by simp; exact ⟨rfl,rfl⟩,hz⟩)
  have:j≠H.n:=by omega
  simp [this]
end
def Hp.up (H:Hp) (n:Nat):Hp:=⟨n,H.t⟩
@[simp] theorem up_get (H:Hp) (n j:Nat):(H.up n).get j=H.get j:=rfl
@[simp] theorem up_n (H:Hp) (n:Nat):(H.up n).n=n:=rfl
def outL (R:Key→List Int) (n:Nd):List Int:=((R (0,⟨#[]⟩)++R (3,n.tag))++(if n.id=⟨#[]⟩ then [] else R (1,n.id)))++n.classes.flatMap fun c=>R (2,c)
theorem z1_flat:∀ l:List Int,(l.map encZ1).flatten=l.map I
 | []=>rfl
 | a::l=>by simp [encZ1,z1_flat l]
def Nums (n0:Nat) (H:Hp) (r:AV) (l:List Int):Prop:=(r=.lit (.slice none 0 0)∧l=[])∨∃ id cs ex,r=.sl id 0 1 l.length none∧n0≤id∧H.get id=some (.cells cs ex)∧∀ (j:Nat) (x:AV),(l.map I)[j]?=some x→cs[j]?=some x
theorem noIds_I:∀ l:List Int,noIds (l.map I)=true
 | []=>rfl
 | a::l=>by simp [noIds,noId,noIds_I l]
theorem Good.nums {P:Program} {f:Nat} {xs:List AV} {r:AV} {H H1:Hp} {l:List Int} (h:Good P σ f xs H r H1) (ok:∀ j,H.n≤j→H.get j=none) (u:Up H.n H H1) (hr:Nums H.n H1 r l):Good P σ f xs H (intz l) (H.up H1.n):=by
 have h2:∀ id k2,(H.up H1.n).get id=some k2→∃ k1,H1.get id=some k1∧∀ Hd,FzB Hd k1 k2:=by
  intro id k2 hk
  rw [up_get] at hk
  have hlt:id<H.n:=by
   rcases Nat.lt_or_ge id H.n with h | h
   ·exact h
   ·rw [ok id h] at hk; cases hk
  exact ⟨k2,by rw [u.g id hlt]; exact hk,fun Hd=>.refl Hd k2⟩
 rcases hr with ⟨rfl,rfl⟩ | ⟨id,cs,ex,rfl,hid,hg,hc⟩
 ·have hd0:∀ id,(Hp.bare H1.n).get id=none:=fun id=>by simp [Hp.bare,Hp.get,Tr.get]
  exact h.frzH (H2:=H.up H1.n) (Hd:=Hp.bare H1.n) rfl rfl (fun id k hk=>by rw [hd0] at hk; cases hk) (fun id k2 hk=>by obtain ⟨k1,e1,e2⟩:=h2 id k2 hk; exact ⟨k1,e1,e2 _⟩) (.inr .nil)
 ·have hd0:∀ j,((Hp.bare H1.n).set id (some (.cells cs ex))).get j=if j=id then some (.cells cs ex) else none:=fun j=>by
   rw [hp_get_set]
   split
   ·rfl
   ·simp [Hp.bare,Hp.get,Tr.get]
  refine h.frzH (H2:=H.up H1.n) (Hd:=(Hp.bare H1.n).set id (some (.cells cs ex))) rfl rfl (fun j k hk=>?_) (fun id k2 hk=>by obtain ⟨k1,e1,e2⟩:=h2 id k2 hk; exact ⟨k1,e1,e2 _⟩) (.inr ?_)
  ·rw [hd0] at hk
   split at hk
   ·rename_i e
    subst e
    cases hk
    exact ⟨hg,ok _ hid⟩
   ·cases hk
  ·have:=Fz.one (H:=(Hp.bare H1.n).set id (some (.cells cs ex))) (id:=id) (off:=0) (cap:=none) (cs:=cs) (xs:=l.map I) (ex:=ex) (by rw [hd0,if_pos rfl]) (fun j x hx=>by rw [Nat.zero_add]; exact hc j x hx) (noIds_I l)
   rw [List.length_map,List.map_map] at this
   exact this
section
attribute [local irreducible] bucket_Map_For.J0 bucket_Map_For.L1
theorem MFor_raw {n0:Nat} {H:Hp} {b cnt:Nat} {R:Key→List Int} (h:Bk n0 H b R cnt) (hR:∀ k,(R k).length≤1000) (n:Nd) (hn:n.classes.length≤50) :
  ∃ r H1,Good Tryz.prog σ n_bucket_Map_For [.ptr b 0,.agg (encNd n)] H r H1∧((∀ j,H1.n≤j→H1.get j=none)∧Up H.n H H1∧Nums H.n H1 r (Go.Lib.compact (srt (outL R n)))):=by
  obtain ⟨Q,hQ⟩:∃ Q:AV→Hp→Prop,∀ r H1,Q r H1 ↔ ((∀ j,H1.n≤j→H1.get j=none)∧Up H.n H H1∧Nums H.n H1 r (Go.Lib.compact (srt (outL R n)))):=⟨_,fun _ _=>Iff.rfl⟩
  suffices hs:∃ r H1,Good Tryz.prog σ n_bucket_Map_For [.ptr b 0,.agg (encNd n)] H r H1∧Q r H1 by
   obtain ⟨r,H1,h1,h2⟩:=hs
   exact ⟨r,H1,h1,(hQ r H1).1 h2⟩
  refine bucket_Map_For.run ?_
  have blt:=h.blt
  simp only [boxK_agg]
  obtain ⟨H2,hH2⟩:∃ H2,H2=H.new (.cells (encNd n) true):=⟨_,rfl⟩
  rw [← hH2]
  have n2:H2.n=H.n+1:=by rw [hH2]; rfl
  have g2:H2.get H.n=some (.cells (encNd n) true):=by rw [hH2]; simp
  have ok2:∀ j,H2.n≤j→H2.get j=none:=by rw [hH2]; exact new_ok h.ok _
  have u2:Up H.n H H2:=by
   rw [hH2]
   refine ⟨by simp,fun j hj=>?_⟩
   have:j≠H.n:=by omega
   simp [this]
  clear hH2
  have B2:=h.mono u2 ok2
  obtain ⟨m,hm,hlook⟩:=B2.look
  have look:∀ H3:Hp,Up H2.n H2 H3→(∀ j,H3.n≤j→H3.get j=none)→ldA false 1 H3 (.ptr b 0)=some m∧∀ k,∃ x,lookR (.lit (.slice none 0 0)) true [.int .i64,.string] false H3 m (kyA k)=some x∧Gs 1 H3 x ((R k).map encZ1):=by
   intro H3 u3 ok3
   have B3:=B2.mono u3 ok3
   obtain ⟨m3,hm3,hl3⟩:=B3.look
   have hb3:=u3.g b B2.blt
   rw [hm3,hm] at hb3
   cases hb3
   exact ⟨by rw [ld_ptr,hm3]; rfl,hl3⟩
  have lnd:∀ H3:Hp,Up H2.n H2 H3→H3.get H.n=some (.cells (encNd n) true):=fun H3 u3=>by rw [u3.g _ (by omega)]; exact g2
  have ltag:∀ H3:Hp,Up H2.n H2 H3→ldA false 1 H3 (.ptr H.n 1)=some (Sx n.tag):=fun H3 u3=>by rw [ld_ptr,lnd H3 u3]; rfl
  have lid:∀ H3:Hp,Up H2.n H2 H3→ldA false 1 H3 (.ptr H.n 2)=some (Sx n.id):=fun H3 u3=>by rw [ld_ptr,lnd H3 u3]; rfl
  have lcl:∀ H3:Hp,Up H2.n H2 H3→ldA false 1 H3 (.ptr H.n 3)=some (strs n.classes):=fun H3 u3=>by rw [ld_ptr,lnd H3 u3]; rfl
  have k0:bldR [I 0,.lit (.string ⟨#[]⟩)] [(0,1,I 0)]=some (encKey (0,⟨#[]⟩)):=rfl
  have ks:∀ (k:Int) (s:ByteArray),bldR [I 0,.lit (.string ⟨#[]⟩)] [(0,1,I k),(1,1,Sx s)]=some (encKey (k,s)):=fun _ _=>rfl
  obtain ⟨x0,e0,gx0⟩:=(look H2 .refl ok2).2 (0,⟨#[]⟩)
  obtain ⟨x1,e1,gx1⟩:=(look H2 .refl ok2).2 (3,n.tag)
  have lm2:=(look H2 .refl ok2).1
  simp only [kyA] at e0 e1
  have hbl:bldSlR [.slice none 0 0] 1 2 H2 [(0,1,x0),(1,1,x1)]=some (.sl H2.n 0 1 2 (some 2),H2.new (.cells [x0,x1] true)):=by
   simp [bldSlR,bldR,zrow,List.range_succ,gx0.cells.1,gx1.cells.1,gx0.cells.2,gx1.cells.2,beqN,bleN,overlay]
  simp only [n_ptr,bnd_some,sh_ptr,Nat.zero_add,lm2,k0,e0,ltag H2 .refl,ks,e1,hbl]
  have u3:Up H2.n H2 (H2.new (.cells [x0,x1] true)):=by
   refine ⟨by simp,fun j hj=>?_⟩
   have:j≠H2.n:=by omega
   simp [this]
  refine Concat_sp (new_ok ok2 _) (by simp) (ex:=true) (by simp) (gx0.keep (fun j hj=>u3.g j (gx0.ownlt hj)) u3.n) (gx1.keep (fun j hj=>u3.g j (gx1.ownlt hj)) u3.n) (by have:=hR (0,⟨#[]⟩); omega) (by have:=hR (3,n.tag); omega) fun H4 r4 hg4 u4 ok4 ho4=>?_
  have u24:Up H2.n H2 H4:=u3.trans (u4.le (by simp))
  have n3:(H2.new (Blk.cells [x0,x1] true)).n=H2.n+1:=rfl
  rw [n3] at ho4
  have fin:∀ (H5:Hp) (y5:AV),(∀ j,H5.n≤j→H5.get j=none)→Up H2.n H2 H5→Gs 1 H5 y5 ((outL R n).map encZ1)→(∀ j,own y5 j→H2.n≤j) →
    callK Tryz.prog σ n_slices_Sort_int_int [y5] H5 fun x12 H13=>callK Tryz.prog σ n_slices_Compact_int_int [y5] H13 fun x14 H15=>Q x14 H15:=by
   intro H5 y5 ok5 u5 hg5 ho5
   have hlen:(outL R n).length≤1000000:=by
    have h1:=hR (0,⟨#[]⟩)
    have h2:=hR (3,n.tag)
    have h3:(if n.id=⟨#[]⟩ then [] else R (1,n.id)).length≤1000:=by
     split
     ·simp
     ·exact hR _
    have h4:(n.classes.flatMap fun c=>R (2,c)).length≤1000*n.classes.length:=by
     generalize n.classes=cs
     induction cs with
     | nil=>simp
     | cons c cs ih=>simp only [List.flatMap_cons,List.length_append,List.length_cons]; have:=hR (2,c); omega
    simp only [outL,List.length_append]
    omega
   generalize outL R n=l at hg5 hlen hQ
   have u05:Up H.n H H5:=u2.trans (u5.le (by omega))
   generalize hrows:l.map encZ1=rows at hg5
   cases hg5 with
   | nil =>
    have hl:l=[]:=by simpa using hrows
    subst hl
    refine callK_of (sort_nil _) (callK_of (compact_nil _) ?_)
    rw [hQ]
    exact ⟨ok5,u05,.inl ⟨rfl,by simp [srt,Go.Lib.compact,Go.Lib.compactUpTo]⟩⟩
   | sl hlt hg hsz =>
    rename_i id ex
    subst hrows
    rw [z1_flat] at hg
    rw [List.length_map]
    refine callK_of (sort_ok hg hlen) ?_
    have sl:(srt l).length=l.length:=by simp [srt]
    have hg2:(H5.set id (some (.cells ((srt l).map I) ex))).get id=some (.cells ((srt l).map I) ex):=by simp
    have hc:=compact_ok (σ:=σ) hg2 (by omega)
    rw [sl] at hc
    refine callK_of hc ?_
    rw [hQ]
    have hid:H2.n≤id:=ho5 id rfl
    refine ⟨set_ok (set_ok ok5 hlt _) (by simpa using hlt) _,⟨by simp; exact u05.n,fun j hj=>?_⟩,.inr ⟨id,_,ex,rfl,by omega,by rw [hp_get_set,if_pos rfl],fun j x hx=>?_⟩⟩
    ·have:j≠id:=by omega
     simp [this]; exact u05.g j hj
    ·rw [List.map_append]
     rw [List.getElem?_append_left (by have:=(List.getElem?_eq_some_iff.1 hx).1; exact this)]
     exact hx
  have L1:∀ (f i:Nat) (H5:Hp) (y5:AV) (acc:List Int),n.classes.length - i=f→i≤n.classes.length→(∀ j,H5.n≤j→H5.get j=none)→Up H2.n H2 H5→Gs 1 H5 y5 (acc.map encZ1)→(∀ j,own y5 j→H2.n≤j)→acc++(n.classes.drop i).flatMap (fun c=>R (2,c))=outL R n→acc.length≤3000+1000*i →
    bucket_Map_For.L1 σ Q (.ptr b 0) (.ptr H.n 0) y5 (strs n.classes) (I n.classes.length) (I (i:Int)) H5:=by
   intro f
   induction f with
   | zero =>
    intro i H5 y5 acc hf hi ok5 u5 hg5 ho5 hacc hal
    have:i=n.classes.length:=by omega
    subst this
    refine bucket_Map_For.L1_step ?_
    simp only [b_lss,bnd_some,Int.lt_irrefl,decide_false,ifB_lit,Bool.false_eq_true,if_false]
    rw [List.drop_length] at hacc
    have:acc=outL R n:=by simpa using hacc
    subst this
    exact fin H5 y5 ok5 u5 hg5 ho5
   | succ f ih =>
    intro i H5 y5 acc hf hi ok5 u5 hg5 ho5 hacc hal
    have hil:i<n.classes.length:=by omega
    have hil':(i:Int)<n.classes.length:=by omega
    obtain ⟨c,hc⟩:=get_lt hil
    have hix:ixaSl 1 (strs n.classes) (I (i:Int))=some (.ip [Sx c]):=ix_map hc
    have lc:∀ H:Hp,ldA false 1 H (.ip [Sx c])=some (Sx c):=fun _=>rfl
    obtain ⟨lm5,lk5⟩:=look H5 u5 ok5
    obtain ⟨x,ex,gx⟩:=lk5 (2,c)
    simp only [kyA] at ex
    have hRc:=hR (2,c)
    refine bucket_Map_For.L1_step ?_
    obtain ⟨y6,H6,happ,hg6,hfr⟩:=app_gs (bytes:=8) hg5 gx.src.1 gx.src.2 z1_sz (z1_one _) (by simp; omega) (by simp; omega)
    simp only [b_lss,bnd_some,hil',decide_true,ifB_lit,if_true,hix,lc,n_ptr,sh_ptr,Nat.zero_add,lm5,ks,ex,happ,b_add,wr_succ (show i<9000000000000000000 by omega)]
    refine ih (i+1) H6 y6 (acc++R (2,c)) (by omega) (by omega) (app_ok ok5 hg5 gx.src.1 gx.src.2 (z1_one _) (by simp; omega) (by simp; omega) happ) ?_ (by rw [List.map_append]; exact hg6) (fun j hj=>?_) ?_ (by simp; omega)
    ·refine u5.trans ⟨hfr.grow,fun j hj=>hfr.same j (by have:=u5.n; omega) fun ho=>by have:=ho5 j ho; omega⟩
    ·rcases hfr.mine j hj with h | h
     ·exact ho5 j h
     ·have:=u5.n; omega
    ·rw [← hacc,drop_get hc]
     simp
  have J0:∀ (H5:Hp) (y5:AV) (acc:List Int),(∀ j,H5.n≤j→H5.get j=none)→Up H2.n H2 H5→Gs 1 H5 y5 (acc.map encZ1)→(∀ j,own y5 j→H2.n≤j)→acc=((R (0,⟨#[]⟩)++R (3,n.tag))++(if n.id=⟨#[]⟩ then [] else R (1,n.id)))→acc.length≤3000 →
    bucket_Map_For.J0 σ Q (.ptr b 0) (.ptr H.n 0) y5 (.lit undef) (.lit undef) (.lit undef) H5:=by
   intro H5 y5 acc ok5 u5 hg5 ho5 hacc hal
   refine bucket_Map_For.J0_step ?_
   simp only [sh_ptr,bnd_some,Nat.zero_add,lcl H5 u5,len_strs]
   exact L1 _ 0 H5 y5 acc rfl (Nat.zero_le _) ok5 u5 hg5 ho5 (by rw [hacc]; rfl) (by omega)
  have h0:=hR (0,⟨#[]⟩)
  have h3:=hR (3,n.tag)
  simp only [lid H4 u24,b_sneq,bnd_some,ifB_lit]
  by_cases hid:n.id=⟨#[]⟩
  ·simp only [hid,decide_true,Bool.not_true,Bool.false_eq_true,if_false]
   exact J0 H4 r4 _ ok4 u24 hg4 (fun j hj=>by have:=ho4 j hj; omega) (by rw [if_pos hid]; simp) (by simp; omega)
  ·obtain ⟨lm4,lk4⟩:=look H4 u24 ok4
   obtain ⟨x,ex,gx⟩:=lk4 (1,n.id)
   simp only [kyA] at ex
   have hRc:=hR (1,n.id)
   obtain ⟨y6,H6,happ,hg6,hfr⟩:=app_gs (bytes:=8) hg4 gx.src.1 gx.src.2 z1_sz (z1_one _) (by simp; omega) (by simp; omega)
   simp only [hid,decide_false,Bool.not_false,if_true,lm4,lid H4 u24,ks,ex,happ,bnd_some]
   refine J0 H6 y6 ((R (0,⟨#[]⟩)++R (3,n.tag))++R (1,n.id)) (app_ok ok4 hg4 gx.src.1 gx.src.2 (z1_one _) (by simp; omega) (by simp; omega) happ) ?_ (by rw [List.map_append]; exact hg6) (fun j hj=>?_) (by rw [if_neg hid]) (by simp; omega)
   ·refine u24.trans ⟨hfr.grow,fun j hj=>hfr.same j (by have:=u24.n; omega) fun ho=>by have:=ho4 j ho; omega⟩
   ·rcases hfr.mine j hj with h | h
    ·have:=ho4 j h; omega
    ·have:=u24.n; omega
theorem MFor_run {n0:Nat} {H:Hp} {b cnt:Nat} {R:Key→List Int} (h:Bk n0 H b R cnt) (hR:∀ k,(R k).length≤1000) (n:Nd) (hn:n.classes.length≤50) :
  ∃ H1:Hp,Good Tryz.prog σ n_bucket_Map_For [.ptr b 0,.agg (encNd n)] H (intz (Go.Lib.compact (srt (outL R n)))) (H.up H1.n)∧H.n≤H1.n:=by
 obtain ⟨r,H1,h1,_,h2,h3⟩:=MFor_raw (σ:=σ) h hR n hn
 exact ⟨H1,h1.nums h.ok h2 h3,h2.n⟩
end
end Go.Proofs.YtaoegkmfgfefgaaGreat.Ev
namespace Go.Proofs.YtaoegkmfgfefgaaGreat.Ev
set_option linter.unusedVariables false
set_option linter.unusedSimpArgs false
theorem hasB_iff {l:List ByteArray} {s:ByteArray}:hasB l s=true ↔ s ∈ l:=by
 unfold hasB
 rw [List.any_eq_true]
 exact ⟨fun ⟨x,hx,e⟩=>by rw [← of_decide_eq_true e]; exact hx,fun h=>⟨s,h,by simp⟩⟩
theorem compact_spec {zs:List Int} (hs:zs.Pairwise (·≤·)):(Go.Lib.compact zs).Pairwise (·<·)∧∀ x,x ∈ Go.Lib.compact zs ↔ x ∈ zs:=by
 have hle:∀ i j (hi:i<zs.length) (hj:j<zs.length),i≤j→zs[i]≤zs[j]:=by
  intro i j hi hj hij
  rcases Nat.lt_or_eq_of_le hij with h | h
  ·exact List.pairwise_iff_getElem.1 hs i j hi hj h
  ·subst h; exact Int.le_refl _
 have main:∀ m,m≤zs.length→(Go.Lib.compactUpTo zs.toArray m).Pairwise (·<·)∧∀ x,x ∈ Go.Lib.compactUpTo zs.toArray m ↔ ∃ i,∃ h:i<zs.length,i<m∧zs[i]=x:=by
  intro m
  induction m with
  | zero =>
   intro _
   refine ⟨by simp [Go.Lib.compactUpTo],fun x=>?_⟩
   simp [Go.Lib.compactUpTo]
  | succ m ih =>
   intro hm
   obtain ⟨h1,h2⟩:=ih (by omega)
   have hml:m<zs.length:=by omega
   have e1:zs.toArray[m]! = zs[m]:=by simp [hml]
   rw [Go.Lib.compactUpTo_succ,e1]
   by_cases hk:Go.Lib.keeps zs.toArray m=true
   ·rw [if_pos hk]
    refine ⟨List.pairwise_append.2 ⟨h1,by simp,fun a ha b hb=>?_⟩,fun x=>?_⟩
    ·rw [List.mem_singleton.1 hb]
     obtain ⟨i,hi,him,rfl⟩:=(h2 a).1 ha
     simp only [Go.Lib.keeps,decide_eq_true_eq] at hk
     rcases hk with hk | hk
     ·omega
     ·have hm1:m - 1<zs.length:=by omega
      have e2:zs.toArray[m - 1]! = zs[m - 1]:=by simp [hm1]
      rw [e1,e2] at hk
      have a1:=hle i (m - 1) hi hm1 (by omega)
      have a2:=hle (m - 1) m hm1 hml (by omega)
      omega
    ·rw [List.mem_append,h2,List.mem_singleton]
     constructor
     ·rintro (⟨i,hi,him,e⟩ | rfl)
      ·exact ⟨i,hi,by omega,e⟩
      ·exact ⟨m,hml,by omega,rfl⟩
     ·rintro ⟨i,hi,him,e⟩
      by_cases h:i=m
      ·subst h; exact .inr e.symm
      ·exact .inl ⟨i,hi,by omega,e⟩
   ·rw [if_neg hk,List.append_nil]
    refine ⟨h1,fun x=>?_⟩
    rw [h2]
    constructor
    ·rintro ⟨i,hi,him,e⟩
     exact ⟨i,hi,by omega,e⟩
    ·rintro ⟨i,hi,him,e⟩
     by_cases h:i=m
     ·subst h
      simp only [Go.Lib.keeps,decide_eq_true_eq] at hk
      have hm0:i≠0:=fun e=>hk (.inl e)
      have hm1:i - 1<zs.length:=by omega
      have e2:zs.toArray[i - 1]! = zs[i - 1]:=by simp [hm1]
      have:zs[i]=zs[i - 1]:=by
       rw [e1,e2] at hk
       exact Decidable.byContradiction fun hne=>hk (.inr hne)
      exact ⟨i - 1,hm1,by omega,by rw [← this]; exact e⟩
     ·exact ⟨i,hi,by omega,e⟩
 obtain ⟨h1,h2⟩:=main zs.length (Nat.le_refl _)
 refine ⟨h1,fun x=>?_⟩
 rw [show Go.Lib.compact zs=Go.Lib.compactUpTo zs.toArray zs.length from rfl,h2]
 constructor
 ·rintro ⟨i,hi,_,rfl⟩; exact List.getElem_mem hi
 ·intro hx
  obtain ⟨i,hi,e⟩:=List.getElem_of_mem hx
  exact ⟨i,hi,hi,e⟩
theorem srt_spec (l:List Int):(srt l).Pairwise (·≤·)∧∀ x,x ∈ srt l ↔ x ∈ l:=by
 refine ⟨?_,fun x=>List.mem_mergeSort⟩
 have:=List.pairwise_mergeSort (le:=fun (x y:Int)=>decide (x≤y)) (fun a b c h1 h2=>by simp at h1 h2 ⊢; omega) (fun a b=>by simp; omega) l
 exact this.imp fun h=>by simpa using h
theorem inc_ext:∀ {l r:List Int},l.Pairwise (·<·)→r.Pairwise (·<·)→(∀ x,x ∈ l ↔ x ∈ r)→l=r
 | [],[],_,_,_=>rfl
 | [],y::r,_,_,h=>by have:=(h y).2 (by simp); cases this
 | x::l,[],_,_,h=>by have:=(h x).1 (by simp); cases this
 | x::l,y::r,hl,hr,h=>by
  have hl':=List.pairwise_cons.1 hl
  have hr':=List.pairwise_cons.1 hr
  have hxy:x=y:=by
   rcases List.mem_cons.1 ((h x).1 (by simp)) with e | e
   ·exact e
   ·rcases List.mem_cons.1 ((h y).2 (by simp)) with e' | e'
    ·exact e'.symm
    ·have:=hr'.1 x e; have:=hl'.1 y e'; omega
  subst hxy
  congr 1
  refine inc_ext hl'.2 hr'.2 fun z=>⟨fun hz=>?_,fun hz=>?_⟩
  ·rcases List.mem_cons.1 ((h z).1 (by simp [hz])) with e | e
   ·subst e; have:=hl'.1 z hz; omega
   ·exact e
  ·rcases List.mem_cons.1 ((h z).2 (by simp [hz])) with e | e
   ·subst e; have:=hr'.1 z hz; omega
   ·exact e
theorem rwS_mem {k:Key} {i:Nat} {x:Int}:∀ {l:List Sl},x ∈ rwS k i l ↔ x=i∧∃ s ∈ l,lastKey s=some k
 | []=>by simp [rwS]
 | s::r=>by
  unfold rwS
  split
  ·rename_i h
   rw [List.mem_cons,rwS_mem]
   constructor
   ·rintro (h1 | ⟨h1,s',h2,h3⟩)
    ·exact ⟨h1,s,by simp,h⟩
    ·exact ⟨h1,s',by simp [h2],h3⟩
   ·rintro ⟨h1,_⟩; exact .inl h1
  ·rename_i h
   rw [rwS_mem]
   constructor
   ·rintro ⟨h1,s',h2,h3⟩; exact ⟨h1,s',by simp [h2],h3⟩
   ·rintro ⟨h1,s',h2,h3⟩
    rcases List.mem_cons.1 h2 with rfl | h2
    ·exact absurd h3 h
    ·exact ⟨h1,s',h2,h3⟩
theorem rwR_mem {k:Key} {x:Int}:∀ {l:List RL} {i:Nat},x ∈ rwR k i l ↔ ∃ j r,x=((i+j:Nat):Int)∧l[j]?=some r∧∃ s ∈ r.sels,lastKey s=some k
 | [],i=>by simp [rwR]
 | r::l,i=>by
  rw [rwR,List.mem_append,rwS_mem,rwR_mem (l:=l)]
  constructor
  ·rintro (⟨h1,h2⟩ | ⟨j,r',h1,h2,h3⟩)
   ·exact ⟨0,r,by simpa using h1,rfl,h2⟩
   ·exact ⟨j+1,r',by rw [h1]; congr 1; omega,by simpa using h2,h3⟩
  ·rintro ⟨j,r',h1,h2,h3⟩
   cases j with
   | zero=>simp at h2; subst h2; exact .inl ⟨by simpa using h1,h3⟩
   | succ j=>exact .inr ⟨j,r',by rw [h1]; congr 1; omega,by simpa using h2,h3⟩
theorem forR_mem {n:Nd} {x:Int}:∀ {l:List RL} {i:Nat},x ∈ forR n i l ↔ ∃ j r,x=((i+j:Nat):Int)∧l[j]?=some r∧∃ s ∈ r.sels,bktB s n=true
 | [],i=>by simp [forR]
 | r::l,i=>by
  have ih:=forR_mem (n:=n) (x:=x) (l:=l) (i:=i+1)
  have tail:(∃ j r',x=((i+1+j:Nat):Int)∧l[j]?=some r'∧∃ s ∈ r'.sels,bktB s n=true) ↔ ∃ j r',x=((i+(j+1):Nat):Int)∧(r::l)[j+1]?=some r'∧∃ s ∈ r'.sels,bktB s n=true:=by
   constructor
   ·rintro ⟨j,r',h1,h2,h3⟩; exact ⟨j,r',by rw [h1]; congr 1; omega,by simpa using h2,h3⟩
   ·rintro ⟨j,r',h1,h2,h3⟩; exact ⟨j,r',by rw [h1]; congr 1; omega,by simpa using h2,h3⟩
  have split:(∃ j r',x=((i+j:Nat):Int)∧(r::l)[j]?=some r'∧∃ s ∈ r'.sels,bktB s n=true) ↔ (x=(i:Int)∧∃ s ∈ r.sels,bktB s n=true)∨∃ j r',x=((i+(j+1):Nat):Int)∧(r::l)[j+1]?=some r'∧∃ s ∈ r'.sels,bktB s n=true:=by
   constructor
   ·rintro ⟨j,r',h1,h2,h3⟩
    cases j with
    | zero=>simp at h2; subst h2; exact .inl ⟨by simpa using h1,h3⟩
    | succ j=>exact .inr ⟨j,r',h1,h2,h3⟩
   ·rintro (⟨h1,h2⟩ | ⟨j,r',h⟩)
    ·exact ⟨0,r,by simpa using h1,rfl,h2⟩
    ·exact ⟨j+1,r',h⟩
  have ef:forR n i (r::l)=if r.sels.any (fun s=>bktB s n) then (i:Int)::forR n (i+1) l else forR n (i+1) l:=rfl
  rw [split,← tail,← ih,ef]
  split
  ·rename_i h
   obtain ⟨s,hs,hb⟩:=List.any_eq_true.1 h
   rw [List.mem_cons]
   exact ⟨fun h=>h.imp (fun h=>⟨h,s,hs,hb⟩) id,fun h=>h.imp (·.1) id⟩
  ·rename_i h
   refine ⟨.inr,fun h'=>h'.elim (fun ⟨_,s,hs,hb⟩=>absurd (List.any_eq_true.2 ⟨s,hs,hb⟩) h) id⟩
theorem forR_inc (n:Nd):∀ (l:List RL) (i:Nat),(forR n i l).Pairwise (·<·)
 | [],_=>by simp [forR]
 | r::l,i=>by
  have ih:=forR_inc n l (i+1)
  unfold forR
  split
  ·refine List.pairwise_cons.2 ⟨fun x hx=>?_,ih⟩
   obtain ⟨j,_,h1,_⟩:=forR_mem.1 hx
   omega
  ·exact ih
def keysN (n:Nd) (k:Key):Prop:=k=(0,⟨#[]⟩)∨k=(3,n.tag)∨(n.id≠⟨#[]⟩∧k=(1,n.id))∨∃ c ∈ n.classes,k=(2,c)
theorem outL_mem {R:Key→List Int} {n:Nd} {x:Int}:x ∈ outL R n ↔ ∃ k,keysN n k∧x ∈ R k:=by
 unfold outL
 simp only [List.mem_append,List.mem_flatMap]
 constructor
 ·rintro (((h | h) | h) | ⟨c,hc,h⟩)
  ·exact ⟨_,.inl rfl,h⟩
  ·exact ⟨_,.inr (.inl rfl),h⟩
  ·by_cases e:n.id=⟨#[]⟩
   ·rw [if_pos e] at h; cases h
   ·rw [if_neg e] at h; exact ⟨_,.inr (.inr (.inl ⟨e,rfl⟩)),h⟩
  ·exact ⟨_,.inr (.inr (.inr ⟨c,hc,rfl⟩)),h⟩
 ·rintro ⟨k,(rfl | rfl | ⟨e,rfl⟩ | ⟨c,hc,rfl⟩),h⟩
  ·exact .inl (.inl (.inl h))
  ·exact .inl (.inl (.inr h))
  ·exact .inl (.inr (by rw [if_neg e]; exact h))
  ·exact .inr ⟨c,hc,h⟩
theorem bktB_iff {s:Sl} {n:Nd}:bktB s n=true ↔ ∃ k,keysN n k∧lastKey s=some k:=by
 unfold bktB lastKey
 cases hs:s[s.length - 1]? with
 | none=>simp
 | some p =>
  simp only [Option.map_some,Option.some.injEq]
  unfold bktC keyC
  cases hi:p.c.ids with
  | cons x r =>
   simp only [Bool.and_eq_true,decide_eq_true_eq]
   constructor
   ·rintro ⟨h1,rfl⟩; exact ⟨_,.inr (.inr (.inl ⟨h1,rfl⟩)),rfl⟩
   ·rintro ⟨k,hk,rfl⟩
    rcases hk with h | h | ⟨h1,h⟩ | ⟨c,_,h⟩
    ·simp at h
    ·simp at h
    ·simp at h; exact ⟨h1,h⟩
    ·simp at h
  | nil =>
   cases hc:p.c.classes with
   | cons x r =>
    simp only [hasB_iff]
    constructor
    ·intro h; exact ⟨_,.inr (.inr (.inr ⟨x,h,rfl⟩)),rfl⟩
    ·rintro ⟨k,hk,rfl⟩
     rcases hk with h | h | ⟨h1,h⟩ | ⟨c,hcc,h⟩
     ·simp at h
     ·simp at h
     ·simp at h
     ·simp at h; subst h; exact hcc
   | nil =>
    by_cases ht:p.c.tag=⟨#[]⟩
    ·simp only [ht,if_true,true_iff]
     exact ⟨_,.inl rfl,rfl⟩
    ·simp only [ht,if_false,decide_eq_true_eq]
     constructor
     ·intro h; exact ⟨_,.inr (.inl (by rw [← h])),rfl⟩
     ·rintro ⟨k,hk,rfl⟩
      rcases hk with h | h | ⟨h1,h⟩ | ⟨c,_,h⟩
      ·simp at h
      ·simp at h; exact h
      ·simp at h
      ·simp at h
theorem for_eq (l:List RL) (n:Nd):Go.Lib.compact (srt (outL (fun k=>rwR k 0 l) n))=forR n 0 l:=by
 obtain ⟨s1,s2⟩:=srt_spec (outL (fun k=>rwR k 0 l) n)
 obtain ⟨c1,c2⟩:=compact_spec s1
 refine inc_ext c1 (forR_inc n l 0) fun x=>?_
 rw [c2,s2,outL_mem,forR_mem]
 constructor
 ·rintro ⟨k,hk,hx⟩
  obtain ⟨j,r,h1,h2,s,h3,h4⟩:=rwR_mem.1 hx
  exact ⟨j,r,h1,h2,s,h3,bktB_iff.2 ⟨k,hk,h4⟩⟩
 ·rintro ⟨j,r,h1,h2,s,h3,h4⟩
  obtain ⟨k,hk,hl⟩:=bktB_iff.1 h4
  exact ⟨k,hk,rwR_mem.2 ⟨j,r,h1,h2,s,h3,hl⟩⟩
theorem rwS_len (k:Key) (i:Nat):∀ l:List Sl,(rwS k i l).length≤l.length
 | []=>Nat.le_refl _
 | s::r=>by
  have:=rwS_len k i r
  unfold rwS
  split<;>simp<;>omega
theorem rwR_len (k:Key):∀ (l:List RL) (i:Nat),(rwR k i l).length≤(l.map fun r=>r.sels.length).sum
 | [],_=>Nat.le_refl _
 | r::l,i=>by
  have:=rwS_len k i r.sels
  have:=rwR_len k l (i+1)
  rw [rwR]
  simp only [List.length_append,List.map_cons,List.sum_cons]
  omega
theorem sum8:∀ {l:List RL},(∀ r ∈ l,r.sels.length≤8)→(l.map fun r=>r.sels.length).sum≤8*l.length
 | [],_=>by simp
 | r::l,h=>by
  have:=sum8 (l:=l) fun x hx=>h x (by simp [hx])
  have:=h r (by simp)
  simp only [List.map_cons,List.sum_cons,List.length_cons]
  omega
end Go.Proofs.YtaoegkmfgfefgaaGreat.Ev
namespace Go.Proofs.YtaoegkmfgfefgaaGreat.Ev
set_option linter.unusedVariables false
set_option linter.unusedSimpArgs false
set_option maxRecDepth 100000
set_option maxHeartbeats 4000000
variable {σ:Sig}
def frzO (k:Sk) (o:Option (AV × Hp)):Option AV:=match o with
 | some (r,H)=>frzS H k r
 | none=>none
theorem good_frz {f:Nat} {xs:List AV} {L d:Nat} {k:Sk} {y:AV} (hx:noIds xs=true) (h:frzO k (evF (CZ σ) fnT.get noOv L d f xs Hp.empty)=some y) (H:Hp):Good Tryz.prog σ f xs H y H:=by
 cases he:evF (CZ σ) fnT.get noOv L d f xs Hp.empty with
 | none=>rw [he] at h; cases h
 | some p =>
  obtain ⟨r,H'⟩:=p
  have hg:=evF_ok (CZ σ) mixed noOv_ok fnT_ok L d f xs Hp.empty r H' he
  rw [he] at h
  exact hg.frzR hx (frzS_ok _ _ _ h) H
def bSel:List Sl:=[[.mk 0 (.mk ⟨#[]⟩ [] [⟨#[98]⟩] [] [])]]
theorem sels_b (H:Hp):Good Tryz.prog σ n_law10_Sels [.lit (.string ⟨#[46,98]⟩)] H (sls bSel) H :=
 good_frz (k:=skSls 1) (L:=1000) (d:=60) rfl (by kernel_rfl) H
def abSel:List Sl:=[[.mk 0 (.mk ⟨#[97]⟩ [] [] [] []),.mk 2 (.mk ⟨#[98]⟩ [] [] [] [])]]
theorem sels_ab (H:Hp):Good Tryz.prog σ n_law10_Sels [.lit (.string ⟨#[97,32,62,32,98]⟩)] H (sls abSel) H :=
 good_frz (k:=skSls 1) (L:=1000) (d:=60) rfl (by kernel_rfl) H
def alR:List RL:=[⟨bSel,[]⟩,⟨abSel,[]⟩]
def alN:Nd:=⟨0,⟨#[]⟩,⟨#[]⟩,[⟨#[98]⟩],[]⟩
theorem alR8:Rl8 alR:=by
 refine ⟨by decide,fun r hr=>?_,fun r hr s hs=>?_⟩
 ·simp only [alR,List.mem_cons,List.not_mem_nil,or_false] at hr
  rcases hr with rfl | rfl<;>decide
 ·simp only [alR,List.mem_cons,List.not_mem_nil,or_false] at hr
  rcases hr with rfl | rfl
  ·have:s=bSel.head (by decide):=by simpa [bSel] using hs
   subst this; decide
  ·have:s=abSel.head (by decide):=by simpa [abSel] using hs
   subst this; decide
end Go.Proofs.YtaoegkmfgfefgaaGreat.Ev
namespace Go.Proofs.YtaoegkmfgfefgaaGreat.Ev
set_option linter.unusedVariables false
set_option linter.unusedSimpArgs false
set_option maxRecDepth 100000
variable {σ:Sig}
theorem bare_ok (n:Nat):∀ j,(Hp.bare n).n≤j→(Hp.bare n).get j=none:=fun j _=>by simp
theorem callK_drop {P:Program} {f:Nat} {xs ys:List AV} {H:Hp} {K:AV→Hp→Prop} (hx:FzL H ys xs) (h:callK P σ f xs (Hp.bare H.n) K):callK P σ f ys H K:=by
 obtain ⟨r,H1,hg,hk⟩:=h
 exact ⟨r,H1,Good.conv (Wk.frz (H2:=Hp.bare H.n) (Hd:=H) rfl rfl (fun id k hk=>⟨hk,by simp⟩) (fun id k2 hk=>by simp at hk) hx.t) hg,hk⟩
theorem callK_last {P:Program} {f:Nat} {xs ys:List AV} {H:Hp} {cs:List AV} {ex:Bool} {K:AV→Hp→Prop} (hx:FzT ((Hp.bare (H.n+1)).set H.n (some (.cells cs ex))) ys xs) (h:callK P σ f xs ((H.new (.cells cs ex)).set H.n none) K):callK P σ f ys (H.new (.cells cs ex)) K:=by
 obtain ⟨r,H1,hg,hk⟩:=h
 have hd0:∀ j,((Hp.bare (H.n+1)).set H.n (some (.cells cs ex))).get j=if j=H.n then some (.cells cs ex) else none:=fun j=>by
  rw [hp_get_set]
  split
  ·rfl
  ·simp
 refine ⟨r,H1,Good.conv (Wk.frz (Hd:=(Hp.bare (H.n+1)).set H.n (some (.cells cs ex))) (by simp) (by simp) (fun id k hk=>?_) (fun id k2 hk=>?_) hx) hg,hk⟩
 ·rw [hd0] at hk
  split at hk
  ·rename_i e
   subst e
   exact ⟨by simpa using hk,by simp⟩
  ·cases hk
 ·rw [hp_get_set] at hk
  split at hk
  ·cases hk
  ·exact ⟨k2,hk,.refl _ _⟩
theorem alive12 (H:Hp):Good Tryz.prog σ n_law12_alive [] H (Bo true) H:=by
 refine good_by (fun K hK=>law12_alive.run ?_) rfl rfl H
 refine callK_of (sels_b _) ?_
 refine bnd_of rfl ?_
 refine callK_of (sels_ab _) ?_
 refine bnd_of rfl ?_
 refine bnd_of rfl ?_
 refine callK_drop (xs:=[rls alR]) (.cons (frzS_ok (.sl 2 [.same,.sl 4 [.same,.same,.same,.same]]) _ _ (by kernel_rfl)) .nil) ?_
 refine BNew_sp alR alR8 (bare_ok _) fun H1 b hB u=>?_
 have hc:cntR alR=2:=by kernel_rfl
 rw [hc] at hB
 have e1:eqPtrR .neq (.ptr b 0) (.lit (.pointer none))=some (Bo true):=rfl
 simp only [e1,bnd_some,ifB_lit,if_true]
 obtain ⟨m,hm,hl⟩:=hB.look
 refine bucket_Map_Len.run ?_
 have l1:ldA false 1 H1 (.ptr b (0+1))=some (I (2:Nat)):=by rw [ld_ptr,hm]; rfl
 have e2:binR .eql (I (2:Nat)) (I 2)=some (Bo true):=rfl
 simp only [n_ptr,bnd_some,sh_ptr,l1,e2,ifB_lit,if_true]
 refine bnd_of rfl ?_
 refine bnd_of rfl ?_
 refine callK_last (xs:=[.ptr b 0,.agg (encNd alN)]) (.same (.fz (.aggL ?_) .nil)) ?_
 ·exact .cons (.refl rfl) (.cons (.refl rfl) (.cons (.refl rfl) (.cons (.cells1 (n:=1) (cs:=[Sx ⟨#[98]⟩]) (ex:=true) (by rw [hp_get_set,if_pos rfl]; rfl) rfl rfl) (.cons .nil .nil))))
 obtain ⟨H2,hH2⟩:∃ H2,H2=(H1.new (.cells (overlay (zrow [Value.string { data:=#[] }] (1*1)) 0 (AV.lit (Value.string { data:=#[98] })).cells) true)).set H1.n none:=⟨_,rfl⟩
 rw [← hH2]
 have u2:Up H1.n H1 H2:=by
  rw [hH2]
  refine ⟨by simp,fun j hj=>?_⟩
  have:j≠H1.n:=by omega
  simp [this]
 have ok2:∀ j,H2.n≤j→H2.get j=none:=by
  rw [hH2]
  intro j hj
  simp only [hp_get_new,Hp.n_new,hp_get_set,Hp.n_set] at hj ⊢
  rw [if_neg (by omega),if_neg (by omega)]
  exact hB.ok j (by omega)
 obtain ⟨H3,hg,_⟩:=MFor_run (σ:=σ) (hB.mono u2 ok2) (fun k=>Nat.le_trans (rwR_len k alR 0) (by decide)) alN (by decide)
 refine callK_of hg ?_
 rw [for_eq]
 have e3:(forR alN 0 alR).length=1:=by kernel_rfl
 have e4:binR .eql (I (1:Nat)) (I 1)=some (Bo true):=rfl
 simp only [len_intz,e3,bnd_some,e4]
 exact hK _
end Go.Proofs.YtaoegkmfgfefgaaGreat.Ev
namespace Go.Proofs.YtaoegkmfgfefgaaGreat.Ev
section
variable {H:Type} {enc:TypeId × Value→H}
theorem returnsInHanded_of_cond_shaped {a:Assume} {C:Checked} {os:Os} {f:FuncId} {fn:Func} {s:OpenSpec} {k:(H:Type)→List (DataW H)→Bool} (hk:s.cond=some k) {F:Stop.Interp} {conds:List PathCond} {apart fresh handsOn again:Bool}
  (own:ownKnob C.prog.godebug=none) (started:os.Started) (noInit:C.prog.inits.idxOf? f=none) (hfn:C.prog.funcs[f]?=some fn)
  (witness:∃ (w:World) (tape:Tape) (i:Input),w.os=os∧(w.forCall tape i).Shaped C.prog∧i.vars=[]∧Input.okWide C.prog (w.forCall tape i) .any w.heap.size f i ∧
   s.pre6 enc C.prog fn conds apart (w.forCall tape i).memory i.args∧a.holds C.prog (lone (Frame.enter C.prog f i.args .normal) [] (w.forCall tape i)))
  (contract:∀ (W:World) (base:Nat) (args:Array Value) (ds gs:List (DataW H)) (before:List MemPlace),
   (∀ (j:Nat) t v,fn.params[j]?=some t→args[j]?=some v→Value.okWide C.prog W .any base t v) →
   DataW.Whole enc C.prog fn.params.toList s.vars apart W args.toList ds gs before →
   conds.all (PathCond.test C.prog ⟨fn.params.toList,ds,s.bare.plain.varTypes C.prog,gs⟩)=true→k H (ds++gs)=true →
   (DataW.weightsEach C.prog (fn.params.toList++s.bare.plain.varTypes C.prog) (ds++gs)).all (·≤reachBytes)=true →
   W.ShapedOpen C.prog →
   a.holds C.prog (lone (Frame.enter C.prog f args .normal) [] W) →
   Calls C.prog f args W fun e W'=>∃ v,e=.returned v∧(s.at F).post enc C.prog fn apart fresh handsOn again W args v W') :
  ReturnsInHanded a C os f .any (s.pre6 enc C.prog fn conds apart) ((s.at F).post enc C.prog fn apart fresh handsOn again):=by
 refine returnsInHanded_of_calls own started noInit witness ?_
 intro w tape i _ hsh _ hok hpre hholds
 obtain ⟨_,_,_,fn',hfn',_,_,_,_,hval⟩:=hok
 have e:fn'=fn:=Option.some.inj (hfn'.symm.trans hfn)
 subst e
 obtain ⟨ds,gs,before,hw,hc,hkk⟩:=(OpenSpec.pre_some hk conds apart _ _).1 hpre.1
 have hw':=DataW.Whole.of_heap (w':=w.forCall tape i) (by rfl) hw
 refine (contract (w.forCall tape i) w.heap.size i.args ds gs before hval hw' hc hkk (hpre.2.weights hw) hsh hholds).mono fun e W' ⟨v,he,hp⟩=>?_
 subst he
 exact ChangeSpec.post_blind hp
end
end Go.Proofs.YtaoegkmfgfefgaaGreat.Ev
namespace Go.Proofs.YtaoegkmfgfefgaaGreat.Ev
open Go.RowKit
set_option linter.unusedVariables false
set_option linter.unusedSimpArgs false
set_option maxRecDepth 100000
variable {σ:Sig}
theorem NdSm.low {n:Nd} (h:NdSm n):SmN (lowN n):=by
 have r:reachBytes=140737488351232:=rfl
 refine ⟨by have:=h.classes; show n.classes.length≤_; omega,by have:=h.attrs; show (n.attrs.map lowPr).length≤_; rw [List.length_map]; omega,fun p hp=>?_⟩
 obtain ⟨q,hq,rfl⟩:=List.mem_map.1 hp
 have:=(h.at' q hq).2
 show q.2.data.size<_
 omega
theorem TreeOk.smN {L:List Nd} {d:List Nat} (h:TreeOk L d):∀ e,e<L.length→SmN (lowN (ndAt L e)):=by
 intro e he
 refine (h.sm _ ?_).low
 unfold ndAt
 rw [List.getD_eq_getElem?_getD,List.getElem?_eq_getElem he]
 exact List.getElem_mem _
theorem TreeOk.mc {L:List Nd} {d:List Nat} (h:TreeOk L d) (hC:HasC σ):McT σ L d:=⟨hC,h.hB,by have:=h.len; omega,h.smN⟩
theorem big_new (L:List Nd) (hW:∀ n ∈ L,NdWf n):(∃ x,∃ e:Int,(∀ H,Good Tryz.prog σ n_ref9_New [nds L] H (.tup [x,I e]) H)∧∃ bb:Bool,(bb=true∨e≠0)∧(∀ H,Good Tryz.prog σ n_law9_Big [nds L] H (Bo bb) H)) ∨
  (∃ d,TreeOk L d∧(∀ H,Good Tryz.prog σ n_law9_Big [nds L] H (Bo false) H)∧∀ H,Good Tryz.prog σ n_ref9_New [nds L] H (.tup [refT L d,I 0]) H):=by
 rcases refNew_ok (σ:=σ) L hW with ⟨_,e,he,hg⟩ | ⟨d,hN,hB,hg⟩
 ·exact .inl ⟨_,e,hg,bigR L 0,.inr he,Big_ok L⟩
 ·cases hb:bigR L 0 with
  | true=>exact .inl ⟨_,0,hg,true,.inl rfl,fun H=>by have:=Big_ok (σ:=σ) L H; rwa [hb] at this⟩
  | false =>
   refine .inr ⟨d,?_,fun H=>by have:=Big_ok (σ:=σ) L H; rwa [hb] at this,hg⟩
   unfold bigR bigT at hb
   simp only [Bool.or_eq_false_iff,List.drop_zero] at hb
   have hl:L.length≤40:=by
    have h2:=hb.2
    by_cases h:40<L.length
    ·rw [if_pos h,if_pos hN] at h2; cases h2
    ·omega
   refine ⟨hl,hB,fun n hn=>NdSm.of ?_⟩
   have:=List.any_eq_false.1 hb.1 n (by rw [List.take_of_length_le (by omega)]; exact hn)
   simpa using this
def sigM:Sig:=⟨fun _=>0,fun _=>false,fun _=>⟨#[]⟩,some gMax⟩
theorem sigM_g:sigM.g=some gMax:=rfl
theorem Fit12.rl8 {l:List RL} (h:Fit12 l):Rl8 l:=by
 refine ⟨by have:=h.len; omega,h.sels,fun r hr s hs=>?_⟩
 have:=(h.fit r hr s hs s (by simp)).1
 omega
theorem rw_len {l:List RL} (h:Fit12 l) (k:Key):(rwR k 0 l).length≤1000:=by
 have:=rwR_len k l 0
 have:=sum8 h.sels
 have:=h.len
 omega
theorem front_comp {any:List Sl→Nat→Bool} {L:List Nd} {s:Sl} {i e:Nat} (h:frontB any L s i e=true):∃ p,s[i]?=some p∧compB any L e p.c=true:=by
 cases i with
 | zero =>
  unfold frontB at h
  split at h
  ·rename_i p hp; exact ⟨p,hp,h⟩
  ·cases h
 | succ i =>
  unfold frontB at h
  split at h
  ·rename_i p hp
   rw [Bool.and_eq_true] at h
   exact ⟨p,hp,h.1⟩
  ·cases h
theorem plain_bkt {n:Nd} {c:Cp} (h:plainB n c=true):bktC c n=true:=by
 unfold plainB at h
 simp only [Bool.and_eq_true] at h
 obtain ⟨h1,h2,h3,_⟩:=h
 unfold bktC
 cases hi:c.ids with
 | cons x r =>
  rw [hi,List.all_cons,Bool.and_eq_true] at h2
  have h4:=h2.1
  unfold idB at h4
  simp only [Bool.and_eq_true,Bool.not_eq_true',decide_eq_false_iff_not,decide_eq_true_eq] at h4
  obtain ⟨h5,rfl⟩:=h4
  have h6:n.id≠⟨#[]⟩:=h5
  simp [h6]
 | nil =>
  cases hc:c.classes with
  | cons x r =>
   rw [hc,List.all_cons,Bool.and_eq_true] at h3
   exact h3.1
  | nil =>
   unfold tagB at h1
   simp only [Bool.or_eq_true,decide_eq_true_eq] at h1
   simp only
   split
   ·rfl
   ·rename_i hne
    rcases h1 with h1 | h1
    ·exact absurd h1 hne
    ·simp [h1]
theorem sel_bkt {L:List Nd} {s:Sl} {e:Nat} (h:selB L 11 s (e:Int)=true):bktB s (lowN (ndAt L e))=true:=by
 unfold selB mayAny at h
 simp only [List.any_cons,List.any_nil,Bool.or_false,Int.toNat_natCast,Bool.and_eq_true] at h
 have ha:anyS (anyB L 11) L [s] e=true:=h.2.2
 unfold anyS at ha
 simp only [List.any_cons,List.any_nil,Bool.or_false,Bool.and_eq_true] at ha
 obtain ⟨p,hp,hc⟩:=front_comp ha.2
 unfold compB at hc
 rw [Bool.and_eq_true] at hc
 unfold bktB
 rw [hp]
 exact plain_bkt hc.1
def anyW (L:List Nd) (e:Int) (l:List Sl):Bool:=l.any fun s=>selB L 11 s e
section
attribute [local irreducible] ref9_Tree_Any.L0
theorem RAnyS_ok {L:List Nd} {d:List Nat} (M:McT σ L d) {l:List Sl} (hlen:l.length≤2000000) (hl:∀ s ∈ l,SelOk 11 [s]∧TxL 11 [s]) (e:Int) (H:Hp):Good Tryz.prog σ n_ref9_Tree_Any [refT L d,I e,sls l] H (Bo (anyW L e l)) H:=by
 refine good_by (fun K hK=>ref9_Tree_Any.run ?_) (by simp [noIds,noId,noId_refT,noId_sls]) rfl H
 have L0:∀ (f k:Nat) (H:Hp),l.length - k=f→k≤l.length→(∀ H,K (Bo (anyW L e (l.drop k))) H)→ref9_Tree_Any.L0 σ K (refT L d) (I e) (sls l) (I (k:Int)) H:=by
  intro f
  induction f with
  | zero =>
   intro k H hf hk hK
   have:k=l.length:=by omega
   subst this
   refine ref9_Tree_Any.L0_step ?_
   simp only [len_sls,bnd_some,b_lss,Int.lt_irrefl,decide_false,ifB_lit,Bool.false_eq_true,if_false]
   simpa [anyW] using hK H
  | succ f ih =>
   intro k H hf hk hK
   have hlt:k<l.length:=by omega
   have hlt':(k:Int)<l.length:=by omega
   obtain ⟨s,hs⟩:=get_lt hlt
   have hsm:=List.mem_of_getElem? hs
   have hix:ixaSl 1 (sls l) (I (k:Int))=some (.ip (encSl s)):=ix_map hs
   have ha:anyW L e (l.drop k)=(selB L 11 s e||anyW L e (l.drop (k+1))):=by unfold anyW; rw [drop_get hs,List.any_cons]
   rw [ha] at hK
   refine ref9_Tree_Any.L0_step ?_
   simp only [len_sls,bnd_some,b_lss,hlt',decide_true,ifB_lit,if_true,hix,ld_ip,ldL_sl]
   refine callK_of (rTopSel_ok M (f:=10) (hl s hsm).1 (hl s hsm).2 _ _) ?_
   simp only [ifB_lit]
   cases hb:selB L 11 s e with
   | true=>rw [hb] at hK; simpa using hK H
   | false =>
    rw [hb] at hK
    simp only [Bool.false_eq_true,if_false,b_add,bnd_some]
    rw [wr_succ (by omega)]
    exact ih (k+1) H (by omega) (by omega) (by simpa using hK)
 exact L0 _ 0 _ rfl (Nat.zero_le _) (by simpa using hK)
end
theorem finds_law {L:List Nd} {l:List RL} {e i:Nat} {r:RL} (hr:l[i]?=some r) (h:anyW L (e:Int) r.sels=true):((forR (lowN (ndAt L e)) 0 l).any fun x=>decide (x=(i:Int)))=true:=by
 obtain ⟨s,hs,hb⟩:=List.any_eq_true.1 h
 rw [List.any_eq_true]
 exact ⟨(i:Int),forR_mem.2 ⟨i,r,by rw [Nat.zero_add],hr,s,hs,sel_bkt hb⟩,by simp⟩
theorem fR_len (n:Nd):∀ (l:List RL) (i:Nat),(forR n i l).length≤l.length
 | [],_=>Nat.le_refl _
 | r::l,i=>by
  have:=fR_len n l (i+1)
  unfold forR
  split<;>simp<;>omega
section
attribute [local irreducible] law12_BucketFinds.L0 law12_BucketFinds.L1 law12_BucketFinds.L2
theorem BucketFinds_good (hC:HasC σ) {L:List Nd} (hW:∀ n ∈ L,NdWf n) {m:List RL} (hm:rlsWf m) (hb:bkLL (m.map encRL)≤NB):∃ Hf,Good Tryz.prog σ n_law12_BucketFinds [rls m,nds L] Hp.empty (Bo true) Hf:=by
 refine ⟨Hp.empty,good_by (fun K hK=>law12_BucketFinds.run (callK_of (alive12 _) ?_)) (by simp [noIds]) rfl _⟩
 obtain ⟨much,hd,hfit⟩:=Dear12_ok (σ:=σ) m hm
 refine callK_of (hd _) ?_
 simp only [ifB_lit]
 cases hmu:much with
 | true =>
  simp only [if_true]
  rcases big_new (σ:=σ) L hW with ⟨x,e,hn,_⟩ | ⟨d,_,_,hn⟩
  ·refine callK_of (hn _) ?_
   simp only [x_tup,List.getElem?_cons_zero,List.getElem?_cons_succ,bnd_some,u_not,ifB_lit,Bool.not_true,Bool.false_eq_true,if_false]
   exact hK _
  ·refine callK_of (hn _) ?_
   simp only [x_tup,List.getElem?_cons_zero,List.getElem?_cons_succ,bnd_some,u_not,ifB_lit,Bool.not_true,Bool.false_eq_true,if_false]
   exact hK _
 | false =>
 simp only [Bool.false_eq_true,if_false]
 have hF:=hfit hmu
 rcases big_new (σ:=σ) L hW with ⟨x,e,hn,bb,hbe,hbig⟩ | ⟨d,hT,hbig,hn⟩
 ·refine callK_of (hbig _) (callK_of (hn _) ?_)
  simp only [x_tup,List.getElem?_cons_zero,List.getElem?_cons_succ,bnd_some,u_not,ifB_lit,Bool.not_true,Bool.false_eq_true,if_false]
  cases bb with
  | true=>simp only [if_true]; exact hK _
  | false =>
   have he:e≠0:=by rcases hbe with h | h; cases h; exact h
   simp only [Bool.false_eq_true,if_false,b_neq,bnd_some,he,decide_false,Bool.not_false,ifB_lit,if_true]
   exact hK _
 refine callK_of (hbig _) (callK_of (hn _) ?_)
 simp only [x_tup,List.getElem?_cons_zero,List.getElem?_cons_succ,bnd_some,u_not,ifB_lit,Bool.not_true,Bool.false_eq_true,if_false,b_neq,decide_true]
 have M:=hT.mc hC
 have hl40:=hT.len
 have hml:=hF.len
 have hrs:=rules_ok hm hF hb
 refine BNew_sp m hF.rl8 (fun j _=>by simp [Hp.empty,Hp.get,Tr.get]) fun H1 b hB u1=>?_
 have hBl:=fun k=>rw_len hF k
 have L0:∀ (f i:Nat) (H:Hp) (y11 y12 y13 y14 y15:AV),L.length - i=f→i≤L.length→Bk Hp.empty.n H b (fun k=>rwR k 0 m) (cntR m)→law12_BucketFinds.L0 σ K (rls m) (nds L) (refT L d) (.ptr b 0) (I (i:Int)) y11 y12 y13 y14 y15 H:=by
  intro f
  induction f with
  | zero =>
   intro i H y11 y12 y13 y14 y15 hf hi hB
   have:i=L.length:=by omega
   subst this
   refine law12_BucketFinds.L0_step ?_
   simp only [len_nds,bnd_some,b_lss,Int.lt_irrefl,decide_false,ifB_lit,Bool.false_eq_true,if_false]
   exact hK _
  | succ f ih =>
   intro i H y11 y12 y13 y14 y15 hf hi hB
   have hlt:(i:Int)<(L.length:Int):=by omega
   have hil:i<L.length:=by omega
   refine law12_BucketFinds.L0_step ?_
   simp only [len_nds,bnd_some,b_lss,hlt,decide_true,ifB_lit,if_true]
   refine callK_of (rNode_ok L d hil _) ?_
   have hcl:(lowN (ndAt L i)).classes.length≤50:=by
    have hmem:ndAt L i ∈ L:=by
     unfold ndAt
     rw [List.getD_eq_getElem?_getD,List.getElem?_eq_getElem hil]
     exact List.getElem_mem _
    have:=(hT.sm _ hmem).classes
    show (ndAt L i).classes.length≤50
    omega
   obtain ⟨H2,hgood,hle⟩:=MFor_run (σ:=σ) hB hBl (lowN (ndAt L i)) hcl
   refine callK_of hgood ?_
   rw [for_eq]
   have hB2:Bk Hp.empty.n (H.up H2.n) b (fun k=>rwR k 0 m) (cntR m):=hB.mono ⟨hle,fun j _=>rfl⟩ (fun j hj=>by rw [up_get]; exact hB.ok j (by rw [up_n] at hj; omega))
   have hfl:=fR_len (lowN (ndAt L i)) m 0
   have hlaw:∀ (k:Nat) (r:RL),m[k]?=some r→anyW L (i:Int) r.sels=true→((forR (lowN (ndAt L i)) 0 m).any fun x=>decide (x=(k:Int)))=true:=fun k r hr h=>finds_law hr h
   generalize forR (lowN (ndAt L i)) 0 m=fs at hfl hlaw ⊢
   generalize H.up H2.n=HB at hB2 ⊢
   have L1:∀ (g k:Nat) (y13 y14 y15:AV),m.length - k=g→k≤m.length→law12_BucketFinds.L1 σ K (rls m) (nds L) (refT L d) (.ptr b 0) (I (i:Int)) (intz fs) (I (k:Int)) y13 y14 y15 HB:=by
    intro g
    induction g with
    | zero =>
     intro k y13 y14 y15 hg hk
     have:k=m.length:=by omega
     subst this
     refine law12_BucketFinds.L1_step ?_
     simp only [len_rls,bnd_some,b_lss,Int.lt_irrefl,decide_false,ifB_lit,Bool.false_eq_true,if_false,b_add]
     rw [wr_succ (by omega)]
     exact ih (i+1) HB _ _ _ _ _ (by omega) (by omega) hB2
    | succ g ihg =>
     intro k y13 y14 y15 hg hk
     have hkl:k<m.length:=by omega
     have hkl':(k:Int)<m.length:=by omega
     obtain ⟨r,hr⟩:=get_lt hkl
     have hrm:=List.mem_of_getElem? hr
     have hix:ixaSl 2 (rls m) (I (k:Int))=some (.ip (encRL r)):=ix_map hr
     have f0:ldL false 1 ((encRL r).drop 0)=some (sls r.sels):=rfl
     refine law12_BucketFinds.L1_step ?_
     simp only [len_rls,bnd_some,b_lss,hkl',decide_true,ifB_lit,if_true,hix,sh_ip,ld_ip,f0]
     refine callK_of (RAnyS_ok M (by have:=hF.sels r hrm; omega) (fun s hs=>(hrs r hrm s hs).2.2) _ _) ?_
     have hlk:=hlaw k r hr
     generalize anyW L (i:Int) r.sels=ok at hlk ⊢
     have L2:∀ (h j:Nat) (T:Bool),fs.length - j=h→j≤fs.length→(T||(fs.drop j).any fun x=>decide (x=(k:Int)))=(fs.any fun x=>decide (x=(k:Int)))→law12_BucketFinds.L2 σ K (rls m) (nds L) (refT L d) (.ptr b 0) (I (i:Int)) (intz fs) (I (k:Int)) (Bo ok) (Bo T) (I (j:Int)) HB:=by
      intro h
      induction h with
      | zero =>
       intro j T hh hj hT1
       have:j=fs.length:=by omega
       subst this
       rw [List.drop_length] at hT1
       have hT2:T=(fs.any fun x=>decide (x=(k:Int))):=by rw [← hT1]; simp
       refine law12_BucketFinds.L2_step ?_
       simp only [len_intz,bnd_some,b_lss,Int.lt_irrefl,decide_false,ifB_lit,Bool.false_eq_true,if_false,u_not]
       cases ok with
       | true =>
        have:T=true:=by rw [hT2]; exact hlk rfl
        subst this
        simp only [if_true,Bool.not_true,Bool.false_eq_true,if_false,b_add,bnd_some]
        rw [wr_succ (by omega)]
        exact ihg (k+1) _ _ _ (by omega) (by omega)
       | false =>
        simp only [Bool.false_eq_true,if_false,b_add,bnd_some]
        rw [wr_succ (by omega)]
        exact ihg (k+1) _ _ _ (by omega) (by omega)
      | succ h ihh =>
       intro j T hh hj hT1
       have hjl:j<fs.length:=by omega
       have hjl':(j:Int)<fs.length:=by omega
       obtain ⟨x,hx⟩:=get_lt hjl
       have hixz:ixaSl 1 (intz fs) (I (j:Int))=some (.ip [I x]):=ix_map hx
       have lx:ldL false 1 [I x]=some (I x):=rfl
       rw [drop_get hx,List.any_cons] at hT1
       refine law12_BucketFinds.L2_step ?_
       simp only [len_intz,bnd_some,b_lss,hjl',decide_true,ifB_lit,if_true]
       cases T with
       | true =>
        simp only [if_true,b_add,bnd_some]
        rw [wr_succ (by omega)]
        exact ihh (j+1) true (by omega) (by omega) (by simpa using hT1)
       | false =>
        simp only [Bool.false_eq_true,if_false,hixz,bnd_some,ld_ip,lx,b_eql,b_add]
        rw [wr_succ (by omega)]
        exact ihh (j+1) _ (by omega) (by omega) (by simpa using hT1)
     exact L2 _ 0 false rfl (Nat.zero_le _) (by simp)
   exact L1 _ 0 _ _ _ rfl (Nat.zero_le _)
 exact L0 _ 0 _ _ _ _ _ _ rfl (Nat.zero_le _) hB
end
theorem BucketFinds_walk {H:Type} {enc:TypeId × Value→H} (W:World) (hsh:W.ShapedOpen Tryz.prog) {v0 v1:Value} {r:Reach} {b0 base:Nat} {spare:Nat→Bool} {held:Bool} {d0 d1:DataW H} {p0 p1:List MemPlace}
  (e0:Value.okWide Tryz.prog W r b0 T_sl_api_Rule v0) (h0:DataW.Trod enc Tryz.prog W base spare held T_sl_api_Rule v0 d0 p0) (w0:∀ n ∈ d0.weights Tryz.prog T_sl_api_Rule,n≤reachBytes)
  (e1:Value.okWide Tryz.prog W r b0 T_sl_api_Node v1) (h1:DataW.Trod enc Tryz.prog W base spare held T_sl_api_Node v1 d1 p1) (w1:∀ n ∈ d1.weights Tryz.prog T_sl_api_Node,n≤reachBytes)
  (hk:bulkDs [d0,d1]≤1048576) :
  Calls Tryz.prog n_law12_BucketFinds #[v0,v1] W fun e W'=>e=.returned (.bool true)∧Below W.heap.size W W':=by
 obtain ⟨x0,r0,s0,k0⟩:=read_argB (P:=Tryz.prog) (ti:=tiT.get) (S:=readR) (t:=T_sl_api_Rule) (σ:=sigM) tiT_ok readR_closed (inB_mem (by kernel_rfl)) e0 h0 w0
 obtain ⟨x1,r1,s1⟩:=read_arg (P:=Tryz.prog) (ti:=tiT.get) (S:=readR) (t:=T_sl_api_Node) (σ:=sigM) tiT_ok readR_closed (inB_mem (by kernel_rfl)) e1 h1 w1
 obtain ⟨l,rfl,hl⟩:=v_rules s0
 obtain ⟨a,rfl,ha,_⟩:=v_nodes s1
 simp only [bulkDs] at hk
 rw [bk_rls] at k0
 obtain ⟨Hf,hg⟩:=BucketFinds_good (hasC sigM_g) ha hl (by show _≤1048576; omega)
 exact law_of_good (relL2 r0 r1) hg (gMax_ok W hsh sigM_g)
end Go.Proofs.YtaoegkmfgfefgaaGreat.Ev
