/- The walks, part 8: the evaluator, the functions, the laws. Conditions: none. -/
import Derived.Shelf.LaysM
import Derived.Shelf.Strings.Search1
import Derived.Shelf.Strings.Search2
import Derived.Shelf.Strings.Search3
import Derived.Shelf.Strings.Shaped
import Derived.JoinedCond
import Derived.SizedLaws
import Derived.Shelf.Sort.Plain
import Derived.Shelf.Slices.CompactI
import Derived.Shelf.Slices.In.SortNone
import Derived.Shelf.Spec.SlicesGrow
import Derived.Test.YthdcghnjndhecaaGreatProg
import Derived.Test.YthdcghnjndhecaaGreatZ7
namespace Go.Proofs.YthdcghnjndhecaaGreat.Ev
open Go.Shelf Go.Proofs
def df:Ren :=
{
 f:=fun x =>
  match x with
  | 144=>196
  | 143=>200
  | 219=>203
  | 217=>204
  | 225=>205
  | 224=>206
  | 267=>207
  | 266=>208
  | 314=>209
  | n=>n,
 t:=fun x =>
  match x with
  | 9=>9
  | 4=>4
  | 3=>3
  | 5=>5
  | 46=>183
  | 146=>259
  | 51=>178
  | n=>n,
 g:=fun x =>
  match x with
  | 1=>0
  | n=>n }
theorem xj:LaysM.n144 Tryz.prog df :=
{ mixed:=by kernel_rfl,f143:=Eq.trans Tryz.func200 (congrArg some (Eq.refl (Body.n143 df))),
  f144:=Eq.trans Tryz.func196 (congrArg some (Eq.refl (Body.n144 df))),
  f217:=Eq.trans Tryz.func204 (congrArg some (Eq.refl (Body.n217 df))),
  f219:=Eq.trans Tryz.func203 (congrArg some (Eq.refl (Body.n219 df))),
  f224:=Eq.trans Tryz.func206 (congrArg some (Eq.refl (Body.n224 df))),
  f225:=Eq.trans Tryz.func205 (congrArg some (Eq.refl (Body.n225 df))),
  f266:=Eq.trans Tryz.func208 (congrArg some (Eq.refl (Body.n266 df))),
  f267:=Eq.trans Tryz.func207 (congrArg some (Eq.refl (Body.n267 df))),
  f314:=Eq.trans Tryz.func209 (congrArg some (Eq.refl (Body.n314 df))),t3:=Tryz.underlying3,
  a3:=Tryz.isAgg3,z3:=Tryz.sizeOf3,v3:=Tryz.zeroValue3,t4:=Tryz.underlying4,a4:=Tryz.isAgg4,
  z4:=Tryz.sizeOf4,v4:=Tryz.zeroValue4,t5:=Tryz.underlying5,a5:=Tryz.isAgg5,z5:=Tryz.sizeOf5,
  v5:=Tryz.zeroValue5,t9:=Tryz.underlying9,a9:=Tryz.isAgg9,z9:=Tryz.sizeOf9,v9:=Tryz.zeroValue9,
  t46:=Tryz.underlying183,a46:=Tryz.isAgg183,z46:=Tryz.sizeOf183,v46:=Tryz.zeroValue183,
  t51:=Tryz.underlying178,a51:=Tryz.isAgg178,z51:=Tryz.sizeOf178,v51:=Tryz.zeroValue178,
  t146:=Tryz.underlying259,a146:=Tryz.isAgg259,z146:=Tryz.sizeOf259,v146:=Tryz.zeroValue259,
  g1:=by kernel_rfl,i3:=by kernel_rfl,
  i4:=by kernel_rfl,i5:=by kernel_rfl,
  i9:=by kernel_rfl,
  i46:=by kernel_rfl,
  i51:=by kernel_rfl,
  i146:=by kernel_rfl,
  m1:=by kernel_rfl,
  s1_3:=fun w h=>Go.Proofs.cell_of_shapedOpen_int h (zero:=#[Go.Value.int Go.IntKind.i64 0]) (t:=3) (of_decide_eq_true (by kernel_rfl)) (by kernel_rfl) rfl (by kernel_rfl) (by kernel_rfl) Tryz.underlying3 }
def D9:Nat:=df.g 1
theorem TC {σ:Sig} (hg:σ.g=some D9):qB σ:=by
 intro s t H hs
 refine ⟨⟨_,Tryz.func196,by kernel_rfl,by kernel_rfl⟩,fun B w0 E w vs hσ hst hx=>?_⟩
 obtain ⟨_,m,hm⟩:=hst.glNow D9 (by rw [hσ]; exact hg)
 have hl:=hx.len
 obtain ⟨v0,v1,rfl⟩:∃ v0 v1,vs=#[v0,v1]:=by
  obtain ⟨l⟩:=vs
  match l,hl with
  | [a,b],_=>exact ⟨a,b,rfl⟩
 have r0:=hx.at_ 0 _ v0 rfl (by simp)
 have r1:=hx.at_ 1 _ v1 rfl (by simp)
 cases r0
 cases r1
 refine (Any.strings_Contains (ρ:=df) { xj with } s t m w hs hm).mono fun e w' he=>?_
 obtain ⟨rfl,rfl⟩:=he
 exact ⟨E,_,rfl,.refl E,hst,.lit _⟩
theorem N4 (W:World) (h:W.ShapedOpen Tryz.prog) {σ:Sig} (hg:σ.g=some D9):∀ g,σ.g=some g→∃ m:Int,W.cell? ⟨g,0,none⟩=some (.int .i64 m):=by
 intro g hg'
 rw [hg] at hg'
 cases hg'
 exact xj.s1_3 W h
end Go.Proofs.YthdcghnjndhecaaGreat.Ev
namespace Go.Proofs.YthdcghnjndhecaaGreat.Ev
section
variable {H:Type} {enc:TypeId × Value→H}
theorem jq {a:Assume} {C:Checked} {os:Os} {f:FuncId} {fn:Func} {s:OpenSpec} {k:(H:Type)→List (DataW H)→Bool} (hk:s.cond=some k) {F:Stop.Interp} {conds:List PathCond} {apart fresh handsOn again:Bool}
  (own:ownKnob C.prog.godebug=none) (started:os.Started) (noInit:C.prog.inits.idxOf? f=none) (hfn:C.prog.funcs[f]?=some fn)
  (witness:∃ (w:World) (tape:Tape) (i:Input),w.os=os∧(w.forCall tape i).Shaped C.prog∧i.vars=[]∧Input.okWide C.prog (w.forCall tape i) .any w.heap.size f i ∧
   s.pre6 enc C.prog fn conds apart (w.forCall tape i).memory i.args∧a.holds C.prog (lone (Frame.enter C.prog f i.args .normal) [] (w.forCall tape i)))
  (contract:∀ (W:World) (base:Nat) (args:Array Value) (ds gs:List (DataW H)) (dA:List MemPlace),
   (∀ (j:Nat) t v,fn.params[j]?=some t→args[j]?=some v→Value.okWide C.prog W .any base t v) →
   DataW.Whole enc C.prog fn.params.toList s.vars apart W args.toList ds gs dA →
   conds.all (PathCond.test C.prog ⟨fn.params.toList,ds,s.bare.plain.varTypes C.prog,gs⟩)=true→k H (ds++gs)=true →
   (DataW.weightsEach C.prog (fn.params.toList++s.bare.plain.varTypes C.prog) (ds++gs)).all (·≤reachBytes)=true →
   W.ShapedOpen C.prog →
   a.holds C.prog (lone (Frame.enter C.prog f args .normal) [] W) →
   Calls C.prog f args W fun e W'=>∃ v,e=.returned v∧(s.at F).post enc C.prog fn apart fresh handsOn again W args v W') :
  ReturnsInHanded a C os f .any (s.pre6 enc C.prog fn conds apart) ((s.at F).post enc C.prog fn apart fresh handsOn again):=by
 refine returnsInHanded_of_calls own started noInit witness ?_
 intro w tape i _ hsh _ hok hpre hholds
 obtain ⟨_,_,_,fn',hfn',_,_,_,_,hval⟩:=hok
 have e:fn'=fn:=Option.some.inj (hfn'.symm.trans hfn)
 subst e
 obtain ⟨ds,gs,dA,hw,hc,hkk⟩:=(OpenSpec.pre_some hk conds apart _ _).1 hpre.1
 have hw':=DataW.Whole.of_heap (w':=w.forCall tape i) (by rfl) hw
 refine (contract (w.forCall tape i) w.heap.size i.args ds gs dA hval hw' hc hkk (hpre.2.weights hw) hsh hholds).mono fun e W' ⟨v,he,hp⟩=>?_
 subst he
 exact ChangeSpec.post_blind hp
end
end Go.Proofs.YthdcghnjndhecaaGreat.Ev
namespace Go.Proofs.YthdcghnjndhecaaGreat.Ev
open Go.RowKit
set_option linter.unusedVariables false
set_option linter.unusedSimpArgs false
set_option maxRecDepth 100000
variable {σ:Sig}
theorem uK.low {n:Nd} (h:uK n):SmN (bv n):=by
 have r:reachBytes=140737488351232:=rfl
 refine ⟨by have:=h.classes; show n.classes.length≤_; omega,by have:=h.attrs; show (n.attrs.map jP).length≤_; rw [List.length_map]; omega,fun p hp=>?_⟩
 obtain ⟨q,hq,rfl⟩:=List.mem_map.1 hp
 have:=(h.at' q hq).2
 show q.2.data.size<_
 omega
theorem rS.smN {L:List Nd} {d:List Nat} (h:rS L d):∀ e,e<L.length→SmN (bv (bV L e)):=by
 intro e he
 refine (h.sm _ ?_).low
 unfold bV
 rw [List.getD_eq_getElem?_getD,List.getElem?_eq_getElem he]
 exact List.getElem_mem _
theorem rS.mc {L:List Nd} {d:List Nat} (h:rS L d) (hC:qB σ):McT σ L d:=⟨hC,h.hB,by have:=h.len; omega,h.smN⟩
def Nu:Sig:=⟨fun _=>0,fun _=>false,fun _=>⟨#[]⟩,some D9⟩
theorem EL:Nu.g=some D9:=rfl
theorem zf {P:Program} {σ:Sig} {f:Nat} {xs ys:List AV} {H:Hp} {K:AV→Hp→Prop} (hx:FzL H ys xs) (h:av P σ f xs (Hp.bare H.n) K):av P σ f ys H K:=by
 obtain ⟨r,H1,hg,hk⟩:=h
 exact ⟨r,H1,au.conv (Wk.frz (H2:=Hp.bare H.n) (Hd:=H) rfl rfl (fun id k hk=>⟨hk,by simp⟩) (fun id k2 hk=>by simp at hk) hx.t) hg,hk⟩
theorem RN {l:List Sl} (hl:kI c6 l) (hf:o0 11 l) (hb:eE (l.map aH)≤NB):o3 l:=by
 have hll:l.length≤eE (l.map aH):=oA fun s _=>by rw [wU]; omega
 refine ⟨by have hN:NB=1048576:=rfl; omega,fun s hs=>?_,hl.2,hf⟩
 have h1:=pE (f:=aH) hs
 have hN:NB=1048576:=rfl
 refine xP ⟨by show 1≤c6; decide,fun s' h=>by rw [List.mem_singleton.1 h]; exact hl.2 s hs⟩ (fun s' h=>by rw [List.mem_singleton.1 h]; exact hf s hs) ?_
 simp only [List.map_cons,List.map_nil,eE]
 omega
theorem Rk {m:List RL} (hm:ve m) (hF:sw m) (hb:eE (m.map d8)≤NB):∀ r ∈ m,o3 r.sels∧r.sets.length≤30:=fun r hr =>
 ⟨⟨by have:=hF.sels r hr; omega,fun s hs=>(xN hm hF hb r hr s hs).2.2,fun s hs=>(xN hm hF hb r hr s hs).1,fun s hs=>hF.fit r hr s hs s (by simp)⟩,hF.sets r hr⟩
theorem TM {o:List Int} (h:o.length=16):oG (List.replicate 16 (.int .i64)) .neq (.agg (o.map I)) (.agg (o.map I))=some (Bo false):=by
 match o,h with
 | [a0,a1,a2,a3,a4,a5,a6,a7,a8,a9,a10,a11,a12,a13,a14,a15],_=>simp [oG,fw,AV.cells,eqC,tfB,List.replicate]
theorem yO {L:List Nd} {e:Int}:∀ {m:List RL} {s:Wn},s.Ok→(m.foldl (iI L e) s).Ok
 | [],s,h=>h
 | r::m,s,h=>by
  rw [List.foldl_cons]
  refine yO ?_
  unfold iI
  split
  ·have:∀ (q:List ST) (s:Wn),s.Ok→(q.foldl (iO (dx L e r.sels (0,false)).1) s).Ok:=by
    intro q
    induction q with
    | nil=>intro s h; exact h
    | cons x q ih=>intro s h; exact ih _ (pT h)
   exact this _ _ h
  ·exact h
theorem xF (L:List Nd) (e:Int) (m:List RL):(ln L e m).o.length=16:=(yO (s:=wn0) ⟨rfl,rfl,rfl⟩).o
end Go.Proofs.YthdcghnjndhecaaGreat.Ev
namespace Go.Proofs.YthdcghnjndhecaaGreat.Ev
set_option linter.unusedVariables false
set_option linter.unusedSimpArgs false
set_option maxRecDepth 100000
set_option maxHeartbeats 4000000
variable {σ:Sig}
def TV (k:Sk) (o:Option (AV × Hp)):Option AV:=match o with
 | some (r,H)=>zp H k r
 | none=>none
theorem kP {f:Nat} {xs:List AV} {L d:Nat} {k:Sk} {y:AV} (hx:aK xs=true) (h:TV k (evF (CZ σ) fnT.get Jw L d f xs Hp.empty)=some y) (H:Hp):au Tryz.prog σ f xs H y H:=by
 cases he:evF (CZ σ) fnT.get Jw L d f xs Hp.empty with
 | none=>rw [he] at h; cases h
 | some p =>
  obtain ⟨r,H'⟩:=p
  have hg:=zG (CZ σ) mixed AX vL L d f xs Hp.empty r H' he
  rw [he] at h
  exact hg.frzR hx (pN _ _ _ h) H
theorem Fz.tupL {H:Hp} {xs ys:List AV} (h:FzL H xs ys):Fz H (.tup xs) (.tup ys):=by
 have hget:=h.get
 refine .tup hget.1 fun j x y hx hy=>?_
 obtain ⟨x',hx',hf⟩:=hget.2 j y hy
 rw [hx] at hx'
 cases hx'
 exact hf
def R9 (ks:List Sk) (o:Option (AV × Hp)):Option (List AV):=match o with
 | some (.tup xs,H)=>frzR H ks xs
 | _=>none
theorem BB {f:Nat} {xs:List AV} {L d:Nat} {ks:List Sk} {ys:List AV} (hx:aK xs=true) (h:R9 ks (evF (CZ σ) fnT.get Jw L d f xs Hp.empty)=some ys) (H:Hp):au Tryz.prog σ f xs H (.tup ys) H:=by
 cases he:evF (CZ σ) fnT.get Jw L d f xs Hp.empty with
 | none=>rw [he] at h; cases h
 | some p =>
  obtain ⟨r,H'⟩:=p
  have hg:=zG (CZ σ) mixed AX vL L d f xs Hp.empty r H' he
  rw [he] at h
  cases r<;>first | (cases h; done) | skip
  exact hg.frzR hx (Fz.tupL (oP _ _ _ h)) H
def byt (l:List Int):AV:=.imm 1 (l.map fun n=>[.lit (.int .u8 n)])
def pts (l:List Int):AV:=.imm 1 (l.map fun n=>[I n])
theorem JU (l:List Int):bt (byt l)=true:=by unfold byt; simp only [bt]; exact bC _ (fun _=>rfl) l
def tk (k:Int) (s:ByteArray) (n:Int):List AV:=[I k,.lit (.string s),I n,Bo false,I 0]
def tks (l:List (Int × ByteArray × Int)):AV:=.imm 5 (l.map fun p=>tk p.1 p.2.1 p.2.2)
def sA:Sl:=[.mk 0 (.mk ⟨#[97]⟩ [] [] [] [])]
def alR:List RL:=[⟨[sA],[⟨4,2,1000,false⟩]⟩,⟨[sA],[⟨4,2,2000,false⟩]⟩]
def alT:List Int:=[97,123,119,105,100,116,104,58,49,112,120,125,97,123,119,105,100,116,104,58,50,112,120,125]
def alP:List (Int × ByteArray × Int):=[(1,⟨#[97]⟩,0)]
def alD (n:Int):List (Int × ByteArray × Int):=[(1,⟨#[119,105,100,116,104]⟩,0),(11,emp,0),(8,⟨#[112,120]⟩,n)]
def alK:List (Int × ByteArray × Int):=alP++(14,emp,0)::alD 1000++(15,emp,0)::alP++(14,emp,0)::alD 2000++[(15,emp,0)]
def skT:Sk:=.sl 5 [.same,.same,.same,.same,.same]
theorem L8 (H:Hp):au Tryz.prog σ oz [byt alT] H (pts alT) H :=
 kP (k:=.sl 1 [.same]) (L:=1000) (d:=60) rfl (by kernel_rfl) H
theorem Pq (H:Hp):au Tryz.prog σ pa [pts alT] H (tks alK) H :=
 kP (k:=skT) (L:=1000) (d:=60) rfl (by kernel_rfl) H
theorem PK (H:Hp):au Tryz.prog σ qp [tks alK] H (.imm 2 [[tks alP,tks (alD 1000)],[tks alP,tks (alD 2000)]]) H :=
 kP (k:=.sl 2 [skT,skT]) (L:=1000) (d:=60) rfl (by kernel_rfl) H
theorem JW (H:Hp):au Tryz.prog σ mE [tks alP] H (.tup [sls [sA],Bo true]) H :=
 BB (ks:=[SK 1,.same]) (L:=1000) (d:=60) rfl (by kernel_rfl) H
theorem Nb (H:Hp):au Tryz.prog σ m7 [tks (alD 1000)] H (.imm 3 [[.lit (.string ⟨#[119,105,100,116,104]⟩),tks [(8,⟨#[112,120]⟩,1000)],Bo false]]) H :=
 kP (k:=.sl 3 [.same,skT,.same]) (L:=1000) (d:=60) rfl (by kernel_rfl) H
theorem Nn (H:Hp):au Tryz.prog σ m7 [tks (alD 2000)] H (.imm 3 [[.lit (.string ⟨#[119,105,100,116,104]⟩),tks [(8,⟨#[112,120]⟩,2000)],Bo false]]) H :=
 kP (k:=.sl 3 [.same,skT,.same]) (L:=1000) (d:=60) rfl (by kernel_rfl) H
theorem Oi (H:Hp):au Tryz.prog σ nY [.imm 3 [[.lit (.string ⟨#[119,105,100,116,104]⟩),tks [(8,⟨#[112,120]⟩,1000)],Bo false]]] H (.imm 4 [dk ⟨4,2,1000,false⟩]) H :=
 kP (k:=.sl 4 [.same,.same,.same,.same]) (L:=1000) (d:=60) rfl (by kernel_rfl) H
theorem N0 (H:Hp):au Tryz.prog σ nY [.imm 3 [[.lit (.string ⟨#[119,105,100,116,104]⟩),tks [(8,⟨#[112,120]⟩,2000)],Bo false]]] H (.imm 4 [dk ⟨4,2,2000,false⟩]) H :=
 kP (k:=.sl 4 [.same,.same,.same,.same]) (L:=1000) (d:=60) rfl (by kernel_rfl) H
theorem FP (H:Hp):au Tryz.prog σ iQ [byt alT] H (rls alR) H:=by
 suffices h:∃ r H1,au Tryz.prog σ iQ [byt alT] Hp.empty r H1∧Fz H1 r (rls alR) by
  obtain ⟨r,H1,hg,hf⟩:=h
  exact hg.frzR (by simp [aK,JU]) hf H
 refine bX.run ?_
 refine c7 rfl ?_
 refine c7 rfl ?_
 simp only [ai,Bool.false_eq_true,if_false]
 refine ak (L8 _) (ak (Pq _) (ak (PK _) ?_))
 refine bX.L0_step ?_
 iterate 2 refine c7 rfl ?_
 simp only [ai,if_true]
 iterate 3 refine c7 rfl ?_
 refine ak (JW _) ?_
 iterate 2 refine c7 rfl ?_
 simp only [ai,if_true]
 iterate 3 refine c7 rfl ?_
 refine ak (Nb _) (ak (Oi _) ?_)
 iterate 3 refine c7 rfl ?_
 refine bX.J1_step ?_
 refine c7 rfl ?_
 refine bX.L0_step ?_
 iterate 2 refine c7 rfl ?_
 simp only [ai,if_true]
 iterate 3 refine c7 rfl ?_
 refine ak (JW _) ?_
 iterate 2 refine c7 rfl ?_
 simp only [ai,if_true]
 iterate 3 refine c7 rfl ?_
 refine ak (Nn _) (ak (N0 _) ?_)
 iterate 3 refine c7 rfl ?_
 refine bX.J1_step ?_
 refine c7 rfl ?_
 refine bX.L0_step ?_
 iterate 2 refine c7 rfl ?_
 simp only [ai,Bool.false_eq_true,if_false]
 exact pN (.sl 2 [.same,.same]) _ _ (by kernel_rfl)
end Go.Proofs.YthdcghnjndhecaaGreat.Ev
namespace Go.Proofs.YthdcghnjndhecaaGreat.Ev
set_option linter.unusedVariables false
set_option linter.unusedSimpArgs false
set_option maxRecDepth 100000
variable {σ:Sig}
def alL:List Nd:=[⟨-1,⟨#[97]⟩,emp,[],[]⟩]
theorem alB:cQ alL alL.length [0]:=cQ.first (by decide) rfl
theorem alW:∀ n ∈ alL,lX n:=by
 intro n hn
 rw [List.mem_singleton.1 hn]
 exact ⟨by unfold i64; decide,by decide,by decide,by decide,by intro p hp; cases hp⟩
theorem TQ:∀ e,e<alL.length→SmN (bv (bV alL e)):=by
 intro e he
 have:e=0:=by simp [alL] at he; omega
 subst this
 exact ⟨by decide,by decide,by intro p hp; cases hp⟩
theorem alM (hC:qB σ):McT σ alL [0]:=⟨hC,alB,by decide,TQ⟩
theorem Sv:kI c6 [sA]:=by
 refine ⟨by decide,fun s hs=>?_⟩
 rw [List.mem_singleton.1 hs]
 refine ⟨by decide,fun p hp=>?_⟩
 rw [List.mem_singleton.1 hp,Pt.wf_iff]
 exact ⟨by unfold i64; decide,by decide,⟨by decide,fun s h=>by cases h⟩,⟨by decide,fun s h=>by cases h⟩,by decide,(fun s h=>by cases h),by decide,fun q hq=>by cases hq⟩
theorem P6:o0 11 [sA]:=by
 intro s hs
 rw [List.mem_singleton.1 hs]
 refine ⟨by decide,fun p hp=>?_⟩
 rw [List.mem_singleton.1 hp]
 exact ⟨by unfold zg; decide,fun q hq=>by cases hq⟩
theorem Qc:∀ r ∈ alR,o3 r.sels∧r.sets.length≤30:=by
 have h:o3 [sA]:=RN Sv P6 (by decide)
 intro r hr
 simp only [alR,List.mem_cons,List.not_mem_nil,or_false] at hr
 rcases hr with rfl | rfl<;>exact ⟨h,by decide⟩
theorem QQ:(ln alL 0 alR).o=[0,0,0,0,0,0,0,0,2,2000,0,0,0,0,0,0]:=by kernel_rfl
theorem On (hC:qB σ) (H:Hp):au Tryz.prog σ jJ [] H (Bo true) H:=by
 refine bg (fun K hK=>nJ.run ?_) rfl rfl H
 refine c7 rfl ?_
 refine c7 rfl ?_
 refine zf (xs:=[byt alT]) (.cons (pN (.sl 1 [.same]) _ _ (by kernel_rfl)) .nil) ?_
 refine ak (FP _) ?_
 refine c7 rfl ?_
 refine c7 rfl ?_
 refine ak (au.drop (fun H=>vh alB alW (by decide) H) (.cons (pN Sg _ _ (by kernel_rfl)) .nil)) ?_
 simp only [qc,List.getElem?_cons_zero,List.getElem?_cons_succ,aa]
 refine ak (xu (alM hC) Qc (by decide) 0 _) ?_
 rw [QQ]
 simp only [bA]
 iterate 5 refine c7 rfl ?_
 exact hK _
end Go.Proofs.YthdcghnjndhecaaGreat.Ev
namespace Go.Proofs.YthdcghnjndhecaaGreat.Ev
open Go.RowKit
set_option linter.unusedVariables false
set_option linter.unusedSimpArgs false
set_option maxRecDepth 100000
variable {σ:Sig}
section
end
end Go.Proofs.YthdcghnjndhecaaGreat.Ev
namespace Go.Proofs.YthdcghnjndhecaaGreat.Ev
open Go.RowKit
set_option linter.unusedVariables false
set_option linter.unusedSimpArgs false
set_option maxRecDepth 100000
variable {σ:Sig}
structure Top (p:Nat) (k n:Int) (s:Wn):Prop where
 ok:s.Ok
 t:s.t.getD p false=true
 w:s.w.getD p 0=1073741824
 k:s.o.getD (p*2) 0=k
 n:s.o.getD (p*2+1) 0=n
theorem gJ {α:Type} {l:List α} {i j:Nat} {x d:α} (h:i≠j):(l.set i x).getD j d=l.getD j d:=by
 simp only [List.getD_eq_getElem?_getD,List.getElem?_set_ne h]
theorem wS {α:Type} {l:List α} {i:Nat} {x d:α} (h:i<l.length):(l.set i x).getD i d=x:=by
 simp only [List.getD_eq_getElem?_getD,List.getElem?_set_self h,Option.getD_some]
theorem Top.set {p:Nat} {k n w:Int} {s:Wn} {q:ST} (h:Top p k n s) (hi:q.imp=false) (hw:w≤16777215):Top p k n (iO w s q):=by
 have hok:=pT (w:=w) (q:=q) h.ok
 unfold iO at hok ⊢
 rw [hi] at hok ⊢
 simp only [Bool.false_eq_true,if_false] at hok ⊢
 split at hok
 ·rename_i h1
  rw [if_pos h1]; exact h
 rename_i h1
 rw [if_neg h1]
 split at hok
 ·rename_i h2
  rw [if_pos h2]; exact h
 rename_i h2
 rw [if_neg h2]
 have hne:q.prop.toNat≠p:=by
  intro e
  rw [e,h.t,h.w] at h2
  exact h2 ⟨rfl,by omega⟩
 refine ⟨hok,?_,?_,?_,?_⟩
 ·simp only [gJ hne]; exact h.t
 ·simp only [gJ hne]; exact h.w
 ·simp only [gJ (show q.prop.toNat*2+1≠p*2 by omega),gJ (show q.prop.toNat*2≠p*2 by omega)]; exact h.k
 ·simp only [gJ (show q.prop.toNat*2+1≠p*2+1 by omega),gJ (show q.prop.toNat*2≠p*2+1 by omega)]; exact h.n
theorem Fz.mono {H H':Hp} (hm:∀ id k,H.get id=some k→H'.get id=some k) {x y:AV} (h:Fz H x y):Fz H' x y:=by
 induction h with
 | refl h=>exact .refl h
 | nil=>exact .nil
 | se=>exact .se
 | emp=>exact .emp
 | sl val hg hl hsz hc hf ih=>exact .sl val (hm _ _ hg) hl hsz hc ih
 | ptr val hg hc hf ih=>exact .ptr val (hm _ _ hg) hc ih
 | agg hl hf ih=>exact .agg hl ih
 | tup hl hf ih=>exact .tup hl ih
theorem FzL.mono {H H':Hp} (hm:∀ id k,H.get id=some k→H'.get id=some k) {xs ys:List AV} (h:FzL H xs ys):FzL H' xs ys:=by
 induction h with
 | nil=>exact .nil
 | cons h hs ih=>exact .cons (h.mono hm) ih
section
end
end Go.Proofs.YthdcghnjndhecaaGreat.Ev
namespace Go.Proofs.YthdcghnjndhecaaGreat.Ev
set_option linter.unusedVariables false
set_option linter.unusedSimpArgs false
variable {σ:Sig}
section
end
structure Rl8 (l:List RL):Prop where
 len:l.length≤60
 sels:∀ r ∈ l,r.sels.length≤8
 parts:∀ r ∈ l,∀ s ∈ r.sels,s.length<9000000000000000000
section
end
section
end
section
end
end Go.Proofs.YthdcghnjndhecaaGreat.Ev
namespace Go.Proofs.YthdcghnjndhecaaGreat.Ev
set_option linter.unusedVariables false
set_option linter.unusedSimpArgs false
variable {σ:Sig}
def qm (c:Cp):Int × ByteArray:=match c.ids with
 | x::_=>(1,x)
 | []=>match c.classes with
  | x::_=>(2,x)
  | []=>if c.tag=⟨#[]⟩ then (0,⟨#[]⟩) else (3,c.tag)
def iA (k:Int × ByteArray):List AV:=[I k.1,Sx k.2]
theorem Rn (c:Cp) (H:Hp):au Tryz.prog σ lJ [.agg (bU c)] H (.agg (iA (qm c))) H:=by
 refine bg (fun K hK=>qK.run ?_) (by simp [aK,bt,m5]) rfl H
 simp only [cJ,bA]
 obtain ⟨H4,hH4⟩:∃ H4,H4=(Hp.empty.new (.cells (bU c) true)).new (.cells [I 0,.lit (.string ⟨#[]⟩)] true):=⟨_,rfl⟩
 have e0:(Hp.empty.new (.cells (bU c) true)).n=1:=rfl
 have e1:Hp.empty.n=0:=rfl
 rw [← hH4,e0,e1]
 have g0:H4.get 0=some (.cells (bU c) true):=by rw [hH4]; simp [Hp.empty]
 have g1:H4.get 1=some (.cells [I 0,.lit (.string ⟨#[]⟩)] true):=by rw [hH4]; simp [Hp.empty]
 clear hH4
 have l1:ldA false 1 H4 (.ptr 0 1)=some (cG c.ids):=by rw [aL,g0,aM,vd]
 have l2:ldA false 1 H4 (.ptr 0 2)=some (cG c.classes):=by rw [aL,g0,aM,xh]
 have l0:ldA false 1 H4 (.ptr 0 0)=some (Sx c.tag):=by rw [aL,g0,aM,List.drop_zero,yR]
 have fin:∀ (k:Int) (s:ByteArray),(k,s)=qm c→bnd (stA 2 H4 (.ptr 1 0) (.agg [I k,Sx s])) fun H14=>bnd (ldA true 2 H14 (.ptr 1 0)) fun r=>K r H14:=by
  intro k s hk
  refine c7 (x:=H4.set 1 (some (.cells [I k,Sx s] true))) ?_ ?_
  ·rw [eV,g1]; rfl
  have l:ldA true 2 (H4.set 1 (some (.cells [I k,Sx s] true))) (.ptr 1 0)=some (.agg [I k,Sx s]):=by rw [aL,ay,if_pos rfl]; rfl
  rw [l,aa]
  have:([I k,Sx s]:List AV)=iA (qm c):=by rw [← hk]; rfl
  rw [this]
  exact hK _
 have b2:∀ (k:Int) (s:ByteArray),dy [I 0,.lit (.string ⟨#[]⟩)] [(0,1,I k),(1,1,Sx s)]=some [I k,Sx s]:=fun _ _=>rfl
 have b1:dy [I 0,.lit (.string ⟨#[]⟩)] [(0,1,I 0)]=some [I 0,.lit (.string ⟨#[]⟩)]:=rfl
 simp only [bu,Nat.zero_add,aa,l1,l2,l0,kG,eI,ai]
 cases hi:c.ids with
 | cons x r =>
  have hlt:(0:Int)<((x::r).length:Int):=by simp
  have hx:az 1 (cG (x::r)) (I 0)=some (.ip [Sx x]):=rfl
  have lx:ldA false 1 H4 (.ip [Sx x])=some (Sx x):=rfl
  simp only [hlt,decide_true,if_true,hx,lx,aa,b2]
  exact fin 1 x (by unfold qm; rw [hi])
 | nil =>
  simp only [List.length_nil,Int.natCast_zero,Int.lt_irrefl,decide_false,Bool.false_eq_true,if_false]
  cases hc:c.classes with
  | cons x r =>
   have hlt:(0:Int)<((x::r).length:Int):=by simp
   have hx:az 1 (cG (x::r)) (I 0)=some (.ip [Sx x]):=rfl
   have lx:ldA false 1 H4 (.ip [Sx x])=some (Sx x):=rfl
   simp only [hlt,decide_true,if_true,hx,lx,aa,b2]
   exact fin 2 x (by unfold qm; rw [hi,hc])
  | nil =>
   simp only [List.length_nil,Int.natCast_zero,Int.lt_irrefl,decide_false,Bool.false_eq_true,if_false,nv,aa,ai]
   by_cases ht:c.tag=⟨#[]⟩
   ·simp only [ht,decide_true,Bool.not_true,Bool.false_eq_true,if_false,b1,aa]
    exact fin 0 ⟨#[]⟩ (by unfold qm; rw [hi,hc,if_pos ht])
   ·simp only [ht,decide_false,Bool.not_false,if_true,b2,aa]
    exact fin 3 c.tag (by unfold qm; rw [hi,hc,if_neg ht])
end Go.Proofs.YthdcghnjndhecaaGreat.Ev
namespace Go.Proofs.YthdcghnjndhecaaGreat.Ev
set_option linter.unusedVariables false
set_option linter.unusedSimpArgs false
variable {σ:Sig}
def zv (l:List Sl):Nat:=(l.filter fun s=>decide (0<s.length)).length
def sD:List RL→Nat
 | []=>0
 | r::l=>zv r.sels+sD l
section
end
end Go.Proofs.YthdcghnjndhecaaGreat.Ev
namespace Go.Proofs.YthdcghnjndhecaaGreat.Ev
set_option linter.unusedVariables false
set_option linter.unusedSimpArgs false
variable {σ:Sig}
def NR (c:Cp) (n:Nd):Bool:=match c.ids with
 | x::_=>decide (n.id≠⟨#[]⟩)&&decide (x=n.id)
 | []=>match c.classes with
  | x::_=>j6 n.classes x
  | []=>if c.tag=⟨#[]⟩ then true else decide (c.tag=n.tag)
def sH (s:Sl) (n:Nd):Bool:=match s[s.length - 1]? with
 | some p=>NR p.c n
 | none=>false
end Go.Proofs.YthdcghnjndhecaaGreat.Ev
namespace Go.Proofs.YthdcghnjndhecaaGreat.Ev
set_option linter.unusedVariables false
set_option linter.unusedSimpArgs false
variable {σ:Sig}
section
end
end Go.Proofs.YthdcghnjndhecaaGreat.Ev
namespace Go.Proofs.YthdcghnjndhecaaGreat.Ev
set_option linter.unusedVariables false
set_option linter.unusedSimpArgs false
variable {σ:Sig}
def mC (n:Nd):Nat→List RL→List Int
 | _,[]=>[]
 | k,r::l=>if r.sels.any (fun s=>sH s n) then (k:Int)::mC n (k+1) l else mC n (k+1) l
section
end
end Go.Proofs.YthdcghnjndhecaaGreat.Ev
namespace Go.Proofs.YthdcghnjndhecaaGreat.Ev
set_option linter.unusedVariables false
set_option linter.unusedSimpArgs false
variable {σ:Sig}
theorem D7 (L:List Nd) (d:List Nat) {e:Nat} (he:e<L.length) (H:Hp):au Tryz.prog σ gU [dl L d,I (e:Int)] H (.agg (aY (bv (bV L e)))) H:=by
 refine qz (fun K hK=>kX.run ?_) (by simp [aK,bt,dC]) (by simp [bt,iR]) H
 rw [bA]
 refine ak (uf L d he _) ?_
 simp only [eM,aa,ai,Bool.not_true,Bool.false_eq_true,if_false,oD,rsh,rld,rix he,dX,rM]
 refine c7 (x:=(Hp.empty.new (.cells [I 0,Sx emp,Sx emp,.lit (.slice none 0 0),.lit (.slice none 0 0)] true)).set Hp.empty.n (some (.cells (aY (bv (bV L e))) true))) ?_ ?_
 ·rw [eV]
  simp only [bN,if_true]
  rfl
 refine c7 (x:=.agg (aY (bv (bV L e)))) ?_ (hK _)
 simp only [aL,ay,if_true,aM,List.drop_zero,rM]
theorem OV (L:List Nd) (d:List Nat) (hN:L.length≤4096) {e:Nat} (he:e<L.length) (hw:lX (bv (bV L e))) (H:Hp):au Tryz.prog σ fZ [cx L d,I (e:Int)] H (.agg (aY (bv (bV L e)))) H:=by
 obtain ⟨n,hn⟩:∃ n,n=bv (bV L e):=⟨_,rfl⟩
 obtain ⟨Q,hQ⟩:∃ Q:AV→Hp→Prop,∀ r H1,Q r H1 ↔ Fz H1 r (.agg (aY (bv (bV L e)))):=⟨_,fun _ _=>Iff.rfl⟩
 have run:∃ r H1,au Tryz.prog σ fZ [cx L d,I (e:Int)] Hp.empty r H1∧Q r H1:=by
  refine lZ.run ?_
  rw [bA]
  obtain ⟨H0,hH0⟩:∃ H0,H0=Hp.empty.new (.cells [I 0,Sx emp,Sx emp,.lit (.slice none 0 0),.lit (.slice none 0 0)] true):=⟨_,rfl⟩
  have g0:H0.get 0=some (.cells [I 0,Sx emp,Sx emp,.lit (.slice none 0 0),.lit (.slice none 0 0)] true):=by rw [hH0]; rfl
  have n0:H0.n=1:=by rw [hH0]; rfl
  have e0:Hp.empty.n=0:=rfl
  have hH0':Hp.empty.new (.cells [I 0,.lit (.string ⟨#[]⟩),.lit (.string ⟨#[]⟩),.lit (.slice none 0 0),.lit (.slice none 0 0)] true)=H0:=hH0.symm
  rw [hH0',e0]
  refine ak (xr L d hN he _) ?_
  have hp:nz true 0 5 (.agg (elE L d e))=some (.agg (aY (bv (bV L e)))):=rfl
  rw [hp,aa]
  refine vt (bv (bV L e)) hw (fun he' H' hn' hs=>?_) (fun he' H' id hn' hs hid hid' hg=>?_)
  ·have g0':H'.get 0=some (.cells [I 0,Sx emp,Sx emp,.lit (.slice none 0 0),.lit (.slice none 0 0)] true):=by rw [hs 0 (by omega)]; exact g0
   refine c7 (x:=H'.set 0 (some (.cells (aY (bv (bV L e))) true))) ?_ ?_
   ·rw [eV,g0']; rfl
   refine c7 (x:=.agg (aY (bv (bV L e)))) ?_ ?_
   ·simp only [aL,ay,if_true,aM,List.drop_zero,rM]
   ·rw [hQ]; exact .refl (by simp [bt,iR])
  ·have g0':H'.get 0=some (.cells [I 0,Sx emp,Sx emp,.lit (.slice none 0 0),.lit (.slice none 0 0)] true):=by rw [hs 0 (by omega)]; exact g0
   rw [← hn] at hg ⊢
   refine c7 (x:=H'.set 0 (some (.cells [I n.parent,Sx n.tag,Sx n.id,cG n.classes,.sl id 0 2 n.attrs.length none] true))) ?_ ?_
   ·rw [eV,g0']; rfl
   refine c7 (x:=.agg [I n.parent,Sx n.tag,Sx n.id,cG n.classes,.sl id 0 2 n.attrs.length none]) ?_ ?_
   ·simp only [aL,ay,if_true,aM,List.drop_zero]; rfl
   ·rw [hQ,← hn]
    have hne:id≠0:=by omega
    have hg':(H'.set 0 (some (.cells [I n.parent,Sx n.tag,Sx n.id,cG n.classes,.sl id 0 2 n.attrs.length none] true))).get id=some (.cells (n.attrs.map cF).flatten false):=by rw [ay,if_neg hne]; exact hg
    have hr:Fz (H'.set 0 (some (.cells [I n.parent,Sx n.tag,Sx n.id,cG n.classes,.sl id 0 2 n.attrs.length none] true))) (.sl id 0 2 (n.attrs.map cF).length none) (.imm 2 (n.attrs.map cF)):=by
     refine .rows hg' iN ?_ (bC _ (fun _=>rfl) _)
     rw [List.drop_zero,← c4 (sz:=2) iN]
     exact List.take_length
    rw [List.length_map] at hr
    exact Fz.aggL (.cons (.refl rfl) (.cons (.refl rfl) (.cons (.refl rfl) (.cons (.refl (mz _)) (.cons hr .nil)))))
 obtain ⟨r,H1,hg,hq⟩:=run
 exact hg.frzR (by simp [aK,bt,cU]) ((hQ _ _).1 hq) H
end Go.Proofs.YthdcghnjndhecaaGreat.Ev
namespace Go.Proofs.YthdcghnjndhecaaGreat.Ev
open Go.Shelf Go.Proofs
def mV:Ren :=
{
 f:=fun x =>
  match x with
  | 189=>75
  | 125=>105
  | 257=>104
  | 128=>134
  | 129=>135
  | 294=>125
  | 295=>126
  | 296=>127
  | 297=>128
  | 298=>129
  | 299=>130
  | 216=>131
  | 300=>132
  | 301=>133
  | 328=>150
  | 329=>151
  | 330=>152
  | 331=>153
  | 332=>154
  | 215=>155
  | 343=>172
  | n=>n,
 t:=fun x =>
  match x with
  | 28=>63
  | 3=>3
  | 46=>183
  | 0=>0
  | 51=>178
  | 53=>205
  | 4=>4
  | 183=>197
  | 182=>196
  | 131=>88
  | 5=>5
  | 9=>9
  | 218=>221
  | 222=>225
  | 228=>242
  | 229=>151
  | n=>n,
 g:=fun x =>
  x }
theorem xw:Lays.n189 Tryz.prog mV :=
{ mixed:=by kernel_rfl,f125:=Eq.trans Tryz.func105 (congrArg some (by kernel_rfl)),
  f128:=Eq.trans Tryz.func134 (congrArg some (by kernel_rfl)),
  f129:=Eq.trans Tryz.func135 (congrArg some (by kernel_rfl)),
  f189:=Eq.trans Tryz.func75 (congrArg some (by kernel_rfl)),
  f215:=Eq.trans Tryz.func155 (congrArg some (by kernel_rfl)),
  f216:=Eq.trans Tryz.func131 (congrArg some (by kernel_rfl)),
  f257:=Eq.trans Tryz.func104 (congrArg some (by kernel_rfl)),
  f294:=Eq.trans Tryz.func125 (congrArg some (by kernel_rfl)),
  f295:=Eq.trans Tryz.func126 (congrArg some (by kernel_rfl)),
  f296:=Eq.trans Tryz.func127 (congrArg some (by kernel_rfl)),
  f297:=Eq.trans Tryz.func128 (congrArg some (by kernel_rfl)),
  f298:=Eq.trans Tryz.func129 (congrArg some (by kernel_rfl)),
  f299:=Eq.trans Tryz.func130 (congrArg some (by kernel_rfl)),
  f300:=Eq.trans Tryz.func132 (congrArg some (by kernel_rfl)),
  f301:=Eq.trans Tryz.func133 (congrArg some (by kernel_rfl)),
  f328:=Eq.trans Tryz.func150 (congrArg some (by kernel_rfl)),
  f329:=Eq.trans Tryz.func151 (congrArg some (by kernel_rfl)),
  f330:=Eq.trans Tryz.func152 (congrArg some (by kernel_rfl)),
  f331:=Eq.trans Tryz.func153 (congrArg some (by kernel_rfl)),
  f332:=Eq.trans Tryz.func154 (congrArg some (by kernel_rfl)),
  f343:=Eq.trans Tryz.func172 (congrArg some (by kernel_rfl)),t0:=Tryz.underlying0,
  a0:=Tryz.isAgg0,z0:=Tryz.sizeOf0,v0:=Tryz.zeroValue0,t3:=Tryz.underlying3,a3:=Tryz.isAgg3,
  z3:=Tryz.sizeOf3,v3:=Tryz.zeroValue3,t4:=Tryz.underlying4,a4:=Tryz.isAgg4,z4:=Tryz.sizeOf4,
  v4:=Tryz.zeroValue4,t5:=Tryz.underlying5,a5:=Tryz.isAgg5,z5:=Tryz.sizeOf5,v5:=Tryz.zeroValue5,
  t9:=Tryz.underlying9,a9:=Tryz.isAgg9,z9:=Tryz.sizeOf9,v9:=Tryz.zeroValue9,t28:=Tryz.underlying63,
  a28:=Tryz.isAgg63,z28:=Tryz.sizeOf63,v28:=Tryz.zeroValue63,t46:=Tryz.underlying183,a46:=Tryz.isAgg183,
  z46:=Tryz.sizeOf183,v46:=Tryz.zeroValue183,t51:=Tryz.underlying178,a51:=Tryz.isAgg178,
  z51:=Tryz.sizeOf178,v51:=Tryz.zeroValue178,t53:=Tryz.underlying205,a53:=Tryz.isAgg205,
  z53:=Tryz.sizeOf205,v53:=Tryz.zeroValue205,t131:=Tryz.underlying88,a131:=Tryz.isAgg88,
  z131:=Tryz.sizeOf88,v131:=Tryz.zeroValue88,t182:=Tryz.underlying196,a182:=Tryz.isAgg196,
  z182:=Tryz.sizeOf196,v182:=Tryz.zeroValue196,t183:=Tryz.underlying197,a183:=Tryz.isAgg197,
  z183:=Tryz.sizeOf197,v183:=Tryz.zeroValue197,t218:=Tryz.underlying221,a218:=Tryz.isAgg221,
  z218:=Tryz.sizeOf221,v218:=Tryz.zeroValue221,t222:=Tryz.underlying225,a222:=Tryz.isAgg225,
  z222:=Tryz.sizeOf225,v222:=Tryz.zeroValue225,t228:=Tryz.underlying242,a228:=Tryz.isAgg242,
  z228:=Tryz.sizeOf242,v228:=Tryz.zeroValue242,t229:=Tryz.underlying151,a229:=Tryz.isAgg151,
  z229:=Tryz.sizeOf151,v229:=Tryz.zeroValue151 }
def jX:Ren :=
{
 f:=fun x =>
  match x with
  | 20=>76
  | n=>n,
 t:=fun x =>
  match x with
  | 22=>63
  | 3=>3
  | 4=>4
  | 0=>0
  | n=>n,
 g:=fun x =>
  x }
theorem sq:Lays2.n20 Tryz.prog jX :=
{ mixed:=by kernel_rfl,f20:=Eq.trans Tryz.func76 (congrArg some (by kernel_rfl)),
  t0:=Tryz.underlying0,a0:=Tryz.isAgg0,z0:=Tryz.sizeOf0,v0:=Tryz.zeroValue0,t3:=Tryz.underlying3,
  a3:=Tryz.isAgg3,z3:=Tryz.sizeOf3,v3:=Tryz.zeroValue3,t4:=Tryz.underlying4,a4:=Tryz.isAgg4,
  z4:=Tryz.sizeOf4,v4:=Tryz.zeroValue4,t22:=Tryz.underlying63,a22:=Tryz.isAgg63,z22:=Tryz.sizeOf63,
  v22:=Tryz.zeroValue63,i3:=by kernel_rfl }
def ja:Ren :=
{
 f:=fun x =>
  match x with
  | 4=>103
  | n=>n,
 t:=fun x =>
  match x with
  | 22=>63
  | 25=>3
  | 3=>3
  | 4=>4
  | 9=>9
  | 20=>20
  | 0=>0
  | n=>n,
 g:=fun x =>
  x }
theorem xg:Lays8.n4 Tryz.prog ja :=
{ mixed:=by kernel_rfl,
  f4 :=
    Exists.intro "slices.Grow[[]int,int]" ⟨of_decide_eq_true (id (Eq.refl true)), Eq.trans Tryz.func103 (congrArg some (by kernel_rfl))⟩,
  t0:=Tryz.underlying0,a0:=Tryz.isAgg0,z0:=Tryz.sizeOf0,v0:=Tryz.zeroValue0,t3:=Tryz.underlying3,
  a3:=Tryz.isAgg3,z3:=Tryz.sizeOf3,v3:=Tryz.zeroValue3,t4:=Tryz.underlying4,a4:=Tryz.isAgg4,
  z4:=Tryz.sizeOf4,v4:=Tryz.zeroValue4,t9:=Tryz.underlying9,a9:=Tryz.isAgg9,z9:=Tryz.sizeOf9,
  v9:=Tryz.zeroValue9,t20:=Tryz.underlying20,a20:=Tryz.isAgg20,z20:=Tryz.sizeOf20,v20:=Tryz.zeroValue20,
  t22:=Tryz.underlying63,a22:=Tryz.isAgg63,z22:=Tryz.sizeOf63,v22:=Tryz.zeroValue63 }
end Go.Proofs.YthdcghnjndhecaaGreat.Ev
namespace Go.Proofs.YthdcghnjndhecaaGreat.Ev
open Go.Shelf Go.Proofs Go.Sort
set_option linter.unusedVariables false
set_option linter.unusedSimpArgs false
variable {σ:Sig}
section
variable {B:Nat} {w0:gI} {E:Env} {H:Hp} {w:World}
theorem St.junk (h:St B w0 E H w) (os:Array Obj):St B w0 E H (Go.Sort.grow w os):=by
 have hold:∀ b,b<w.heap.size→(w.heap++os)[b]?=w.heap[b]?:=fun b hb=>Array.getElem?_append_left hb
 have hlt:∀ b x,E.ro b=some x→b<w.heap.size:=fun b x hx=>(Array.getElem?_eq_some_iff.1 (h.ro b x hx)).1
 refine ⟨h.below.trans ⟨rfl,rfl,rfl,by simp [Go.Sort.grow],fun b hb=>hold b (by have:=h.size; omega)⟩,by have:=h.size; simp [Go.Sort.grow]; omega,fun b x hx=>by show (w.heap++os)[b]?=_; rw [hold b (hlt b x hx)]; exact h.ro b x hx,h.dom,h.hdom,fun i k hk=>?_,h.disj,h.rob,fun b x hx=>?_,h.frl,h.sig,h.gl⟩
 ·obtain ⟨c,o,n,e,hc,hr,ok⟩:=h.live i k hk
  exact ⟨c,o,n,e,hc,hr,ok.heap (hold c ok.lt)⟩
 ·obtain ⟨h1,h2⟩:=h.fr b x hx
  exact ⟨by show (w.heap++os)[b]?=_; rw [hold b (Array.getElem?_eq_some_iff.1 h1).1]; exact h1,h2⟩
theorem SE {n:Int} {v:Value} (h:Rel E (I n) v):v=.int .i64 n:=by cases h; rfl
theorem St.holds (h:St B w0 E H w) {id b o n:Nat} {l:List Int} {ex:Bool} (hg:H.get id=some (.cells (l.map I) ex)) (hρ:E.ρ id=some (b,o,n)):Go.Sort.Holds (Value.int .i64) w b o l.toArray:=by
 intro j hj
 have hj':j<l.length:=by simpa using hj
 obtain ⟨v,hv,r⟩:=h.cell_live hg hρ (j:=j) (x:=I l[j]) (by simp [hj'])
 obtain ⟨b',o',n',e,_,_,c,ty,lo,hi,h1,h2,h3,_⟩:=h.live id _ hg
 rw [hρ] at e
 cases e
 refine ⟨?_,(h.frozen_live hg hρ (j:=j) (by simp at h3; omega)).1⟩
 rw [hv,SE r]
 simp [hj']
theorem St.putRow (h:St B w0 E H w) {id b o n:Nat} {l d:List Int} {ex:Bool} (hg:H.get id=some (.cells (l.map I) ex)) (hρ:E.ρ id=some (b,o,n)) (hd:d.length=l.length):St B w0 E (H.set id (some (.cells (d.map I) ex))) (Go.Sort.putRow (Value.int .i64) w b o d.toArray):=by
 obtain ⟨b',o',n',e,hb,hr,c,ty,lo,hi,h1,h2,h3,h4,h5,h6⟩:=h.live id _ hg
 rw [hρ] at e
 cases e
 have hlt:=(Array.getElem?_eq_some_iff.1 h1).1
 have hsz:(putCells (Value.int .i64) o d.toArray c).size=c.size:=by simp [putCells]
 refine h.write hg hρ (k':=.cells (d.map I) ex) (fun x hx=>?_) ?_ rfl rfl rfl ⟨putCells (Value.int .i64) o d.toArray c,ty,lo,hi,?_,by rw [hsz]; exact h2,by simp at h3 ⊢; omega,fun e=>by have:=h4 e; simp at this ⊢; omega,by rw [hsz]; exact h5,fun j x hj=>?_⟩
 ·simp only [Go.Sort.putRow,mapBlock,Array.getElem?_modify]
  rw [if_neg (Ne.symm hx)]
 ·simp [Go.Sort.putRow,mapBlock]
 ·simp only [Go.Sort.putRow,mapBlock,Array.getElem?_modify,if_true,h1,Option.map_some,onCells]
 ·have hjl:j<d.length:=by have:=(List.getElem?_eq_some_iff.1 hj).1; simpa using this
  simp only [List.length_map] at h3
  refine ⟨.int .i64 d[j],?_,?_⟩
  ·simp only [putCells,Array.getElem?_mapIdx]
   rw [Array.getElem?_eq_getElem (by omega)]
   simp [hjl]
  ·simp [hjl] at hj
   subst hj
   exact .lit _
end
def srt (l:List Int):List Int:=l.mergeSort fun x y=>decide (x≤y)
theorem Nx {l:List Int} {H:Hp} {id:Nat} {ex:Bool} (hg:H.get id=some (.cells (l.map I) ex)) (hl:l.length≤1000000):au Tryz.prog σ eS [.sl id 0 1 l.length none] H (.tup []) (H.set id (some (.cells ((srt l).map I) ex))):=by
 refine ⟨⟨_,Tryz.func75,by kernel_rfl,by kernel_rfl⟩,fun B w0 E w vs hσ hst hx=>?_⟩
 have hlen:=hx.len
 obtain ⟨v0,rfl⟩:∃ v0,vs=#[v0]:=by
  obtain ⟨l⟩:=vs
  match l,hlen with
  | [a],_=>exact ⟨a,rfl⟩
 have r0:=hx.at_ 0 _ v0 rfl (by simp)
 cases r0 with
 | sl hρ hc hle hn =>
  rename_i b o n c
  have hb:b<w.heap.size:=by
   obtain ⟨b',o',n',e,_,_,ok⟩:=hst.live id _ hg
   rw [hρ] at e
   cases e
   exact ok.lt
  refine (Any.slices_Sort_int (ρ:=mV) xw b o c l w (hst.holds hg hρ) hb (by omega)).mono fun e w' he=>?_
  obtain ⟨rfl,k,os,rfl⟩:=he
  refine ⟨E,_,rfl,.refl E,St.junk (St.putRow (h:=hst.drew (w.drawn+k)) hg hρ (d:=srt l) ?_) os,.tup rfl fun i x v hx=>by simp at hx⟩
  simp [srt]
theorem Ku (H:Hp):au Tryz.prog σ eS [.lit (.slice none 0 0)] H (.tup []) H:=by
 refine ⟨⟨_,Tryz.func75,by kernel_rfl,by kernel_rfl⟩,fun B w0 E w vs hσ hst hx=>?_⟩
 have hlen:=hx.len
 obtain ⟨v0,rfl⟩:∃ v0,vs=#[v0]:=by
  obtain ⟨l⟩:=vs
  match l,hlen with
  | [a],_=>exact ⟨a,rfl⟩
 have r0:=hx.at_ 0 _ v0 rfl (by simp)
 cases r0
 refine (Any.slices_Sort_int_none (ρ:=mV) xw none 0 w).mono fun e w' he=>?_
 obtain ⟨rfl,rfl⟩:=he
 exact ⟨E,_,rfl,.refl E,hst,.tup rfl fun i x v hx=>by simp at hx⟩
theorem xf (l:List Int):(Go.Lib.compact l).length≤l.length:=by
 unfold Go.Lib.compact
 have:∀ m,(Go.Lib.compactUpTo l.toArray m).length≤m:=by
  intro m
  induction m with
  | zero=>simp [Go.Lib.compactUpTo]
  | succ m ih =>
   rw [Go.Lib.compactUpTo_succ]
   split<;>simp<;>omega
 exact this _
theorem zH {l:List Int} {H:Hp} {id:Nat} {ex:Bool} (hg:H.get id=some (.cells (l.map I) ex)) (hl:l.length≤1000000):au Tryz.prog σ dJ [.sl id 0 1 l.length none] H (.sl id 0 1 (Go.Lib.compact l).length none) (H.set id (some (.cells ((Go.Lib.compact l++List.replicate (l.length - (Go.Lib.compact l).length) 0).map I) ex))):=by
 refine ⟨⟨_,Tryz.func76,by kernel_rfl,by kernel_rfl⟩,fun B w0 E w vs hσ hst hx=>?_⟩
 have hlen:=hx.len
 obtain ⟨v0,rfl⟩:∃ v0,vs=#[v0]:=by
  obtain ⟨l⟩:=vs
  match l,hlen with
  | [a],_=>exact ⟨a,rfl⟩
 have r0:=hx.at_ 0 _ v0 rfl (by simp)
 have hcl:=xf l
 cases r0 with
 | sl hρ hc hle hn =>
  rename_i b o n c
  refine (Any.slices_Compact_int (ρ:=jX) sq b o c l w (hst.holds hg hρ) (by omega) hle).mono fun e w' he=>?_
  obtain ⟨rfl,k,rfl⟩:=he
  exact ⟨E,_,rfl,.refl E,St.putRow (h:=hst.drew (w.drawn+k)) hg hρ (by simp; omega),.sl hρ (fun k hk=>by cases hk) (by omega) hn⟩
theorem yy (H:Hp):au Tryz.prog σ dJ [.lit (.slice none 0 0)] H (.lit (.slice none 0 0)) H:=by
 refine ⟨⟨_,Tryz.func76,by kernel_rfl,by kernel_rfl⟩,fun B w0 E w vs hσ hst hx=>?_⟩
 have hlen:=hx.len
 obtain ⟨v0,rfl⟩:∃ v0,vs=#[v0]:=by
  obtain ⟨l⟩:=vs
  match l,hlen with
  | [a],_=>exact ⟨a,rfl⟩
 have r0:=hx.at_ 0 _ v0 rfl (by simp)
 cases r0
 refine (Any.slices_Compact_int_empty (ρ:=jX) sq none 0 w).mono fun e w' he=>?_
 obtain ⟨rfl,rfl⟩:=he
 exact ⟨E,_,rfl,.refl E,hst,.lit _⟩
theorem wF {z:Value} {n j:Nat} (hz:z.cells=#[.int .i64 0]) (hj:j<n):(Builtin.zeroCells z.cells n)[j]?=some (.int .i64 0):=by
 rw [hz]
 simp [Builtin.zeroCells,hj,Nat.mod_one]
theorem nM {z:Value} {n:Nat} (hz:z.cells=#[.int .i64 0]):(Builtin.zeroCells z.cells n).size=n:=by
 rw [hz]
 simp [Builtin.zeroCells]
theorem BX (H:Hp):au Tryz.prog σ gj [.lit (.slice none 0 0),I 0] H (.lit (.slice none 0 0)) H:=by
 refine ⟨⟨_,Tryz.func103,by kernel_rfl,by kernel_rfl⟩,fun B w0 E w vs hσ hst hx=>?_⟩
 have hlen:=hx.len
 obtain ⟨v0,v1,rfl⟩:∃ v0 v1,vs=#[v0,v1]:=by
  obtain ⟨l⟩:=vs
  match l,hlen with
  | [a,b],_=>exact ⟨a,b,rfl⟩
 have r0:=hx.at_ 0 _ v0 rfl (by simp)
 have r1:=hx.at_ 1 _ v1 rfl (by simp)
 cases r0
 cases r1
 refine (Any8.slices_Grow_room (ρ:=ja) xg none 0 0 0 w (by omega) (by omega) (by omega) (by omega)).mono fun e w' he=>?_
 obtain ⟨rfl,rfl⟩:=he
 exact ⟨E,_,rfl,.refl E,hst,.lit _⟩
theorem IE (n:Nat) (h0:0<n) (h1:n≤1000000) (H:Hp):au Tryz.prog σ gj [.lit (.slice none 0 0),I n] H (.sl H.n 0 1 0 none) (H.new (.cells ((List.replicate n (0:Int)).map I) false)):=by
 refine ⟨⟨_,Tryz.func103,by kernel_rfl,by kernel_rfl⟩,fun B w0 E w vs hσ hst hx=>?_⟩
 have hlen:=hx.len
 obtain ⟨v0,v1,rfl⟩:∃ v0 v1,vs=#[v0,v1]:=by
  obtain ⟨l⟩:=vs
  match l,hlen with
  | [a,b],_=>exact ⟨a,b,rfl⟩
 have r0:=hx.at_ 0 _ v0 rfl (by simp)
 have r1:=hx.at_ 1 _ v1 rfl (by simp)
 cases r0
 cases r1
 obtain ⟨t,ht,hd,hs⟩:=tb
 obtain ⟨ht2⟩:=bh (sU _ _ ht)
 have e1:=ht2.he
 have hsz:ht2.info.size=1:=by rw [e1] at hs; exact hs
 obtain ⟨bz,hbz⟩:∃ i,tiT.get kj=some i∧i.bytes=8∧i.zero=[.int .i64 0]:=⟨_,(by kernel_rfl:tiT.get kj=some ti3),by kernel_rfl,by kernel_rfl⟩
 have hbe:bz=t:=by rw [ht] at hbz; exact (Option.some.inj hbz.1).symm
 subst hbe
 have hb8:ht2.info.bytes=8:=by have:=hbz.2.1; rw [e1] at this; exact this
 have hzc:ht2.z.cells=#[.int .i64 0]:=by
  have:=hbz.2.2
  rw [e1] at this
  have h:ht2.z.cells.toList=[.int .i64 0]:=this
  rw [← Array.toArray_toList (xs:=ht2.z.cells),h]
 refine (Any8.slices_Grow_grow (ρ:=ja) xg ht2.info ht2.z ht2.hi ht2.hz (by rw [hsz]; omega) none 0 0 n [] w (by omega) (by omega) (by rw [hb8]; omega) (by omega) (by simp) (fun _=>rfl) (fun a ha=>by cases ha)).mono fun e w' he=>?_
 obtain ⟨rfl,rfl⟩:=he
 obtain ⟨G,hG⟩:∃ G,G=grownCap w (0+n) 0 (ja.t 25):=⟨_,rfl⟩
 have hGn:0+n≤G:=by rw [hG]; exact grownCap_ge w _ _ _
 rw [← hG]
 have hcs:((([]:List Value).toArray++Builtin.zeroCells ht2.z.cells (0+n - 0)++Builtin.zeroCells ht2.z.cells (G - (0+n)))).size=G:=by
  simp only [Array.size_append,nM hzc]
  simp; omega
 obtain ⟨E',g1,g2,g3⟩:=(hst.drew (w.drawn+1)).row (xs:=(List.replicate n (0:Int)).map I) (c:=(([]:List Value).toArray++Builtin.zeroCells ht2.z.cells (0+n - 0)++Builtin.zeroCells ht2.z.cells (G - (0+n)))) (ex:=false) (ja.t 25) 0 0 (.inl rfl) (by rw [hcs]; simp; omega) (fun h=>by cases h) (fun j x hj=>by
  have hjn:j<n:=by have:=(List.getElem?_eq_some_iff.1 hj).1; simpa using this
  refine ⟨.int .i64 0,?_,?_⟩
  ·rw [Array.getElem?_append_left (by simp only [Array.size_append,nM hzc]; simp; omega),Array.getElem?_append_right (by simp)]
   simp only [List.size_toArray,List.length_nil,Nat.sub_zero]
   exact wF hzc (by omega)
  ·simp [hjn] at hj
   subst hj
   exact .lit _)
 refine ⟨E',_,rfl,g1,g2,.sl g3 (fun k hk=>by cases hk) (Nat.zero_le _) ?_⟩
 rw [hcs]; omega
end Go.Proofs.YthdcghnjndhecaaGreat.Ev
namespace Go.Proofs.YthdcghnjndhecaaGreat.Ev
set_option linter.unusedVariables false
set_option linter.unusedSimpArgs false
variable {σ:Sig}
abbrev Key:=Int × ByteArray
def kyA (k:Key):AV:=.agg (iA k)
theorem Bb {a b:Key} (h:kyA a=kyA b):a=b:=by
 obtain ⟨a1,a2⟩:=a
 obtain ⟨b1,b2⟩:=b
 simp [kyA,iA] at h
 simp [h]
def esA (es:List (Key × AV)):List (AV × AV):=es.map fun p=>(kyA p.1,p.2)
def vW (k:Key):List (Key × AV)→Option AV
 | []=>none
 | p::r=>if p.1=k then some p.2 else vW k r
def qE (k:Key) (v:AV):List (Key × AV)→List (Key × AV)
 | []=>[(k,v)]
 | p::r=>if p.1=k then (p.1,v)::r else p::qE k v r
theorem yF (k:Key):∀ es:List (Key × AV),jn (kyA k) (esA es)=vW k es
 | []=>rfl
 | p::r=>by
  show jn (kyA k) ((kyA p.1,p.2)::esA r)=_
  unfold jn vW
  by_cases h:p.1=k
  ·rw [if_pos (by rw [h]),if_pos h]
  ·rw [if_neg (fun e=>h (Bb e)),if_neg h]
   exact yF k r
theorem AM (k:Key) (v:AV):∀ es:List (Key × AV),nH (kyA k) v (esA es)=esA (qE k v es)
 | []=>rfl
 | p::r=>by
  show nH (kyA k) v ((kyA p.1,p.2)::esA r)=_
  unfold nH qE
  by_cases h:p.1=k
  ·rw [if_pos (by rw [h]),if_pos h]; rfl
  ·rw [if_neg (fun e=>h (Bb e)),if_neg h,AM k v r]; rfl
theorem u9 {k:Key}:∀ {es:List (Key × AV)},vW k es=none→∀ p ∈ es,p.1≠k
 | [],_,p,hp=>by cases hp
 | q::r,h,p,hp=>by
  unfold vW at h
  split at h
  ·cases h
  ·rename_i hne
   rcases List.mem_cons.1 hp with rfl | hp
   ·exact hne
   ·exact u9 h p hp
theorem rg {k:Key} {v:AV}:∀ {es:List (Key × AV)},vW k es=some v→(k,v) ∈ es
 | [],h=>by cases h
 | q::r,h=>by
  unfold vW at h
  split at h
  ·rename_i e
   cases h
   rw [← e]; simp
  ·exact List.mem_cons_of_mem _ (rg h)
theorem mD {k:Key} {v:AV}:∀ {es:List (Key × AV)},(es.map (·.1)).Nodup→∀ p,p ∈ qE k v es→p=(k,v)∨(p ∈ es∧p.1≠k)
 | [],_,p,hp=>by
  left; simpa [qE] using hp
 | q::r,hn,p,hp=>by
  have hn':=List.nodup_cons.1 (show (q.1::r.map (·.1)).Nodup from hn)
  unfold qE at hp
  split at hp
  ·rename_i e
   rcases List.mem_cons.1 hp with rfl | hp
   ·left; rw [e]
   ·right
    refine ⟨by simp [hp],fun e2=>hn'.1 ?_⟩
    rw [e,← e2]
    exact List.mem_map_of_mem hp
  ·rename_i e
   rcases List.mem_cons.1 hp with rfl | hp
   ·exact .inr ⟨by simp,e⟩
   ·rcases mD hn'.2 p hp with h | h
    ·exact .inl h
    ·exact .inr ⟨by simp [h.1],h.2⟩
theorem qS {k:Key} {v:AV}:∀ {es:List (Key × AV)} (q:Key),q ∈ (qE k v es).map (·.1) ↔ q=k∨q ∈ es.map (·.1)
 | [],q=>by simp [qE]
 | p::r,q=>by
  unfold qE
  split
  ·rename_i e
   simp [e]
  ·simp only [List.map_cons,List.mem_cons,qS q]
   constructor
   ·rintro (h | h | h)
    ·exact .inr (.inl h)
    ·exact .inl h
    ·exact .inr (.inr h)
   ·rintro (h | h | h)
    ·exact .inr (.inl h)
    ·exact .inl h
    ·exact .inr (.inr h)
theorem sV {k:Key} {v:AV}:∀ {es:List (Key × AV)},(es.map (·.1)).Nodup→((qE k v es).map (·.1)).Nodup
 | [],_=>by simp [qE]
 | p::r,hn=>by
  have hn':=List.nodup_cons.1 (show (p.1::r.map (·.1)).Nodup from hn)
  unfold qE
  split
  ·exact hn
  ·rename_i e
   refine List.nodup_cons.2 ⟨fun hm=>?_,sV hn'.2⟩
   rcases (qS p.1).1 hm with h | h
   ·exact e h
   ·exact hn'.1 h
theorem Gs.src {sz:Nat} {H:Hp} {x:AV} {rows:List (List AV)} (h:Gs sz H x rows):j8 x=true∧jk H sz x=some (rows.length,rows.flatten):=by
 cases h with
 | nil=>exact ⟨rfl,rfl⟩
 | sl hlt hg hsz =>
  rename_i id ex
  have hl:=c4 hsz
  have ht:(rows.flatten.drop 0).take (rows.length*sz)=rows.flatten:=by rw [List.drop_zero,← hl]; exact List.take_length
  refine ⟨rfl,?_⟩
  simp only [jk,hg,mj,rp,ht,hl]
  simp
theorem Gs.ownlt {sz:Nat} {H:Hp} {x:AV} {rows:List (List AV)} (h:Gs sz H x rows) {j:Nat} (ho:own x j):j<H.n:=by
 cases h with
 | nil=>exact ho.elim
 | sl hlt=>exact ho ▸ hlt
theorem og (l:List Int):(l.map db).flatten.all AV.one=true:=by
 induction l with
 | nil=>rfl
 | cons a l ih=>simp [db,ih]
theorem wW {l:List Int}:∀ row ∈ l.map db,row.length=1:=by
 intro row hr
 obtain ⟨a,_,rfl⟩:=List.mem_map.1 hr
 rfl
structure Es (n0:Nat) (H:Hp) (b mid:Nat) (es:List (Key × AV)) (R:Key→List Int):Prop where
 hm:H.get mid=some (.map (esA es))
 nd:(es.map (·.1)).Nodup
 gs:∀ p ∈ es,Gs 1 H p.2 ((R p.1).map db)
 ow:∀ p ∈ es,∀ j,own p.2 j→n0≤j∧j≠b∧j≠mid
 sep:∀ p ∈ es,∀ q ∈ es,p.1≠q.1→∀ j,own p.2 j→¬ own q.2 j
 no:∀ k,k ∉ es.map (·.1)→R k=[]
structure Bk (n0:Nat) (H:Hp) (b:Nat) (R:Key→List Int) (cnt:Nat):Prop where
 b0:n0≤b
 blt:b<H.n
 ok:∀ j,H.n≤j→H.get j=none
 m:(H.get b=some (.cells [.lit (.map none),I cnt] true)∧∀ k,R k=[])∨∃ mid es,H.get b=some (.cells [.mp mid,I cnt] true)∧n0≤mid∧mid≠b∧mid<H.n∧Es n0 H b mid es R
structure Up (n0:Nat) (H H':Hp):Prop where
 n:H.n≤H'.n
 g:∀ j,j<n0→H'.get j=H.get j
theorem Up.refl {n0:Nat} {H:Hp}:Up n0 H H:=⟨Nat.le_refl _,fun _ _=>rfl⟩
theorem Up.trans {n0:Nat} {H H1 H2:Hp} (h:Up n0 H H1) (h':Up n0 H1 H2):Up n0 H H2:=⟨Nat.le_trans h.n h'.n,fun j hj=>(h'.g j hj).trans (h.g j hj)⟩
theorem Up.le {n0 n1:Nat} {H H':Hp} (h:Up n1 H H') (hle:n0≤n1):Up n0 H H':=⟨h.n,fun j hj=>h.g j (by omega)⟩
theorem Bj (k:Key):kOk true [.int .i64,.string] (kyA k)=true:=rfl
theorem Jp (es:List (Key × AV)):(esA es).all (fun p=>kOk true [.int .i64,.string] p.1)=true:=by
 rw [List.all_eq_true]
 intro p hp
 obtain ⟨q,_,rfl⟩:=List.mem_map.1 hp
 rfl
theorem Es.look {n0:Nat} {H:Hp} {b mid:Nat} {es:List (Key × AV)} {R:Key→List Int} (h:Es n0 H b mid es R) (k:Key) :
  ∃ x,ko (.lit (.slice none 0 0)) true [.int .i64,.string] false H (.mp mid) (kyA k)=some x∧Gs 1 H x ((R k).map db)∧((x=.lit (.slice none 0 0)∧vW k es=none)∨(k,x) ∈ es):=by
 unfold ko
 simp only [h.hm,Bj,Jp,Bool.and_self,cond_true,yW,yF]
 cases hf:vW k es with
 | none =>
  refine ⟨_,rfl,?_,.inl ⟨rfl,rfl⟩⟩
  rw [h.no k (fun hm=>by
   obtain ⟨p,hp,e⟩:=List.mem_map.1 hm
   exact u9 hf p hp e)]
  exact .nil
 | some v=>exact ⟨v,rfl,h.gs _ (rg hf),.inr (rg hf)⟩
theorem Bk.look {n0:Nat} {H:Hp} {b:Nat} {R:Key→List Int} {cnt:Nat} (h:Bk n0 H b R cnt):∃ m,H.get b=some (.cells [m,I cnt] true)∧∀ k,∃ x,ko (.lit (.slice none 0 0)) true [.int .i64,.string] false H m (kyA k)=some x∧Gs 1 H x ((R k).map db):=by
 rcases h.m with ⟨hb,hR⟩ | ⟨mid,es,hb,_,_,_,he⟩
 ·refine ⟨_,hb,fun k=>⟨.lit (.slice none 0 0),rfl,?_⟩⟩
  rw [hR k]; exact .nil
 ·exact ⟨_,hb,fun k=>by obtain ⟨x,h1,h2,_⟩:=he.look k; exact ⟨x,h1,h2⟩⟩
theorem Es.mono {n0:Nat} {H H':Hp} {b mid:Nat} {es:List (Key × AV)} {R:Key→List Int} (h:Es n0 H b mid es R) (hmid:mid<H.n) (u:Up H.n H H'):Es n0 H' b mid es R :=
 ⟨by rw [u.g _ hmid]; exact h.hm,h.nd,fun p hp=>(h.gs p hp).keep (fun j hj=>u.g j ((h.gs p hp).ownlt hj)) u.n,h.ow,h.sep,h.no⟩
theorem Bk.mono {n0:Nat} {H H':Hp} {b:Nat} {R:Key→List Int} {cnt:Nat} (h:Bk n0 H b R cnt) (u:Up H.n H H') (ok:∀ j,H'.n≤j→H'.get j=none):Bk n0 H' b R cnt:=by
 refine ⟨h.b0,by have:=h.blt; have:=u.n; omega,ok,?_⟩
 rcases h.m with ⟨hb,hR⟩ | ⟨mid,es,hb,h1,h2,h3,he⟩
 ·exact .inl ⟨by rw [u.g _ h.blt]; exact hb,hR⟩
 ·exact .inr ⟨mid,es,by rw [u.g _ h.blt]; exact hb,h1,h2,by have:=u.n; omega,he.mono h3 u⟩
def sF (R:Key→List Int) (k:Key) (v:Int):Key→List Int:=fun q=>if q=k then R k++[v] else R q
theorem jZ {H:Hp} (ok:∀ j,H.n≤j→H.get j=none) (b:Blk):∀ j,(H.new b).n≤j→(H.new b).get j=none:=by
 intro j hj
 simp only [bN,Hp.n_new] at hj ⊢
 rw [if_neg (by omega)]
 exact ok j (by omega)
theorem ra {H:Hp} {i:Nat} (ok:∀ j,H.n≤j→H.get j=none) (hi:i<H.n) (b:Option Blk):∀ j,(H.set i b).n≤j→(H.set i b).get j=none:=by
 intro j hj
 simp only [ay,Hp.n_set] at hj ⊢
 rw [if_neg (by omega)]
 exact ok j hj
theorem vX {sz bytes:Nat} {H H':Hp} {x y x':AV} {rows rows2:List (List AV)} (ok:∀ j,H.n≤j→H.get j=none) (hx:Gs sz H x rows) (hns:j8 y=true) (hs:jk H sz y=some (rows2.length,rows2.flatten)) (hone:rows2.flatten.all AV.one=true)
  (hb:(rows.length+rows2.length)*bytes≤140737488355328) (hn:rows.length+rows2.length≤4611686018427387904) (h:eA false sz bytes H x y=some (x',H')):∀ j,H'.n≤j→H'.get j=none:=by
 have hn':∀ (id:Nat) (b:Blk) j,((H.set id none).new b).n≤j→((H.set id none).new b).get j=none:=by
  intro id b j hj
  simp only [bN,Hp.n_new,ay,Hp.n_set] at hj ⊢
  rw [if_neg (by omega)]
  split
  ·rfl
  ·exact ok j (by omega)
 unfold eA at h
 simp only [hns,cond_true,hs,hone,mj,rp] at h
 by_cases h0:rows2.length=0
 ·have:rows2=[]:=List.length_eq_zero_iff.1 h0
  subst this
  cases hx<;>simp at h<;>rw [← h.2]<;>exact ok
 ·simp only [h0,decide_false,cond_false] at h
  cases hx with
  | nil =>
   simp only [List.length_nil,Nat.zero_add] at hb hn
   simp [hb,hn] at h
   rw [← h.2]
   exact jZ ok _
  | sl hlt hg hsz =>
   have hl:=c4 hsz
   simp only [hg] at h
   simp [hb,hn,hl] at h
   rw [← h.2]
   exact hn' _ _
end Go.Proofs.YthdcghnjndhecaaGreat.Ev
namespace Go.Proofs.YthdcghnjndhecaaGreat.Ev
set_option linter.unusedVariables false
set_option linter.unusedSimpArgs false
variable {σ:Sig}
section
attribute [local irreducible] aQ.J0
theorem Jb {n0:Nat} {H:Hp} {b mid bx cnt:Nat} {es:List (Key × AV)} {R:Key→List Int} {k:Key} {v:Int} {K:AV→Hp→Prop} (h:Es n0 H b mid es R) (hl:(R k).length≤1000000) (hb:H.get b=some (.cells [.mp mid,I cnt] true)) (b0:n0≤b) (m0:n0≤mid) (hmb:mid≠b) (blt:b<H.n) (mlt:mid<H.n)
  (ok:∀ j,H.n≤j→H.get j=none) (hx:H.get bx=some (.cells (iA k) true)) (xlt:bx<H.n) (xb:bx≠b) (xm:bx≠mid) (xo:∀ p ∈ es,¬ own p.2 bx)
  (hK:∀ H',Bk n0 H' b (sF R k v) cnt→Up n0 H H'→K (.tup []) H'):aQ.J0 σ K (.ptr b 0) (I v) (.ptr bx 0) H:=by
 refine aQ.J0_step ?_
 have l0:ldA false 1 H (.ptr b 0)=some (.mp mid):=by rw [aL,hb]; rfl
 have lx:ldA true 2 H (.ptr bx 0)=some (kyA k):=by rw [aL,hx]; rfl
 obtain ⟨x,hlook,hgs,hxe⟩:=h.look k
 have hbld:cj [.int .i64 0] 1 1 H [(0,1,I v)]=some (.sl H.n 0 1 1 (some 1),H.new (.cells [I v] true)):=rfl
 have e1:bx≠H.n:=by omega
 have e2:b≠H.n:=by omega
 have e3:mid≠H.n:=by omega
 have gx1:(H.new (.cells [I v] true)).get bx=H.get bx:=by simp [e1]
 have gb1:(H.new (.cells [I v] true)).get b=H.get b:=by simp [e2]
 have gm1:(H.new (.cells [I v] true)).get mid=H.get mid:=by simp [e3]
 have hgs1:Gs 1 (H.new (.cells [I v] true)) x ((R k).map db):=by
  refine hgs.keep (fun j hj=>?_) (by simp)
  have:=hgs.ownlt hj
  have:j≠H.n:=by omega
  simp [this]
 have hsrc:jk (H.new (.cells [I v] true)) 1 (.sl H.n 0 1 1 (some 1))=some (([db v]:List (List AV)).length,([db v]:List (List AV)).flatten):=Bh (cap:=some 1) (row:=db v) (ex:=true) (by simp [db]) rfl
 obtain ⟨x',H2,happ,hgs2,hfr⟩:=ta (bytes:=8) hgs1 (y:=.sl H.n 0 1 1 (some 1)) rfl hsrc (fun row hr=>by rw [List.mem_singleton.1 hr]; rfl) rfl (by rw [List.length_map]; simp; omega) (by rw [List.length_map]; simp; omega)
 have xown:∀ j,own x j→j<H.n∧n0≤j∧j≠b∧j≠mid∧j≠bx:=by
  intro j hj
  rcases hxe with ⟨rfl,_⟩ | hm
  ·exact hj.elim
  ·have:=h.ow _ hm j hj
   exact ⟨hgs.ownlt hj,this.1,this.2.1,this.2.2,fun e=>xo _ hm (e ▸ hj)⟩
 have n1:(H.new (.cells [I v] true)).n=H.n+1:=rfl
 have same:∀ j,j<H.n→¬ own x j→H2.get j=H.get j:=by
  intro j hj hne
  rw [hfr.same j (by rw [n1]; omega) hne]
  have:j≠H.n:=by omega
  simp [this]
 have sx:H2.get bx=H.get bx:=same bx xlt fun ho=>(xown bx ho).2.2.2.2 rfl
 have sb:H2.get b=H.get b:=same b blt fun ho=>(xown b ho).2.2.1 rfl
 have sm:H2.get mid=H.get mid:=same mid mlt fun ho=>(xown mid ho).2.2.2.1 rfl
 have hup:=hfr.grow
 rw [n1] at hup
 have own':∀ j,own x' j→own x j∨H.n≤j∧j<H2.n:=by
  intro j hj
  rcases hfr.mine j hj with h | h
  ·exact .inl h
  ·rw [n1] at h; exact .inr ⟨by omega,h.2⟩
 have hput:yT true [.int .i64,.string] H2 (.mp mid) (kyA k) x'=some (H2.set mid (some (.map (esA (qE k x' es))))):=by
  unfold yT
  have ha:x'.isAny=false:=hgs2.cells.2
  simp only [sm,h.hm,Bj,Jp,ha,Bool.not_false,Bool.and_self,cond_true,AM]
 simp only [kK,aa,bu,Nat.zero_add,l0,lx,hlook,hbld,rt,MJ,gx1,gb1,happ,sx,sb,hput,true_and]
 refine ⟨gm1,hK _ ?_ ?_⟩
 ·have ok2:∀ j,H2.n≤j→H2.get j=none:=by
   intro j hj
   have hgt:j≠H.n:=by omega
   by_cases ho:own x j
   ·have:=(xown j ho).1; omega
   ·-- beyond what is made there is nothing
    exact vX (jZ ok _) hgs1 rfl hsrc rfl (by rw [List.length_map]; simp; omega) (by rw [List.length_map]; simp; omega) happ j hj
  refine ⟨b0,by simp; omega,ra ok2 (by omega) _,.inr ⟨mid,qE k x' es,?_,m0,hmb,by simp; omega,?_⟩⟩
  ·simp [Ne.symm hmb,sb,hb]
  ·refine ⟨by simp,sV h.nd,fun p hp=>?_,fun p hp j hj=>?_,fun p hp q hq hne j hj hj2=>?_,fun q hq=>?_⟩
   ·rcases mD h.nd p hp with rfl | ⟨hm,hne⟩
    ·have:sF R k v k=R k++[v]:=by simp [sF]
     show Gs 1 _ x' ((sF R k v k).map db)
     rw [this,List.map_append]
     refine hgs2.keep (fun j hj=>?_) (by simp)
     have:j≠mid:=by
      rcases own' j hj with h | h
      ·exact (xown j h).2.2.2.1
      ·omega
     simp [this]
    ·have:sF R k v p.1=R p.1:=by simp [sF,hne]
     rw [this]
     refine (h.gs p hm).keep (fun j hj=>?_) (by simp; omega)
     have hjm:=(h.ow p hm j hj).2.2
     have hjn:=(h.gs p hm).ownlt hj
     have hjx:¬ own x j:=by
      rcases hxe with ⟨rfl,_⟩ | hxm
      ·exact fun h=>h
      ·exact h.sep p hm _ hxm hne j hj
     simp [hjm,same j hjn hjx]
   ·rcases mD h.nd p hp with rfl | ⟨hm,hne⟩
    ·rcases own' j hj with h | h
     ·exact ⟨(xown j h).2.1,(xown j h).2.2.1,(xown j h).2.2.2.1⟩
     ·exact ⟨by omega,by omega,by omega⟩
    ·exact h.ow p hm j hj
   ·have key:∀ (p:Key × AV),p ∈ es→p.1≠k→∀ j,own p.2 j→¬ own x' j:=by
     intro p hm hne j hj hj2
     rcases own' j hj2 with h2 | h2
     ·rcases hxe with ⟨rfl,_⟩ | hxm
      ·exact h2
      ·exact h.sep p hm _ hxm hne j hj h2
     ·have:=(h.gs p hm).ownlt hj; omega
    rcases mD h.nd p hp with rfl | ⟨hm,hnk⟩
    ·rcases mD h.nd q hq with rfl | ⟨hm2,hnk2⟩
     ·exact hne rfl
     ·exact key q hm2 hnk2 j hj2 hj
    ·rcases mD h.nd q hq with rfl | ⟨hm2,hnk2⟩
     ·exact key p hm hnk j hj hj2
     ·exact h.sep p hm q hm2 hne j hj hj2
   ·have hq':¬ (q=k∨q ∈ es.map (·.1)):=fun h=>hq ((qS q).2 h)
    have h1:q≠k:=fun e=>hq' (.inl e)
    simp only [sF,h1,if_false]
    exact h.no q fun e=>hq' (.inr e)
 ·refine ⟨by simp; omega,fun j hj=>?_⟩
  have:j≠mid:=by omega
  rw [ay,if_neg this]
  exact same j (by omega) fun ho=>by have:=(xown j ho).2.1; omega
theorem Nv {n0:Nat} {H:Hp} {b cnt:Nat} {R:Key→List Int} {k:Key} {v:Int} {K:AV→Hp→Prop} (h:Bk n0 H b R cnt) (hl:(R k).length≤1000000)
  (hK:∀ H',Bk n0 H' b (sF R k v) cnt→Up n0 H H'→K (.tup []) H'):av Tryz.prog σ cL [.ptr b 0,kyA k,I v] H K:=by
 refine aQ.run ?_
 have blt:=h.blt
 have b0:=h.b0
 have e2:b≠H.n:=by omega
 simp only [kyA,cJ,kK,aa,bu,Nat.zero_add]
 rcases h.m with ⟨hb,hR⟩ | ⟨mid,es,hb,m0,hmb,mlt,he⟩
 ·have l0:ldA false 1 (H.new (.cells (iA k) true)) (.ptr b 0)=some (.lit (.map none)):=by
   rw [aL,bN,if_neg e2,hb]; rfl
  have em:vu .eql (.lit (.map none)) (.lit (.map none))=some (Bo true):=rfl
  have st:stA 1 ((H.new (.cells (iA k) true)).new (.map [])) (.ptr b 0) (.mp (H.new (.cells (iA k) true)).n)=some (((H.new (.cells (iA k) true)).new (.map [])).set b (some (.cells [.mp (H.n+1),I cnt] true))):=by
   have e3:b≠H.n+1:=by omega
   rw [j4 1 _ _ _ _ rfl rfl]
   simp [e2,e3,hb,AV.cells]
   rfl
  simp only [l0,em,aa,ai,if_true,st]
  obtain ⟨H9,hH9⟩:∃ H9,H9=((H.new (.cells (iA k) true)).new (.map [])).set b (some (.cells [.mp (H.n+1),I cnt] true)):=⟨_,rfl⟩
  rw [← hH9]
  have n9:H9.n=H.n+2:=by rw [hH9]; rfl
  have g9:∀ j,H9.get j=if j=b then some (.cells [.mp (H.n+1),I cnt] true) else if j=H.n+1 then some (.map []) else if j=H.n then some (.cells (iA k) true) else H.get j:=by
   intro j; rw [hH9]; simp
  clear hH9
  refine Jb (es:=[]) (mid:=H.n+1) (bx:=H.n) (R:=R) (k:=k) (v:=v) ⟨by rw [g9,if_neg (by omega),if_pos rfl]; rfl,by simp,(fun p hp=>by cases hp),(fun p hp=>by cases hp),(fun p hp=>by cases hp),fun q _=>hR q⟩ hl (by rw [g9,if_pos rfl]) b0 (by omega) (by omega) (by omega) (by omega) (fun j hj=>?_) (by rw [g9,if_neg (by omega),if_neg (by omega),if_pos rfl]) (by omega) (by omega) (by omega) (fun p hp=>by cases hp) fun H' h' u=>hK H' h' ⟨by have:=u.n; omega,fun j hj=>?_⟩
  ·rw [g9,if_neg (by omega),if_neg (by omega),if_neg (by omega)]
   exact h.ok j (by omega)
  ·rw [u.g j hj,g9,if_neg (by omega),if_neg (by omega),if_neg (by omega)]
 ·have l0:ldA false 1 (H.new (.cells (iA k) true)) (.ptr b 0)=some (.mp mid):=by
   rw [aL,bN,if_neg e2,hb]; rfl
  have em:vu .eql (.mp mid) (.lit (.map none))=some (Bo false):=rfl
  simp only [l0,em,aa,ai,Bool.false_eq_true,if_false]
  have u1:Up H.n H (H.new (.cells (iA k) true)):=by
   refine ⟨by simp,fun j hj=>?_⟩
   have:j≠H.n:=by omega
   simp [this]
  refine Jb (he.mono mlt u1) hl (by rw [u1.g _ blt]; exact hb) b0 m0 hmb (by simp; omega) (by simp; omega) (jZ h.ok _) (bx:=H.n) (by simp) (by simp) (by omega) (by omega) (fun p hp ho=>by have:=(he.gs p hp).ownlt ho; omega) fun H' h' u=>hK H' h' ((u1.le (by omega)).trans u)
end
end Go.Proofs.YthdcghnjndhecaaGreat.Ev
namespace Go.Proofs.YthdcghnjndhecaaGreat.Ev
set_option linter.unusedVariables false
set_option linter.unusedSimpArgs false
variable {σ:Sig}
def lC (s:Sl):Option Key:=(s[s.length - 1]?).map fun p=>qm p.c
def rwS (k:Key) (i:Nat):List Sl→List Int
 | []=>[]
 | s::r=>if lC s=some k then (i:Int)::rwS k i r else rwS k i r
def rwR (k:Key):Nat→List RL→List Int
 | _,[]=>[]
 | i,r::l=>rwS k i r.sels++rwR k (i+1) l
theorem B4 (s:Sl) (r:List Sl):zv (s::r)=(if 0<s.length then 1 else 0)+zv r:=by
 unfold zv
 by_cases h:0<s.length
 ·simp [h]; omega
 ·simp [h]
theorem xK {s:Sl} (h:¬ 0<s.length):lC s=none:=by
 have:s=[]:=List.length_eq_zero_iff.1 (by omega)
 subst this; rfl
section
attribute [local irreducible] aP.L0 aP.L1 aP.J2
theorem MA (l:List RL) (hl:Rl8 l) {H:Hp} (ok:∀ j,H.n≤j→H.get j=none) {K:AV→Hp→Prop} (hK:∀ H' b,Bk H.n H' b (fun k=>rwR k 0 l) (sD l)→Up H.n H H'→K (.ptr b 0) H'):av Tryz.prog σ kB [rls l] H K:=by
 have hlen:=hl.len
 refine aP.run ?_
 have hb0:dy [.lit (.map none),I 0] []=some [.lit (.map none),I 0]:=rfl
 simp only [hb0,aa,cJ,lU]
 obtain ⟨b,hb⟩:∃ b,b=H.n:=⟨_,rfl⟩
 obtain ⟨n0,hn0⟩:∃ n0,n0=H.n:=⟨_,rfl⟩
 have L0:∀ (f i:Nat) (H1:Hp) (R:Key→List Int) (cnt:Nat) (y4 y19 y20 y21:AV),l.length - i=f→i≤l.length→Bk n0 H1 b R cnt→Up n0 H H1→(∀ k,R k++rwR k i (l.drop i)=rwR k 0 l)→cnt+sD (l.drop i)=sD l→(∀ k,(R k).length≤cnt)→cnt≤8*i →
   aP.L0 σ K (.ptr b 0) y4 (rls l) (I l.length) (I (i:Int)) y19 y20 y21 H1:=by
  intro f
  induction f with
  | zero =>
   intro i H1 R cnt y4 y19 y20 y21 hf hi hB hU hR hc hrl hcl
   have:i=l.length:=by omega
   subst this
   refine aP.L0_step ?_
   simp only [a_,aa,Int.lt_irrefl,decide_false,ai,Bool.false_eq_true,if_false]
   rw [List.drop_length] at hR hc
   have e1:R=fun k=>rwR k 0 l:=by
    funext k
    have:=hR k
    simpa [rwR] using this
   have e2:cnt=sD l:=by simpa [sD] using hc
   rw [e1,e2,hn0] at hB
   rw [hn0] at hU
   exact hK H1 b hB hU
  | succ f ih =>
   intro i H1 R cnt y4 y19 y20 y21 hf hi hB hU hR hc hrl hcl
   have hlt:i<l.length:=by omega
   have hlt':(i:Int)<l.length:=by omega
   obtain ⟨r,hr⟩:=bp hlt
   have hrm:=List.mem_of_getElem? hr
   have h8:=hl.sels r hrm
   rw [bK hr] at hR hc
   have hix:az 2 (rls l) (I (i:Int))=some (.ip (d8 r)):=bm hr
   have lr:∀ H:Hp,ldA true 2 H (.ip (d8 r))=some (.agg (d8 r)):=fun _=>rfl
   refine aP.L0_step ?_
   simp only [a_,aa,hlt',decide_true,ai,if_true,hix,lr,bA]
   obtain ⟨H2,hH2⟩:∃ H2,H2=(H1.new (.cells [.lit (.slice none 0 0),.lit (.slice none 0 0)] true)).set H1.n (some (.cells (d8 r) true)):=⟨_,rfl⟩
   have st:stA 2 (H1.new (.cells [.lit (.slice none 0 0),.lit (.slice none 0 0)] true)) (.ptr H1.n 0) (.agg (d8 r))=some H2:=by
    rw [eV,hH2]; simp [d8]; exact ⟨rfl,rfl⟩
   have g2:H2.get H1.n=some (.cells (d8 r) true):=by rw [hH2]; simp
   have u2:Up H1.n H1 H2:=by
    rw [hH2]
    refine ⟨by simp,fun j hj=>?_⟩
    have:j≠H1.n:=by omega
    simp [this]
   have ok2:∀ j,H2.n≤j→H2.get j=none:=by
    rw [hH2]
    exact ra (jZ hB.ok _) (by simp) _
   clear hH2
   have l2:ldA false 1 H2 (.ptr H1.n 0)=some (sls r.sels):=by rw [aL,g2]; rfl
   simp only [st,aa,bu,Nat.zero_add,l2,kv]
   have L1:∀ (g m:Nat) (H1:Hp) (R:Key→List Int) (cnt:Nat),r.sels.length - m=g→m≤r.sels.length→Bk n0 H1 b R cnt→Up n0 H H1→(∀ k,R k++(rwS k i (r.sels.drop m)++rwR k (i+1) (l.drop (i+1)))=rwR k 0 l)→cnt+(zv (r.sels.drop m)+sD (l.drop (i+1)))=sD l→(∀ k,(R k).length≤cnt)→cnt≤8*i+m →
     aP.L1 σ K (.ptr b 0) (I (i:Int)) (rls l) (I l.length) (I (i:Int)) (sls r.sels) (I r.sels.length) (I (m:Int)) H1:=by
    intro g
    induction g with
    | zero =>
     intro m H1 R cnt hf hm hB hU hR hc hrl hcl
     have:m=r.sels.length:=by omega
     subst this
     refine aP.L1_step ?_
     simp only [a_,aa,Int.lt_irrefl,decide_false,ai,Bool.false_eq_true,if_false,bF,bq (show i<9000000000000000000 by omega)]
     rw [List.drop_length] at hR hc
     refine ih (i+1) H1 R cnt _ _ _ _ (by omega) (by omega) hB hU (fun k=>by have:=hR k; simpa [rwS] using this) (by simpa [zv] using hc) hrl (by omega)
    | succ g ihg =>
     intro m H1 R cnt hf hm hB hU hR hc hrl hcl
     have hml:m<r.sels.length:=by omega
     have hml':(m:Int)<r.sels.length:=by omega
     obtain ⟨s,hs⟩:=bp hml
     have hsm:=List.mem_of_getElem? hs
     have hsl:=hl.parts r hrm s hsm
     rw [bK hs,B4] at hc
     have his:az 1 (sls r.sels) (I (m:Int))=some (.ip (aH s)):=bm hs
     refine aP.L1_step ?_
     simp only [a_,aa,hml',decide_true,ai,if_true,his,dX,lY,bA]
     obtain ⟨H2,hH2⟩:∃ H2,H2=(H1.new (.cells [.lit (.slice none 0 0)] true)).set H1.n (some (.cells (aH s) true)):=⟨_,rfl⟩
     have st:stA 1 (H1.new (.cells [.lit (.slice none 0 0)] true)) (.ptr H1.n 0) (.agg (aH s))=some H2:=by
      rw [eV,hH2]; simp [aH]
     have g2:H2.get H1.n=some (.cells (aH s) true):=by rw [hH2]; simp
     have u2:Up H1.n H1 H2:=by
      rw [hH2]
      refine ⟨by simp,fun j hj=>?_⟩
      have:j≠H1.n:=by omega
      simp [this]
     have ok2:∀ j,H2.n≤j→H2.get j=none:=by
      rw [hH2]
      exact ra (jZ hB.ok _) (by simp) _
     clear hH2
     have hB2:=hB.mono u2 ok2
     have hU2:Up n0 H H2:=hU.trans (u2.le (by have:=hB.b0; have:=hB.blt; omega))
     have l2:ldA false 1 H2 (.ptr H1.n 0)=some (.imm 6 (s.map bo)):=by rw [aL,g2]; rfl
     have J2:∀ (H3:Hp) (R':Key→List Int) (cnt':Nat),Bk n0 H3 b R' cnt'→Up n0 H H3→(∀ k,R' k++(rwS k i (r.sels.drop (m+1))++rwR k (i+1) (l.drop (i+1)))=rwR k 0 l)→cnt'+(zv (r.sels.drop (m+1))+sD (l.drop (i+1)))=sD l→(∀ k,(R' k).length≤cnt')→cnt'≤8*i+(m+1) →
       aP.J2 σ K (.ptr b 0) (I (i:Int)) (rls l) (I l.length) (I (i:Int)) (sls r.sels) (I r.sels.length) (I (m:Int)) H3:=by
      intro H3 R' cnt' h1 h2 h3 h4 h5 h6
      refine aP.J2_step ?_
      simp only [bF,aa,bq (show m<9000000000000000000 by omega)]
      exact ihg (m+1) H3 R' cnt' (by omega) (by omega) h1 h2 h3 h4 h5 h6
     simp only [st,aa,bu,Nat.zero_add,l2,bW,List.length_map,eI]
     by_cases hpos:0<s.length
     ·have hpos':(0:Int)<s.length:=by omega
      obtain ⟨p,hp⟩:=bp (show s.length - 1<s.length by omega)
      have hw:wr .i64 ((s.length:Int) - 1)=((s.length - 1:Nat):Int):=by rw [cM (by omega) (by omega)]; omega
      have hip:az 6 (.imm 6 (s.map bo)) (I ((s.length - 1:Nat):Int))=some (.ip (bo p)):=bm hp
      have lp:∀ H:Hp,ldA true 5 H (.ip ((bo p).drop 1))=some (.agg (bU p.c)):=fun H=>by rw [dm,dX]; exact Am _
      have hkey:lC s=some (qm p.c):=by simp [lC,hp]
      simp only [hpos',decide_true,ai,if_true,kK,aa,bu,ki,hw,hip,iJ,lp]
      refine ak (Rn p.c _) ?_
      refine Nv hB2 (by have:=hrl (qm p.c); omega) fun H4 h4 u4=>?_
      obtain ⟨mm,hbm,_⟩:=h4.look
      have l4:ldA false 1 H4 (.ptr b (0+1))=some (I cnt):=by rw [aL,hbm]; rfl
      have w4:wr .i64 ((cnt:Int)+1)=((cnt+1:Nat):Int):=bq (by omega)
      have s4:stA 1 H4 (.ptr b (0+1)) (I ((cnt+1:Nat):Int))=some (H4.set b (some (.cells [mm,I ((cnt+1:Nat):Int)] true))):=by
       rw [vO,hbm]; simp
      simp only [kK,aa,bu,l4,bF,w4,s4]
      refine J2 _ (sF R (qm p.c) (i:Int)) (cnt+1) ?_ ?_ ?_ (by rw [if_pos hpos] at hc; omega) (fun k=>?_) (by omega)
      ·-- the number stands beside the map
       have blt:=h4.blt
       refine ⟨h4.b0,by simpa using blt,ra h4.ok blt _,?_⟩
       rcases h4.m with ⟨h5,h6⟩ | ⟨mid,es,h5,h6,h7,h8,h9⟩
       ·rw [hbm] at h5
        cases h5
        exact .inl ⟨by simp,h6⟩
       ·rw [hbm] at h5
        cases h5
        refine .inr ⟨mid,es,by simp,h6,h7,by simpa using h8,?_⟩
        refine ⟨by simp [h7]; exact h9.hm,h9.nd,fun q hq=>(h9.gs q hq).keep (fun j hj=>?_) (by simp),h9.ow,h9.sep,h9.no⟩
        have:=(h9.ow q hq j hj).2.1
        simp [this]
      ·refine (hU2.trans u4).trans ⟨by simp,fun j hj=>?_⟩
       have:j≠b:=by have:=h4.b0; omega
       simp [this]
      ·intro k
       have:=hR k
       rw [bK hs,rwS] at this
       by_cases hk:k=qm p.c
       ·subst hk
        rw [if_pos hkey] at this
        rw [← this]
        simp [sF]
       ·rw [if_neg (fun e=>hk (by rw [hkey] at e; cases e; rfl))] at this
        simp only [sF,hk,if_false]
        exact this
      ·unfold sF
       split
       ·rename_i e
        subst e
        have:=hrl (qm p.c)
        simp; omega
       ·have:=hrl k; omega
     ·have hpos':¬ (0:Int)<s.length:=by omega
      simp only [hpos',decide_false,ai,Bool.false_eq_true,if_false]
      refine J2 H2 R cnt hB2 hU2 (fun k=>?_) (by rw [if_neg hpos] at hc; omega) hrl (by omega)
      have:=hR k
      rw [bK hs,rwS,if_neg (by rw [xK hpos]; simp)] at this
      exact this
   exact L1 _ 0 H2 R cnt rfl (Nat.zero_le _) (hB.mono u2 ok2) (hU.trans (u2.le (by have:=hB.b0; have:=hB.blt; omega))) (fun k=>by rw [List.drop_zero]; have:=hR k; simpa [rwR] using this) (by rw [List.drop_zero]; simpa [sD] using hc) hrl (by omega)
 have u0:Up n0 H (H.new (.cells [.lit (.map none),I 0] true)):=by
  refine ⟨by simp,fun j hj=>?_⟩
  have:j≠H.n:=by omega
  simp [this]
 have B0:Bk n0 (H.new (.cells [.lit (.map none),I 0] true)) b (fun _=>[]) 0 :=
  ⟨by omega,by simp; omega,jZ ok _,.inl ⟨by rw [hb]; simp,fun _=>rfl⟩⟩
 have:=L0 _ 0 _ (fun _=>[]) 0 (.lit undef) (.lit undef) (.lit undef) (.lit undef) rfl (Nat.zero_le _) B0 u0 (fun k=>by simp) (by simp) (fun k=>by simp) (Nat.zero_le _)
 rw [hb] at this
 exact this
end
end Go.Proofs.YthdcghnjndhecaaGreat.Ev
namespace Go.Proofs.YthdcghnjndhecaaGreat.Ev
set_option linter.unusedVariables false
set_option linter.unusedSimpArgs false
variable {σ:Sig}
theorem Tg {n:Nat} (h:n<9000000000000000000):wr .i64 (n:Int)=(n:Int):=cM (by omega) (by omega)
theorem xe {bytes:Nat} {H:Hp} {id:Nat} {cs:List AV} {ex:Bool} {y:AV} {rows:List (List AV)} (ok:∀ j,H.n≤j→H.get j=none) (hid:id<H.n) (hg:H.get id=some (.cells cs ex)) (hns:j8 y=true) (hs:jk H 1 y=some (rows.length,rows.flatten)) (h2:∀ row ∈ rows,row.length=1) (hone:rows.flatten.all AV.one=true)
  (hb:rows.length*bytes≤140737488355328) (hn:rows.length≤4611686018427387904) (h0:rows.length≠0) :
  ∃ x' H',eA false 1 bytes H (.sl id 0 1 0 none) y=some (x',H')∧Gs 1 H' x' rows∧H.n≤H'.n∧(∀ j,j<H.n→j≠id→H'.get j=H.get j)∧(∀ j,own x' j→H.n≤j)∧∀ j,H'.n≤j→H'.get j=none:=by
 unfold eA
 simp only [hns,cond_true,hs,hone,mj,rp,h0,decide_false,cond_false,hg]
 refine ⟨.sl H.n 0 1 rows.length none,(H.set id none).new (.cells rows.flatten false),by simp [hb,hn],.sl (ex:=false) (by simp) (by simp) h2,by simp,fun j hj hne=>?_,fun j hj=>by simp only [own] at hj; omega,fun j hj=>?_⟩
 ·have:j≠H.n:=by omega
  simp [this,hne]
 ·simp only [bN,Hp.n_new,ay,Hp.n_set] at hj ⊢
  rw [if_neg (by omega)]
  split
  ·rfl
  ·exact ok j (by omega)
section
attribute [local irreducible] aq.L0 aq.J1 aq.L2
theorem Cz {H:Hp} {id:Nat} {x y:AV} {a c:List Int} {ex:Bool} {K:AV→Hp→Prop} (ok:∀ j,H.n≤j→H.get j=none) (hid:id<H.n) (hg:H.get id=some (.cells [x,y] ex)) (hx:Gs 1 H x (a.map db)) (hy:Gs 1 H y (c.map db)) (ha:a.length≤100000) (hc:c.length≤100000)
  (hK:∀ H' r,Gs 1 H' r ((a++c).map db)→Up H.n H H'→(∀ j,H'.n≤j→H'.get j=none)→(∀ j,own r j→H.n≤j)→K r H'):av Tryz.prog σ dW [.sl id 0 1 2 (some 2)] H K:=by
 refine aq.run ?_
 have lx:=hx.len
 have ly:=hy.len
 rw [List.length_map] at lx ly
 have i0:az 1 (.sl id 0 1 2 (some 2)) (I 0)=some (.ptr id 0):=by rw [nW (by omega) (by omega)]; rfl
 have i1:az 1 (.sl id 0 1 2 (some 2)) (I 1)=some (.ptr id 1):=by rw [nW (by omega) (by omega)]; rfl
 have l0:∀ H1:Hp,H1.get id=H.get id→ldA false 1 H1 (.ptr id 0)=some x:=fun H1 h=>by rw [aL,h,hg]; rfl
 have l1:∀ H1:Hp,H1.get id=H.get id→ldA false 1 H1 (.ptr id 1)=some y:=fun H1 h=>by rw [aL,h,hg]; rfl
 have d0:decide ((0:Int)<(2:Nat))=true:=rfl
 have d1:decide ((1:Int)<(2:Nat))=true:=rfl
 have d2:decide ((2:Int)<(2:Nat))=false:=rfl
 have w1:wr .i64 ((0:Int)+1)=1:=rfl
 have w2:wr .i64 ((1:Int)+1)=2:=rfl
 have s1:wr .i64 ((0:Int)+a.length)=(a.length:Int):=by rw [Int.zero_add]; exact Tg (by omega)
 have s2:wr .i64 ((a.length:Int)+c.length)=((a.length+c.length:Nat):Int):=by rw [← Int.natCast_add]; exact Tg (by omega)
 have n1:¬ (a.length:Int)<0:=by omega
 have n2:¬ ((a.length+c.length:Nat):Int)<0:=by omega
 simp only [rq,aa]
 refine aq.L0_step ?_
 simp only [a_,aa,d0,ai,if_true,i0,l0 H rfl,lx,bF,s1,n1,decide_false,Bool.false_eq_true,if_false]
 refine aq.J1_step ?_
 simp only [bF,aa,w1]
 refine aq.L0_step ?_
 simp only [a_,aa,d1,ai,if_true,i1,l1 H rfl,ly,bF,s2,n2,decide_false,Bool.false_eq_true,if_false]
 refine aq.J1_step ?_
 simp only [bF,aa,w2]
 refine aq.L0_step ?_
 simp only [a_,aa,d2,ai,Bool.false_eq_true,if_false]
 have fin:∀ (H1:Hp) (r:AV) (y3 y9 y10 y11:AV),(∀ j,H1.n≤j→H1.get j=none)→Up H.n H H1→((r=.lit (.slice none 0 0)∧a.length+c.length=0)∨∃ i cs e,r=.sl i 0 1 0 none∧H.n≤i∧i<H1.n∧H1.get i=some (.cells cs e)∧a.length+c.length≠0) →
   aq.L2 σ K (.sl id 0 1 2 (some 2)) y3 r y9 y10 y11 (.sl id 0 1 2 (some 2)) (I (2:Nat)) (I 0) H1:=by
  intro H1 r y3 y9 y10 y11 ok1 u1 hr
  have x1:Gs 1 H1 x (a.map db):=hx.keep (fun j hj=>u1.g j (hx.ownlt hj)) u1.n
  have y1:Gs 1 H1 y (c.map db):=hy.keep (fun j hj=>u1.g j (hy.ownlt hj)) u1.n
  have step:∃ x' H2,eA false 1 8 H1 r x=some (x',H2)∧(∀ j,H2.n≤j→H2.get j=none)∧Up H.n H1 H2∧((a.length≠0∧Gs 1 H2 x' (a.map db)∧∀ j,own x' j→H.n≤j)∨(a.length=0∧x'=r∧H2=H1)):=by
   by_cases h0:a.length=0
   ·have e:a=[]:=List.length_eq_zero_iff.1 h0
    subst e
    refine ⟨r,H1,?_,ok1,.refl,.inr ⟨rfl,rfl,rfl⟩⟩
    have hs:jk H1 1 x=some (0,[]):=x1.src.2
    unfold eA
    rcases hr with ⟨rfl,_⟩ | ⟨i,cs,e,rfl,_⟩<;>simp [x1.src.1,hs]
   ·rcases hr with ⟨rfl,he⟩ | ⟨i,cs,e,rfl,hi,hin,hgi,_⟩
    ·omega
    ·obtain ⟨x',H2,e1,e2,e3,e4,e5,e6⟩:=xe (bytes:=8) ok1 hin hgi x1.src.1 x1.src.2 wW (og a) (by rw [List.length_map]; omega) (by rw [List.length_map]; omega) (by rw [List.length_map]; exact h0)
     exact ⟨x',H2,e1,e6,⟨e3,fun j hj=>e4 j (by have:=u1.n; omega) (by omega)⟩,.inl ⟨h0,e2,fun j hj=>by have:=e5 j hj; have:=u1.n; omega⟩⟩
  obtain ⟨x',H2,e1,ok2,u2,hx'⟩:=step
  have u12:=u1.trans u2
  refine aq.L2_step ?_
  simp only [a_,aa,d0,ai,if_true,i0,l0 H1 (u1.g id hid),e1,bF,w1]
  have y2:Gs 1 H2 y (c.map db):=hy.keep (fun j hj=>u12.g j (hy.ownlt hj)) u12.n
  have step2:∃ x2 H3,eA false 1 8 H2 x' y=some (x2,H3)∧(∀ j,H3.n≤j→H3.get j=none)∧Up H.n H2 H3∧Gs 1 H3 x2 ((a++c).map db)∧∀ j,own x2 j→H.n≤j:=by
   rcases hx' with ⟨h0,hgx,hox⟩ | ⟨h0,rfl,rfl⟩
   ·obtain ⟨x2,H3,f1,f2,f3⟩:=ta (bytes:=8) hgx y2.src.1 y2.src.2 wW (og c) (by simp; omega) (by simp; omega)
    refine ⟨x2,H3,f1,vX ok2 hgx y2.src.1 y2.src.2 (og c) (by simp; omega) (by simp; omega) f1,⟨f3.grow,fun j hj=>f3.same j (by have:=u12.n; omega) fun ho=>by have:=hox j ho; omega⟩,by rw [List.map_append]; exact f2,fun j hj=>?_⟩
    rcases f3.mine j hj with h | h
    ·exact hox j h
    ·have:=u12.n; omega
   ·have e:a=[]:=List.length_eq_zero_iff.1 h0
    subst e
    rw [List.nil_append]
    rcases hr with ⟨rfl,he⟩ | ⟨i,cs,e,rfl,hi,hin,hgi,hne⟩
    ·have hc0:c=[]:=List.length_eq_zero_iff.1 (by simpa using he)
     subst hc0
     have hs:jk H2 1 y=some (0,[]):=y2.src.2
     exact ⟨_,H2,by unfold eA; simp [y2.src.1,hs],ok2,.refl,.nil,fun j hj=>hj.elim⟩
    ·obtain ⟨x2,H3,e1,e2,e3,e4,e5,e6⟩:=xe (bytes:=8) ok2 hin hgi y2.src.1 y2.src.2 wW (og c) (by rw [List.length_map]; omega) (by rw [List.length_map]; omega) (by rw [List.length_map]; simpa using hne)
     exact ⟨x2,H3,e1,e6,⟨e3,fun j hj=>e4 j (by have:=u1.n; omega) (by omega)⟩,e2,fun j hj=>by have:=e5 j hj; have:=u1.n; omega⟩
  obtain ⟨x2,H3,f1,ok3,u3,hg3,ho3⟩:=step2
  refine aq.L2_step ?_
  simp only [a_,aa,d1,ai,if_true,i1,l1 H2 (u12.g id hid),f1,bF,w2]
  refine aq.L2_step ?_
  simp only [a_,aa,d2,ai,Bool.false_eq_true,if_false]
  exact hK H3 x2 hg3 (u12.trans u3) ok3 ho3
 by_cases hz:a.length+c.length=0
 ·rw [hz]
  refine ak (BX _) ?_
  simp only [rq,aa]
  exact fin H _ _ _ _ _ ok .refl (.inl ⟨rfl,hz⟩)
 ·refine ak (IE _ (by omega) (by omega) _) ?_
  simp only [rq,aa]
  refine fin _ _ _ _ _ _ (jZ ok _) ⟨by simp,fun j hj=>?_⟩ (.inr ⟨_,_,_,rfl,Nat.le_refl _,by simp,by simp; exact ⟨rfl,rfl⟩,hz⟩)
  have:j≠H.n:=by omega
  simp [this]
end
def Hp.up (H:Hp) (n:Nat):Hp:=⟨n,H.t⟩
@[simp] theorem po (H:Hp) (n j:Nat):(H.up n).get j=H.get j:=rfl
@[simp] theorem Ny (H:Hp) (n:Nat):(H.up n).n=n:=rfl
def qO (R:Key→List Int) (n:Nd):List Int:=((R (0,⟨#[]⟩)++R (3,n.tag))++(if n.id=⟨#[]⟩ then [] else R (1,n.id)))++n.classes.flatMap fun c=>R (2,c)
theorem AR:∀ l:List Int,(l.map db).flatten=l.map I
 | []=>rfl
 | a::l=>by simp [db,AR l]
def QB (n0:Nat) (H:Hp) (r:AV) (l:List Int):Prop:=(r=.lit (.slice none 0 0)∧l=[])∨∃ id cs ex,r=.sl id 0 1 l.length none∧n0≤id∧H.get id=some (.cells cs ex)∧∀ (j:Nat) (x:AV),(l.map I)[j]?=some x→cs[j]?=some x
theorem Be:∀ l:List Int,aK (l.map I)=true
 | []=>rfl
 | a::l=>by simp [aK,bt,Be l]
theorem au.nums {P:Program} {f:Nat} {xs:List AV} {r:AV} {H H1:Hp} {l:List Int} (h:au P σ f xs H r H1) (ok:∀ j,H.n≤j→H.get j=none) (u:Up H.n H H1) (hr:QB H.n H1 r l):au P σ f xs H (ek l) (H.up H1.n):=by
 have h2:∀ id k2,(H.up H1.n).get id=some k2→∃ k1,H1.get id=some k1∧∀ Hd,FzB Hd k1 k2:=by
  intro id k2 hk
  rw [po] at hk
  have hlt:id<H.n:=by
   rcases Nat.lt_or_ge id H.n with h | h
   ·exact h
   ·rw [ok id h] at hk; cases hk
  exact ⟨k2,by rw [u.g id hlt]; exact hk,fun Hd=>.refl Hd k2⟩
 rcases hr with ⟨rfl,rfl⟩ | ⟨id,cs,ex,rfl,hid,hg,hc⟩
 ·have hd0:∀ id,(Hp.bare H1.n).get id=none:=fun id=>by simp [Hp.bare,Hp.get,Tr.get]
  exact h.frzH (H2:=H.up H1.n) (Hd:=Hp.bare H1.n) rfl rfl (fun id k hk=>by rw [hd0] at hk; cases hk) (fun id k2 hk=>by obtain ⟨k1,e1,e2⟩:=h2 id k2 hk; exact ⟨k1,e1,e2 _⟩) (.inr .nil)
 ·have hd0:∀ j,((Hp.bare H1.n).set id (some (.cells cs ex))).get j=if j=id then some (.cells cs ex) else none:=fun j=>by
   rw [ay]
   split
   ·rfl
   ·simp [Hp.bare,Hp.get,Tr.get]
  refine h.frzH (H2:=H.up H1.n) (Hd:=(Hp.bare H1.n).set id (some (.cells cs ex))) rfl rfl (fun j k hk=>?_) (fun id k2 hk=>by obtain ⟨k1,e1,e2⟩:=h2 id k2 hk; exact ⟨k1,e1,e2 _⟩) (.inr ?_)
  ·rw [hd0] at hk
   split at hk
   ·rename_i e
    subst e
    cases hk
    exact ⟨hg,ok _ hid⟩
   ·cases hk
  ·have:=Fz.one (H:=(Hp.bare H1.n).set id (some (.cells cs ex))) (id:=id) (off:=0) (cap:=none) (cs:=cs) (xs:=l.map I) (ex:=ex) (by rw [hd0,if_pos rfl]) (fun j x hx=>by rw [Nat.zero_add]; exact hc j x hx) (Be l)
   rw [List.length_map,List.map_map] at this
   exact this
section
attribute [local irreducible] bi.J0 bi.L1
theorem Hn {n0:Nat} {H:Hp} {b cnt:Nat} {R:Key→List Int} (h:Bk n0 H b R cnt) (hR:∀ k,(R k).length≤1000) (n:Nd) (hn:n.classes.length≤50) :
  ∃ r H1,au Tryz.prog σ eD [.ptr b 0,.agg (aY n)] H r H1∧((∀ j,H1.n≤j→H1.get j=none)∧Up H.n H H1∧QB H.n H1 r (Go.Lib.compact (srt (qO R n)))):=by
  obtain ⟨Q,hQ⟩:∃ Q:AV→Hp→Prop,∀ r H1,Q r H1 ↔ ((∀ j,H1.n≤j→H1.get j=none)∧Up H.n H H1∧QB H.n H1 r (Go.Lib.compact (srt (qO R n)))):=⟨_,fun _ _=>Iff.rfl⟩
  suffices hs:∃ r H1,au Tryz.prog σ eD [.ptr b 0,.agg (aY n)] H r H1∧Q r H1 by
   obtain ⟨r,H1,h1,h2⟩:=hs
   exact ⟨r,H1,h1,(hQ r H1).1 h2⟩
  refine bi.run ?_
  have blt:=h.blt
  simp only [cJ]
  obtain ⟨H2,hH2⟩:∃ H2,H2=H.new (.cells (aY n) true):=⟨_,rfl⟩
  rw [← hH2]
  have n2:H2.n=H.n+1:=by rw [hH2]; rfl
  have g2:H2.get H.n=some (.cells (aY n) true):=by rw [hH2]; simp
  have ok2:∀ j,H2.n≤j→H2.get j=none:=by rw [hH2]; exact jZ h.ok _
  have u2:Up H.n H H2:=by
   rw [hH2]
   refine ⟨by simp,fun j hj=>?_⟩
   have:j≠H.n:=by omega
   simp [this]
  clear hH2
  have B2:=h.mono u2 ok2
  obtain ⟨m,hm,hlook⟩:=B2.look
  have look:∀ H3:Hp,Up H2.n H2 H3→(∀ j,H3.n≤j→H3.get j=none)→ldA false 1 H3 (.ptr b 0)=some m∧∀ k,∃ x,ko (.lit (.slice none 0 0)) true [.int .i64,.string] false H3 m (kyA k)=some x∧Gs 1 H3 x ((R k).map db):=by
   intro H3 u3 ok3
   have B3:=B2.mono u3 ok3
   obtain ⟨m3,hm3,hl3⟩:=B3.look
   have hb3:=u3.g b B2.blt
   rw [hm3,hm] at hb3
   cases hb3
   exact ⟨by rw [aL,hm3]; rfl,hl3⟩
  have lnd:∀ H3:Hp,Up H2.n H2 H3→H3.get H.n=some (.cells (aY n) true):=fun H3 u3=>by rw [u3.g _ (by omega)]; exact g2
  have ltag:∀ H3:Hp,Up H2.n H2 H3→ldA false 1 H3 (.ptr H.n 1)=some (Sx n.tag):=fun H3 u3=>by rw [aL,lnd H3 u3]; rfl
  have lid:∀ H3:Hp,Up H2.n H2 H3→ldA false 1 H3 (.ptr H.n 2)=some (Sx n.id):=fun H3 u3=>by rw [aL,lnd H3 u3]; rfl
  have lcl:∀ H3:Hp,Up H2.n H2 H3→ldA false 1 H3 (.ptr H.n 3)=some (cG n.classes):=fun H3 u3=>by rw [aL,lnd H3 u3]; rfl
  have k0:dy [I 0,.lit (.string ⟨#[]⟩)] [(0,1,I 0)]=some (iA (0,⟨#[]⟩)):=rfl
  have ks:∀ (k:Int) (s:ByteArray),dy [I 0,.lit (.string ⟨#[]⟩)] [(0,1,I k),(1,1,Sx s)]=some (iA (k,s)):=fun _ _=>rfl
  obtain ⟨x0,e0,gx0⟩:=(look H2 .refl ok2).2 (0,⟨#[]⟩)
  obtain ⟨x1,e1,gx1⟩:=(look H2 .refl ok2).2 (3,n.tag)
  have lm2:=(look H2 .refl ok2).1
  simp only [kyA] at e0 e1
  have hbl:cj [.slice none 0 0] 1 2 H2 [(0,1,x0),(1,1,x1)]=some (.sl H2.n 0 1 2 (some 2),H2.new (.cells [x0,x1] true)):=by
   simp [cj,dy,oZ,List.range_succ,gx0.cells.1,gx1.cells.1,gx0.cells.2,gx1.cells.2,mj,rp,bO]
  simp only [kK,aa,bu,Nat.zero_add,lm2,k0,e0,ltag H2 .refl,ks,e1,hbl]
  have u3:Up H2.n H2 (H2.new (.cells [x0,x1] true)):=by
   refine ⟨by simp,fun j hj=>?_⟩
   have:j≠H2.n:=by omega
   simp [this]
  refine Cz (jZ ok2 _) (by simp) (ex:=true) (by simp) (gx0.keep (fun j hj=>u3.g j (gx0.ownlt hj)) u3.n) (gx1.keep (fun j hj=>u3.g j (gx1.ownlt hj)) u3.n) (by have:=hR (0,⟨#[]⟩); omega) (by have:=hR (3,n.tag); omega) fun H4 r4 hg4 u4 ok4 ho4=>?_
  have u24:Up H2.n H2 H4:=u3.trans (u4.le (by simp))
  have n3:(H2.new (Blk.cells [x0,x1] true)).n=H2.n+1:=rfl
  rw [n3] at ho4
  have fin:∀ (H5:Hp) (y5:AV),(∀ j,H5.n≤j→H5.get j=none)→Up H2.n H2 H5→Gs 1 H5 y5 ((qO R n).map db)→(∀ j,own y5 j→H2.n≤j) →
    av Tryz.prog σ eS [y5] H5 fun x12 H13=>av Tryz.prog σ dJ [y5] H13 fun x14 H15=>Q x14 H15:=by
   intro H5 y5 ok5 u5 hg5 ho5
   have hlen:(qO R n).length≤1000000:=by
    have h1:=hR (0,⟨#[]⟩)
    have h2:=hR (3,n.tag)
    have h3:(if n.id=⟨#[]⟩ then [] else R (1,n.id)).length≤1000:=by
     split
     ·simp
     ·exact hR _
    have h4:(n.classes.flatMap fun c=>R (2,c)).length≤1000*n.classes.length:=by
     generalize n.classes=cs
     induction cs with
     | nil=>simp
     | cons c cs ih=>simp only [List.flatMap_cons,List.length_append,List.length_cons]; have:=hR (2,c); omega
    simp only [qO,List.length_append]
    omega
   generalize qO R n=l at hg5 hlen hQ
   have u05:Up H.n H H5:=u2.trans (u5.le (by omega))
   generalize hrows:l.map db=rows at hg5
   cases hg5 with
   | nil =>
    have hl:l=[]:=by simpa using hrows
    subst hl
    refine ak (Ku _) (ak (yy _) ?_)
    rw [hQ]
    exact ⟨ok5,u05,.inl ⟨rfl,by simp [srt,Go.Lib.compact,Go.Lib.compactUpTo]⟩⟩
   | sl hlt hg hsz =>
    rename_i id ex
    subst hrows
    rw [AR] at hg
    rw [List.length_map]
    refine ak (Nx hg hlen) ?_
    have sl:(srt l).length=l.length:=by simp [srt]
    have hg2:(H5.set id (some (.cells ((srt l).map I) ex))).get id=some (.cells ((srt l).map I) ex):=by simp
    have hc:=zH (σ:=σ) hg2 (by omega)
    rw [sl] at hc
    refine ak hc ?_
    rw [hQ]
    have hid:H2.n≤id:=ho5 id rfl
    refine ⟨ra (ra ok5 hlt _) (by simpa using hlt) _,⟨by simp; exact u05.n,fun j hj=>?_⟩,.inr ⟨id,_,ex,rfl,by omega,by rw [ay,if_pos rfl],fun j x hx=>?_⟩⟩
    ·have:j≠id:=by omega
     simp [this]; exact u05.g j hj
    ·rw [List.map_append]
     rw [List.getElem?_append_left (by have:=(List.getElem?_eq_some_iff.1 hx).1; exact this)]
     exact hx
  have L1:∀ (f i:Nat) (H5:Hp) (y5:AV) (acc:List Int),n.classes.length - i=f→i≤n.classes.length→(∀ j,H5.n≤j→H5.get j=none)→Up H2.n H2 H5→Gs 1 H5 y5 (acc.map db)→(∀ j,own y5 j→H2.n≤j)→acc++(n.classes.drop i).flatMap (fun c=>R (2,c))=qO R n→acc.length≤3000+1000*i →
    bi.L1 σ Q (.ptr b 0) (.ptr H.n 0) y5 (cG n.classes) (I n.classes.length) (I (i:Int)) H5:=by
   intro f
   induction f with
   | zero =>
    intro i H5 y5 acc hf hi ok5 u5 hg5 ho5 hacc hal
    have:i=n.classes.length:=by omega
    subst this
    refine bi.L1_step ?_
    simp only [a_,aa,Int.lt_irrefl,decide_false,ai,Bool.false_eq_true,if_false]
    rw [List.drop_length] at hacc
    have:acc=qO R n:=by simpa using hacc
    subst this
    exact fin H5 y5 ok5 u5 hg5 ho5
   | succ f ih =>
    intro i H5 y5 acc hf hi ok5 u5 hg5 ho5 hacc hal
    have hil:i<n.classes.length:=by omega
    have hil':(i:Int)<n.classes.length:=by omega
    obtain ⟨c,hc⟩:=bp hil
    have hix:az 1 (cG n.classes) (I (i:Int))=some (.ip [Sx c]):=bm hc
    have lc:∀ H:Hp,ldA false 1 H (.ip [Sx c])=some (Sx c):=fun _=>rfl
    obtain ⟨lm5,lk5⟩:=look H5 u5 ok5
    obtain ⟨x,ex,gx⟩:=lk5 (2,c)
    simp only [kyA] at ex
    have hRc:=hR (2,c)
    refine bi.L1_step ?_
    obtain ⟨y6,H6,happ,hg6,hfr⟩:=ta (bytes:=8) hg5 gx.src.1 gx.src.2 wW (og _) (by simp; omega) (by simp; omega)
    simp only [a_,aa,hil',decide_true,ai,if_true,hix,lc,kK,bu,Nat.zero_add,lm5,ks,ex,happ,bF,bq (show i<9000000000000000000 by omega)]
    refine ih (i+1) H6 y6 (acc++R (2,c)) (by omega) (by omega) (vX ok5 hg5 gx.src.1 gx.src.2 (og _) (by simp; omega) (by simp; omega) happ) ?_ (by rw [List.map_append]; exact hg6) (fun j hj=>?_) ?_ (by simp; omega)
    ·refine u5.trans ⟨hfr.grow,fun j hj=>hfr.same j (by have:=u5.n; omega) fun ho=>by have:=ho5 j ho; omega⟩
    ·rcases hfr.mine j hj with h | h
     ·exact ho5 j h
     ·have:=u5.n; omega
    ·rw [← hacc,bK hc]
     simp
  have J0:∀ (H5:Hp) (y5:AV) (acc:List Int),(∀ j,H5.n≤j→H5.get j=none)→Up H2.n H2 H5→Gs 1 H5 y5 (acc.map db)→(∀ j,own y5 j→H2.n≤j)→acc=((R (0,⟨#[]⟩)++R (3,n.tag))++(if n.id=⟨#[]⟩ then [] else R (1,n.id)))→acc.length≤3000 →
    bi.J0 σ Q (.ptr b 0) (.ptr H.n 0) y5 (.lit undef) (.lit undef) (.lit undef) H5:=by
   intro H5 y5 acc ok5 u5 hg5 ho5 hacc hal
   refine bi.J0_step ?_
   simp only [bu,aa,Nat.zero_add,lcl H5 u5,kG]
   exact L1 _ 0 H5 y5 acc rfl (Nat.zero_le _) ok5 u5 hg5 ho5 (by rw [hacc]; rfl) (by omega)
  have h0:=hR (0,⟨#[]⟩)
  have h3:=hR (3,n.tag)
  simp only [lid H4 u24,nv,aa,ai]
  by_cases hid:n.id=⟨#[]⟩
  ·simp only [hid,decide_true,Bool.not_true,Bool.false_eq_true,if_false]
   exact J0 H4 r4 _ ok4 u24 hg4 (fun j hj=>by have:=ho4 j hj; omega) (by rw [if_pos hid]; simp) (by simp; omega)
  ·obtain ⟨lm4,lk4⟩:=look H4 u24 ok4
   obtain ⟨x,ex,gx⟩:=lk4 (1,n.id)
   simp only [kyA] at ex
   have hRc:=hR (1,n.id)
   obtain ⟨y6,H6,happ,hg6,hfr⟩:=ta (bytes:=8) hg4 gx.src.1 gx.src.2 wW (og _) (by simp; omega) (by simp; omega)
   simp only [hid,decide_false,Bool.not_false,if_true,lm4,lid H4 u24,ks,ex,happ,aa]
   refine J0 H6 y6 ((R (0,⟨#[]⟩)++R (3,n.tag))++R (1,n.id)) (vX ok4 hg4 gx.src.1 gx.src.2 (og _) (by simp; omega) (by simp; omega) happ) ?_ (by rw [List.map_append]; exact hg6) (fun j hj=>?_) (by rw [if_neg hid]) (by simp; omega)
   ·refine u24.trans ⟨hfr.grow,fun j hj=>hfr.same j (by have:=u24.n; omega) fun ho=>by have:=ho4 j ho; omega⟩
   ·rcases hfr.mine j hj with h | h
    ·have:=ho4 j h; omega
    ·have:=u24.n; omega
theorem HK {n0:Nat} {H:Hp} {b cnt:Nat} {R:Key→List Int} (h:Bk n0 H b R cnt) (hR:∀ k,(R k).length≤1000) (n:Nd) (hn:n.classes.length≤50) :
  ∃ H1:Hp,au Tryz.prog σ eD [.ptr b 0,.agg (aY n)] H (ek (Go.Lib.compact (srt (qO R n)))) (H.up H1.n)∧H.n≤H1.n:=by
 obtain ⟨r,H1,h1,_,h2,h3⟩:=Hn (σ:=σ) h hR n hn
 exact ⟨H1,h1.nums h.ok h2 h3,h2.n⟩
end
end Go.Proofs.YthdcghnjndhecaaGreat.Ev
namespace Go.Proofs.YthdcghnjndhecaaGreat.Ev
set_option linter.unusedVariables false
set_option linter.unusedSimpArgs false
theorem K0 {l:List ByteArray} {s:ByteArray}:j6 l s=true ↔ s ∈ l:=by
 unfold j6
 rw [List.any_eq_true]
 exact ⟨fun ⟨x,hx,e⟩=>by rw [← of_decide_eq_true e]; exact hx,fun h=>⟨s,h,by simp⟩⟩
theorem wJ {zs:List Int} (hs:zs.Pairwise (·≤·)):(Go.Lib.compact zs).Pairwise (·<·)∧∀ x,x ∈ Go.Lib.compact zs ↔ x ∈ zs:=by
 have hle:∀ i j (hi:i<zs.length) (hj:j<zs.length),i≤j→zs[i]≤zs[j]:=by
  intro i j hi hj hij
  rcases Nat.lt_or_eq_of_le hij with h | h
  ·exact List.pairwise_iff_getElem.1 hs i j hi hj h
  ·subst h; exact Int.le_refl _
 have main:∀ m,m≤zs.length→(Go.Lib.compactUpTo zs.toArray m).Pairwise (·<·)∧∀ x,x ∈ Go.Lib.compactUpTo zs.toArray m ↔ ∃ i,∃ h:i<zs.length,i<m∧zs[i]=x:=by
  intro m
  induction m with
  | zero =>
   intro _
   refine ⟨by simp [Go.Lib.compactUpTo],fun x=>?_⟩
   simp [Go.Lib.compactUpTo]
  | succ m ih =>
   intro hm
   obtain ⟨h1,h2⟩:=ih (by omega)
   have hml:m<zs.length:=by omega
   have e1:zs.toArray[m]! = zs[m]:=by simp [hml]
   rw [Go.Lib.compactUpTo_succ,e1]
   by_cases hk:Go.Lib.keeps zs.toArray m=true
   ·rw [if_pos hk]
    refine ⟨List.pairwise_append.2 ⟨h1,by simp,fun a ha b hb=>?_⟩,fun x=>?_⟩
    ·rw [List.mem_singleton.1 hb]
     obtain ⟨i,hi,him,rfl⟩:=(h2 a).1 ha
     simp only [Go.Lib.keeps,decide_eq_true_eq] at hk
     rcases hk with hk | hk
     ·omega
     ·have hm1:m - 1<zs.length:=by omega
      have e2:zs.toArray[m - 1]! = zs[m - 1]:=by simp [hm1]
      rw [e1,e2] at hk
      have a1:=hle i (m - 1) hi hm1 (by omega)
      have a2:=hle (m - 1) m hm1 hml (by omega)
      omega
    ·rw [List.mem_append,h2,List.mem_singleton]
     constructor
     ·rintro (⟨i,hi,him,e⟩ | rfl)
      ·exact ⟨i,hi,by omega,e⟩
      ·exact ⟨m,hml,by omega,rfl⟩
     ·rintro ⟨i,hi,him,e⟩
      by_cases h:i=m
      ·subst h; exact .inr e.symm
      ·exact .inl ⟨i,hi,by omega,e⟩
   ·rw [if_neg hk,List.append_nil]
    refine ⟨h1,fun x=>?_⟩
    rw [h2]
    constructor
    ·rintro ⟨i,hi,him,e⟩
     exact ⟨i,hi,by omega,e⟩
    ·rintro ⟨i,hi,him,e⟩
     by_cases h:i=m
     ·subst h
      simp only [Go.Lib.keeps,decide_eq_true_eq] at hk
      have hm0:i≠0:=fun e=>hk (.inl e)
      have hm1:i - 1<zs.length:=by omega
      have e2:zs.toArray[i - 1]! = zs[i - 1]:=by simp [hm1]
      have:zs[i]=zs[i - 1]:=by
       rw [e1,e2] at hk
       exact Decidable.byContradiction fun hne=>hk (.inr hne)
      exact ⟨i - 1,hm1,by omega,by rw [← this]; exact e⟩
     ·exact ⟨i,hi,by omega,e⟩
 obtain ⟨h1,h2⟩:=main zs.length (Nat.le_refl _)
 refine ⟨h1,fun x=>?_⟩
 rw [show Go.Lib.compact zs=Go.Lib.compactUpTo zs.toArray zs.length from rfl,h2]
 constructor
 ·rintro ⟨i,hi,_,rfl⟩; exact List.getElem_mem hi
 ·intro hx
  obtain ⟨i,hi,e⟩:=List.getElem_of_mem hx
  exact ⟨i,hi,hi,e⟩
theorem J6 (l:List Int):(srt l).Pairwise (·≤·)∧∀ x,x ∈ srt l ↔ x ∈ l:=by
 refine ⟨?_,fun x=>List.mem_mergeSort⟩
 have:=List.pairwise_mergeSort (le:=fun (x y:Int)=>decide (x≤y)) (fun a b c h1 h2=>by simp at h1 h2 ⊢; omega) (fun a b=>by simp; omega) l
 exact this.imp fun h=>by simpa using h
theorem As:∀ {l r:List Int},l.Pairwise (·<·)→r.Pairwise (·<·)→(∀ x,x ∈ l ↔ x ∈ r)→l=r
 | [],[],_,_,_=>rfl
 | [],y::r,_,_,h=>by have:=(h y).2 (by simp); cases this
 | x::l,[],_,_,h=>by have:=(h x).1 (by simp); cases this
 | x::l,y::r,hl,hr,h=>by
  have hl':=List.pairwise_cons.1 hl
  have hr':=List.pairwise_cons.1 hr
  have hxy:x=y:=by
   rcases List.mem_cons.1 ((h x).1 (by simp)) with e | e
   ·exact e
   ·rcases List.mem_cons.1 ((h y).2 (by simp)) with e' | e'
    ·exact e'.symm
    ·have:=hr'.1 x e; have:=hl'.1 y e'; omega
  subst hxy
  congr 1
  refine As hl'.2 hr'.2 fun z=>⟨fun hz=>?_,fun hz=>?_⟩
  ·rcases List.mem_cons.1 ((h z).1 (by simp [hz])) with e | e
   ·subst e; have:=hl'.1 z hz; omega
   ·exact e
  ·rcases List.mem_cons.1 ((h z).2 (by simp [hz])) with e | e
   ·subst e; have:=hr'.1 z hz; omega
   ·exact e
theorem wo {k:Key} {i:Nat} {x:Int}:∀ {l:List Sl},x ∈ rwS k i l ↔ x=i∧∃ s ∈ l,lC s=some k
 | []=>by simp [rwS]
 | s::r=>by
  unfold rwS
  split
  ·rename_i h
   rw [List.mem_cons,wo]
   constructor
   ·rintro (h1 | ⟨h1,s',h2,h3⟩)
    ·exact ⟨h1,s,by simp,h⟩
    ·exact ⟨h1,s',by simp [h2],h3⟩
   ·rintro ⟨h1,_⟩; exact .inl h1
  ·rename_i h
   rw [wo]
   constructor
   ·rintro ⟨h1,s',h2,h3⟩; exact ⟨h1,s',by simp [h2],h3⟩
   ·rintro ⟨h1,s',h2,h3⟩
    rcases List.mem_cons.1 h2 with rfl | h2
    ·exact absurd h3 h
    ·exact ⟨h1,s',h2,h3⟩
theorem vN {k:Key} {x:Int}:∀ {l:List RL} {i:Nat},x ∈ rwR k i l ↔ ∃ j r,x=((i+j:Nat):Int)∧l[j]?=some r∧∃ s ∈ r.sels,lC s=some k
 | [],i=>by simp [rwR]
 | r::l,i=>by
  rw [rwR,List.mem_append,wo,vN (l:=l)]
  constructor
  ·rintro (⟨h1,h2⟩ | ⟨j,r',h1,h2,h3⟩)
   ·exact ⟨0,r,by simpa using h1,rfl,h2⟩
   ·exact ⟨j+1,r',by rw [h1]; congr 1; omega,by simpa using h2,h3⟩
  ·rintro ⟨j,r',h1,h2,h3⟩
   cases j with
   | zero=>simp at h2; subst h2; exact .inl ⟨by simpa using h1,h3⟩
   | succ j=>exact .inr ⟨j,r',by rw [h1]; congr 1; omega,by simpa using h2,h3⟩
theorem te {n:Nd} {x:Int}:∀ {l:List RL} {i:Nat},x ∈ mC n i l ↔ ∃ j r,x=((i+j:Nat):Int)∧l[j]?=some r∧∃ s ∈ r.sels,sH s n=true
 | [],i=>by simp [mC]
 | r::l,i=>by
  have ih:=te (n:=n) (x:=x) (l:=l) (i:=i+1)
  have tail:(∃ j r',x=((i+1+j:Nat):Int)∧l[j]?=some r'∧∃ s ∈ r'.sels,sH s n=true) ↔ ∃ j r',x=((i+(j+1):Nat):Int)∧(r::l)[j+1]?=some r'∧∃ s ∈ r'.sels,sH s n=true:=by
   constructor
   ·rintro ⟨j,r',h1,h2,h3⟩; exact ⟨j,r',by rw [h1]; congr 1; omega,by simpa using h2,h3⟩
   ·rintro ⟨j,r',h1,h2,h3⟩; exact ⟨j,r',by rw [h1]; congr 1; omega,by simpa using h2,h3⟩
  have split:(∃ j r',x=((i+j:Nat):Int)∧(r::l)[j]?=some r'∧∃ s ∈ r'.sels,sH s n=true) ↔ (x=(i:Int)∧∃ s ∈ r.sels,sH s n=true)∨∃ j r',x=((i+(j+1):Nat):Int)∧(r::l)[j+1]?=some r'∧∃ s ∈ r'.sels,sH s n=true:=by
   constructor
   ·rintro ⟨j,r',h1,h2,h3⟩
    cases j with
    | zero=>simp at h2; subst h2; exact .inl ⟨by simpa using h1,h3⟩
    | succ j=>exact .inr ⟨j,r',h1,h2,h3⟩
   ·rintro (⟨h1,h2⟩ | ⟨j,r',h⟩)
    ·exact ⟨0,r,by simpa using h1,rfl,h2⟩
    ·exact ⟨j+1,r',h⟩
  have ef:mC n i (r::l)=if r.sels.any (fun s=>sH s n) then (i:Int)::mC n (i+1) l else mC n (i+1) l:=rfl
  rw [split,← tail,← ih,ef]
  split
  ·rename_i h
   obtain ⟨s,hs,hb⟩:=List.any_eq_true.1 h
   rw [List.mem_cons]
   exact ⟨fun h=>h.imp (fun h=>⟨h,s,hs,hb⟩) id,fun h=>h.imp (·.1) id⟩
  ·rename_i h
   refine ⟨.inr,fun h'=>h'.elim (fun ⟨_,s,hs,hb⟩=>absurd (List.any_eq_true.2 ⟨s,hs,hb⟩) h) id⟩
theorem wP (n:Nd):∀ (l:List RL) (i:Nat),(mC n i l).Pairwise (·<·)
 | [],_=>by simp [mC]
 | r::l,i=>by
  have ih:=wP n l (i+1)
  unfold mC
  split
  ·refine List.pairwise_cons.2 ⟨fun x hx=>?_,ih⟩
   obtain ⟨j,_,h1,_⟩:=te.1 hx
   omega
  ·exact ih
def O5 (n:Nd) (k:Key):Prop:=k=(0,⟨#[]⟩)∨k=(3,n.tag)∨(n.id≠⟨#[]⟩∧k=(1,n.id))∨∃ c ∈ n.classes,k=(2,c)
theorem KP {R:Key→List Int} {n:Nd} {x:Int}:x ∈ qO R n ↔ ∃ k,O5 n k∧x ∈ R k:=by
 unfold qO
 simp only [List.mem_append,List.mem_flatMap]
 constructor
 ·rintro (((h | h) | h) | ⟨c,hc,h⟩)
  ·exact ⟨_,.inl rfl,h⟩
  ·exact ⟨_,.inr (.inl rfl),h⟩
  ·by_cases e:n.id=⟨#[]⟩
   ·rw [if_pos e] at h; cases h
   ·rw [if_neg e] at h; exact ⟨_,.inr (.inr (.inl ⟨e,rfl⟩)),h⟩
  ·exact ⟨_,.inr (.inr (.inr ⟨c,hc,rfl⟩)),h⟩
 ·rintro ⟨k,(rfl | rfl | ⟨e,rfl⟩ | ⟨c,hc,rfl⟩),h⟩
  ·exact .inl (.inl (.inl h))
  ·exact .inl (.inl (.inr h))
  ·exact .inl (.inr (by rw [if_neg e]; exact h))
  ·exact .inr ⟨c,hc,h⟩
theorem yK {s:Sl} {n:Nd}:sH s n=true ↔ ∃ k,O5 n k∧lC s=some k:=by
 unfold sH lC
 cases hs:s[s.length - 1]? with
 | none=>simp
 | some p =>
  simp only [Option.map_some,Option.some.injEq]
  unfold NR qm
  cases hi:p.c.ids with
  | cons x r =>
   simp only [Bool.and_eq_true,decide_eq_true_eq]
   constructor
   ·rintro ⟨h1,rfl⟩; exact ⟨_,.inr (.inr (.inl ⟨h1,rfl⟩)),rfl⟩
   ·rintro ⟨k,hk,rfl⟩
    rcases hk with h | h | ⟨h1,h⟩ | ⟨c,_,h⟩
    ·simp at h
    ·simp at h
    ·simp at h; exact ⟨h1,h⟩
    ·simp at h
  | nil =>
   cases hc:p.c.classes with
   | cons x r =>
    simp only [K0]
    constructor
    ·intro h; exact ⟨_,.inr (.inr (.inr ⟨x,h,rfl⟩)),rfl⟩
    ·rintro ⟨k,hk,rfl⟩
     rcases hk with h | h | ⟨h1,h⟩ | ⟨c,hcc,h⟩
     ·simp at h
     ·simp at h
     ·simp at h
     ·simp at h; subst h; exact hcc
   | nil =>
    by_cases ht:p.c.tag=⟨#[]⟩
    ·simp only [ht,if_true,true_iff]
     exact ⟨_,.inl rfl,rfl⟩
    ·simp only [ht,if_false,decide_eq_true_eq]
     constructor
     ·intro h; exact ⟨_,.inr (.inl (by rw [← h])),rfl⟩
     ·rintro ⟨k,hk,rfl⟩
      rcases hk with h | h | ⟨h1,h⟩ | ⟨c,_,h⟩
      ·simp at h
      ·simp at h; exact h
      ·simp at h
      ·simp at h
theorem PQ (l:List RL) (n:Nd):Go.Lib.compact (srt (qO (fun k=>rwR k 0 l) n))=mC n 0 l:=by
 obtain ⟨s1,s2⟩:=J6 (qO (fun k=>rwR k 0 l) n)
 obtain ⟨c1,c2⟩:=wJ s1
 refine As c1 (wP n l 0) fun x=>?_
 rw [c2,s2,KP,te]
 constructor
 ·rintro ⟨k,hk,hx⟩
  obtain ⟨j,r,h1,h2,s,h3,h4⟩:=vN.1 hx
  exact ⟨j,r,h1,h2,s,h3,yK.2 ⟨k,hk,h4⟩⟩
 ·rintro ⟨j,r,h1,h2,s,h3,h4⟩
  obtain ⟨k,hk,hl⟩:=yK.1 h4
  exact ⟨k,hk,vN.2 ⟨j,r,h1,h2,s,h3,hl⟩⟩
theorem A6 (k:Key) (i:Nat):∀ l:List Sl,(rwS k i l).length≤l.length
 | []=>Nat.le_refl _
 | s::r=>by
  have:=A6 k i r
  unfold rwS
  split<;>simp<;>omega
theorem Bf (k:Key):∀ (l:List RL) (i:Nat),(rwR k i l).length≤(l.map fun r=>r.sels.length).sum
 | [],_=>Nat.le_refl _
 | r::l,i=>by
  have:=A6 k i r.sels
  have:=Bf k l (i+1)
  rw [rwR]
  simp only [List.length_append,List.map_cons,List.sum_cons]
  omega
theorem Ta:∀ {l:List RL},(∀ r ∈ l,r.sels.length≤8)→(l.map fun r=>r.sels.length).sum≤8*l.length
 | [],_=>by simp
 | r::l,h=>by
  have:=Ta (l:=l) fun x hx=>h x (by simp [hx])
  have:=h r (by simp)
  simp only [List.map_cons,List.sum_cons,List.length_cons]
  omega
end Go.Proofs.YthdcghnjndhecaaGreat.Ev
namespace Go.Proofs.YthdcghnjndhecaaGreat.Ev
set_option linter.unusedVariables false
set_option linter.unusedSimpArgs false
variable {σ:Sig}
theorem ub {any:List Sl→Nat→Bool} {L:List Nd} {s:Sl} {i e:Nat} (h:bI any L s i e=true):∃ p,s[i]?=some p∧kL any L e p.c=true:=by
 cases i with
 | zero =>
  unfold bI at h
  split at h
  ·rename_i p hp; exact ⟨p,hp,h⟩
  ·cases h
 | succ i =>
  unfold bI at h
  split at h
  ·rename_i p hp
   rw [Bool.and_eq_true] at h
   exact ⟨p,hp,h.1⟩
  ·cases h
theorem B_ {n:Nd} {c:Cp} (h:me n c=true):NR c n=true:=by
 unfold me at h
 simp only [Bool.and_eq_true] at h
 obtain ⟨h1,h2,h3,_⟩:=h
 unfold NR
 cases hi:c.ids with
 | cons x r =>
  rw [hi,List.all_cons,Bool.and_eq_true] at h2
  have h4:=h2.1
  unfold idB at h4
  simp only [Bool.and_eq_true,Bool.not_eq_true',decide_eq_false_iff_not,decide_eq_true_eq] at h4
  obtain ⟨h5,rfl⟩:=h4
  have h6:n.id≠⟨#[]⟩:=h5
  simp [h6]
 | nil =>
  cases hc:c.classes with
  | cons x r =>
   rw [hc,List.all_cons,Bool.and_eq_true] at h3
   exact h3.1
  | nil =>
   unfold qD at h1
   simp only [Bool.or_eq_true,decide_eq_true_eq] at h1
   simp only
   split
   ·rfl
   ·rename_i hne
    rcases h1 with h1 | h1
    ·exact absurd h1 hne
    ·simp [h1]
theorem Mp {L:List Nd} {s:Sl} {e:Nat} (h:nS L 11 s (e:Int)=true):sH s (bv (bV L e))=true:=by
 unfold nS mi at h
 simp only [List.any_cons,List.any_nil,Bool.or_false,Int.toNat_natCast,Bool.and_eq_true] at h
 have ha:pV (wg L 11) L [s] e=true:=h.2.2
 unfold pV at ha
 simp only [List.any_cons,List.any_nil,Bool.or_false,Bool.and_eq_true] at ha
 obtain ⟨p,hp,hc⟩:=ub ha.2
 unfold kL at hc
 rw [Bool.and_eq_true] at hc
 unfold sH
 rw [hp]
 exact B_ hc.1
def x32 (a b:Int):Int:=wr .u32 ((BitVec.ofInt 32 a ^^^ BitVec.ofInt 32 b).toNat:Int)
def Ea (h b:Int):Int:=wr .u32 (x32 h b*16777619)
def HF (k:Int) (s:ByteArray):Int:=s.data.toList.foldl (fun h c=>Ea h (c.toNat:Int)) (Ea 2166136261 k)
def hsL (tag:ByteArray) (ids cls:List ByteArray):List Int:=(if tag=emp then [] else [HF 1 tag])++(ids.map (HF 2)++cls.map (HF 3))
def hsN (n:Nd):List Int:=hsL n.tag (if n.id=emp then [] else [n.id]) n.classes
def hsC (c:Cp):List Int:=hsL c.tag c.ids c.classes
theorem Mh {n:Nd} {c:Cp} (h:me n c=true):∀ x ∈ hsC c,x ∈ hsN n:=by
 unfold me at h
 simp only [Bool.and_eq_true,List.all_eq_true] at h
 obtain ⟨ht,hi,hc,_⟩:=h
 intro x hx
 unfold hsC hsL at hx
 unfold hsN hsL
 rw [List.mem_append,List.mem_append] at hx ⊢
 rcases hx with hx | hx | hx
 ·left
  by_cases h0:c.tag=emp
  ·rw [if_pos h0] at hx; cases hx
  ·rw [if_neg h0] at hx
   unfold qD at ht
   have e:c.tag=n.tag:=by simpa [h0] using ht
   rw [← e,if_neg h0]
   exact hx
 ·right; left
  obtain ⟨s,hs,rfl⟩:=List.mem_map.1 hx
  have:=hi s hs
  unfold idB at this
  simp only [Bool.and_eq_true,Bool.not_eq_true',decide_eq_false_iff_not,decide_eq_true_eq] at this
  obtain ⟨h1,h2⟩:=this
  rw [← h2,if_neg h1]
  exact List.mem_map.2 ⟨s,by simp,rfl⟩
 ·right; right
  obtain ⟨s,hs,rfl⟩:=List.mem_map.1 hx
  have:=hc s hs
  unfold j6 at this
  obtain ⟨y,hy,e⟩:=List.any_eq_true.1 this
  have:y=s:=by simpa using e
  exact List.mem_map.2 ⟨s,this ▸ hy,rfl⟩
def j7 (s:Sl):Nat→List Int
 | 0=>[]
 | i+1=>match s[i+1]? with
  | some p=>if p.comb=1∨p.comb=2 then (match s[i]? with
   | some q=>hsC q.c
   | none=>[])++j7 s i else []
  | none=>[]
def fS (s:Sl):List Int:=j7 s (s.length - 1)
inductive Anc (L:List Nd):Nat→Nat→Prop
 | one {e x:Nat}:par L e=(x:Int)→Anc L e x
 | more {e x y:Nat}:par L e=(x:Int)→Anc L x y→Anc L e y
theorem Anc.trans {L:List Nd} {e x y:Nat} (h:Anc L e x) (h':Anc L x y):Anc L e y:=by
 induction h with
 | one e=>exact .more e h'
 | more e _ ih=>exact .more e (ih h')
theorem uU {g:Nat→Bool} {L:List Nd} {k:Int} (hk:k=1∨k=2):∀ (f e:Nat),dG g L k f e=true→∃ x,Anc L e x∧g x=true
 | 0,e,h=>by unfold dG at h; cases h
 | f+1,e,h=>by
  unfold dG at h
  have es:cm L e k=par L e:=by unfold cm; rw [if_pos hk]
  rw [es,Bool.and_eq_true,decide_eq_true_eq,Bool.or_eq_true,Bool.and_eq_true] at h
  obtain ⟨h0,h1⟩:=h
  have e1:par L e=((par L e).toNat:Int):=by omega
  rcases h1 with h1 | ⟨_,h1⟩
  ·exact ⟨_,.one e1,h1⟩
  ·obtain ⟨x,hx,hg⟩:=uU hk f _ h1
   exact ⟨x,.more e1 hx,hg⟩
theorem vB {any:List Sl→Nat→Bool} {L:List Nd} {s:Sl}:∀ (i e:Nat),bI any L s i e=true→∀ h ∈ j7 s i,∃ x,Anc L e x∧h ∈ hsN (bv (bV L x))
 | 0,e,_,h,hh=>by unfold j7 at hh; cases hh
 | i+1,e,hf,h,hh=>by
  unfold j7 at hh
  unfold bI at hf
  split at hh
  ·rename_i p hp
   rw [hp] at hf
   simp only [Bool.and_eq_true] at hf
   split at hh
   ·rename_i hk
    obtain ⟨x,hx,hg⟩:=uU hk _ _ hf.2
    rcases List.mem_append.1 hh with h1 | h1
    ·obtain ⟨q,hq,hc⟩:=ub hg
     rw [hq] at h1
     unfold kL at hc
     rw [Bool.and_eq_true] at hc
     exact ⟨x,hx,Mh hc.1 h h1⟩
    ·obtain ⟨y,hy,hm⟩:=vB i x hg h h1
     exact ⟨y,hx.trans hy,hm⟩
   ·cases hh
  ·cases hh
theorem BJ {L:List Nd} {s:Sl} {e:Nat} (h:nS L 11 s (e:Int)=true):∀ x ∈ fS s,∃ y,Anc L e y∧x ∈ hsN (bv (bV L y)):=by
 unfold nS mi at h
 simp only [List.any_cons,List.any_nil,Bool.or_false,Int.toNat_natCast,Bool.and_eq_true] at h
 have ha:pV (wg L 11) L [s] e=true:=h.2.2
 unfold pV at ha
 simp only [List.any_cons,List.any_nil,Bool.or_false,Bool.and_eq_true] at ha
 exact vB _ _ ha.2
def m32 (h:Int):Int:=wr .i64 ((BitVec.ofInt 64 h &&& BitVec.ofInt 64 4294967295).toNat:Int)
theorem Ia (h:Int):0≤m32 h∧m32 h≤4294967295:=by
 have:(BitVec.ofInt 64 h &&& BitVec.ofInt 64 4294967295).toNat≤4294967295:=by
  rw [BitVec.toNat_and]
  exact Nat.and_le_right
 unfold m32
 rw [cM (by omega) (by omega)]
 omega
def pl1 (h:Int):Nat:=(m32 h).toNat % 1024
def pl2 (h:Int):Nat:=(m32 h).toNat / 1024 % 1024
theorem jC (h:Int):pl1 h<1024:=Nat.mod_lt _ (by decide)
theorem nQ (h:Int):pl2 h<1024:=Nat.mod_lt _ (by decide)
def upC (c:List Int) (i:Nat):List Int:=c.set i (if c.getD i 0+1<255 then c.getD i 0+1 else 255)
def nA (c:List Int) (h:Int):List Int:=if pl2 h=pl1 h then upC c (pl1 h) else upC (upC c (pl1 h)) (pl2 h)
def su (c l:List Int):List Int:=l.foldl nA c
def FOk (c:List Int):Prop:=c.length=1024∧∀ i,0≤c.getD i 0∧c.getD i 0≤255
def mI (c:List Int) (h:Int):Bool:=decide (0<c.getD (pl1 h) 0)&&decide (0<c.getD (pl2 h) 0)
theorem AF (c:List Int) (i j:Nat) (hi:i<c.length):(upC c i).getD j 0=if j=i then (if c.getD i 0+1<255 then c.getD i 0+1 else 255) else c.getD j 0:=by
 unfold upC
 by_cases h:j=i
 ·subst h; rw [if_pos rfl,wS hi]
 ·rw [if_neg h,gJ (Ne.symm h)]
theorem M4 (c:List Int) (i:Nat):(upC c i).length=c.length:=by unfold upC; rw [List.length_set]
theorem pC {c:List Int} (h:FOk c) {i:Nat} (hi:i<1024):FOk (upC c i):=by
 refine ⟨by rw [M4]; exact h.1,fun j=>?_⟩
 rw [AF _ _ _ (by rw [h.1]; exact hi)]
 have:=h.2 i
 have:=h.2 j
 split
 ·split<;>omega
 ·assumption
theorem wY {c:List Int} (h:FOk c) (x:Int):FOk (nA c x):=by
 unfold nA
 split
 ·exact pC h (jC x)
 ·exact pC (pC h (jC x)) (nQ x)
theorem qi:∀ {l c:List Int},FOk c→FOk (su c l)
 | [],c,h=>h
 | x::l,c,h=>qi (l:=l) (wY h x)
theorem oM {c:List Int} (h:FOk c) {i j:Nat} (hi:i<1024) (hp:j=i∨0<c.getD j 0):0<(upC c i).getD j 0:=by
 rw [AF _ _ _ (by rw [h.1]; exact hi)]
 have:=h.2 i
 split
 ·split<;>omega
 ·rename_i hne
  rcases hp with hp | hp
  ·exact absurd hp hne
  ·exact hp
theorem oW {c:List Int} (h:FOk c) {x:Int} {j:Nat} (hp:j=pl1 x∨j=pl2 x∨0<c.getD j 0):0<(nA c x).getD j 0:=by
 unfold nA
 split
 ·rename_i e
  exact oM h (jC x) (by rcases hp with hp | hp | hp<;>first | exact .inl (by omega) | exact .inr hp)
 ·rcases hp with hp | hp | hp
  ·exact oM (pC h (jC x)) (nQ x) (.inr (oM h (jC x) (.inl hp)))
  ·exact oM (pC h (jC x)) (nQ x) (.inl hp)
  ·exact oM (pC h (jC x)) (nQ x) (.inr (oM h (jC x) (.inr hp)))
theorem Cq {c:List Int} {h:Int}:mI c h=true ↔ 0<c.getD (pl1 h) 0∧0<c.getD (pl2 h) 0:=by
 unfold mI
 rw [Bool.and_eq_true,decide_eq_true_eq,decide_eq_true_eq]
theorem vp {c:List Int} (hk:FOk c) {x h:Int} (hp:x=h∨mI c h=true):mI (nA c x) h=true:=by
 rw [Cq] at hp ⊢
 rcases hp with rfl | ⟨h1,h2⟩
 ·exact ⟨oW hk (.inl rfl),oW hk (.inr (.inl rfl))⟩
 ·exact ⟨oW hk (.inr (.inr h1)),oW hk (.inr (.inr h2))⟩
theorem rN:∀ {l c:List Int} {h:Int},FOk c→(h ∈ l∨mI c h=true)→mI (su c l) h=true
 | [],c,h,hk,hp=>by
  rcases hp with hp | hp
  ·cases hp
  ·exact hp
 | x::l,c,h,hk,hp=>by
  refine rN (l:=l) (wY hk x) ?_
  rcases hp with hp | hp
  ·rcases List.mem_cons.1 hp with rfl | hp
   ·exact .inr (vp hk (.inl rfl))
   ·exact .inl hp
  ·exact .inr (vp hk (.inr hp))
def xl (c:List Int) (s:Sl):Bool:=(fS s).all (mI c)
theorem sr {L:List Nd} {e:Int} {ask:Sl→Bool}:∀ (l:List Sl) (a:Int × Bool),(∀ s ∈ l,nS L 11 s e=true→ask s=true)→dx L e (l.filter ask) a=dx L e l a
 | [],a,_=>rfl
 | s::l,a,h=>by
  have ih:=fun a=>sr (L:=L) (e:=e) (ask:=ask) l a fun s hs=>h s (by simp [hs])
  rw [List.filter_cons]
  split
  ·unfold dx
   exact ih _
  ·rename_i hn
   have:nS L 11 s e=false:=by
    cases hb:nS L 11 s e with
    | false=>rfl
    | true=>exact absurd (h s (by simp) hb) hn
   conv=>rhs; unfold dx
   rw [this,if_neg (by decide)]
   exact ih _
theorem vb {L:List Nd} {e:Int}:∀ (l:List Sl) (a:Int × Bool),(∀ s ∈ l,nS L 11 s e=false)→dx L e l a=a
 | [],a,_=>rfl
 | s::l,a,h=>by
  unfold dx
  rw [h s (by simp),if_neg (by decide)]
  exact vb l a fun s hs=>h s (by simp [hs])
theorem Hh {L:List Nd} {e:Int} {ask:Sl→Bool} {r:RL} (h:∀ s ∈ r.sels,nS L 11 s e=true→ask s=true) (s:Wn):tJ L e ask s r=iI L e s r:=by
 unfold tJ iI
 rw [sr _ _ h]
theorem wD {L:List Nd} {e:Nat} {ask:Sl→Bool} {l:List RL} (h:∀ r ∈ l,∀ s ∈ r.sels,nS L 11 s (e:Int)=true→ask s=true):∀ (m:List RL) (i:Nat) (s:Wn),l.drop i=m →
  (mC (bv (bV L e)) i m).foldl (nD L (e:Int) ask l) s=m.foldl (iI L (e:Int)) s
 | [],i,s,_=>rfl
 | r::m,i,s,hd=>by
  have hr:l[i]?=some r:=by
   have:=congrArg (fun x=>x[0]?) hd
   simpa using this
  have hm:l.drop (i+1)=m:=by
   have:=congrArg List.tail hd
   simpa using this
  have hrm:=List.mem_of_getElem? hr
  unfold mC
  split
  ·rw [List.foldl_cons,List.foldl_cons,wD h m (i+1) _ hm]
   have:nD L (e:Int) ask l s (i:Int)=iI L (e:Int) s r:=by
    unfold nD
    rw [if_neg (by omega),Int.toNat_natCast,hr]
    exact Hh (h r hrm) s
   rw [this]
  ·rename_i hn
   rw [List.foldl_cons,wD h m (i+1) _ hm]
   have:iI L (e:Int) s r=s:=by
    unfold iI
    rw [vb r.sels (0,false) fun q hq=>?_]
    ·rw [if_neg (by decide)]
    ·cases hb:nS L 11 q (e:Int) with
     | false=>rfl
     | true=>exact absurd (List.any_eq_true.2 ⟨q,hq,Mp hb⟩) hn
   rw [this]
end Go.Proofs.YthdcghnjndhecaaGreat.Ev
namespace Go.Proofs.YthdcghnjndhecaaGreat.Ev
set_option linter.unusedVariables false
set_option linter.unusedSimpArgs false
variable {σ:Sig}
def U8 (n:Int):AV:=.lit (.int .u8 n)
def U32 (n:Int):AV:=.lit (.int .u32 n)
theorem sX (h:Int) (H:Hp):au Tryz.prog σ gK [I h] H (.tup [I (pl1 h:Int),I (pl2 h:Int)]) H:=by
 refine bg (fun K hK=>na.run ?_) rfl rfl H
 have e1:ah .and (I h) (I 4294967295)=some (I (m32 h)):=O_ h 4294967295 .i64
 obtain ⟨n,hn⟩:∃ n:Nat,m32 h=n:=⟨(m32 h).toNat,by have:=(Ia h).1; omega⟩
 have hn2:n≤4294967295:=by have:=(Ia h).2; omega
 rw [e1,aa,hn,o7 (n:Int) 1024 .i64 (by decide),aa,xz (n:Int) 1024 .i64 (by decide),aa,o7 _ 1024 .i64 (by decide),aa]
 have p1:((n:Int)).tmod 1024=(pl1 h:Int):=by unfold pl1; rw [hn]; rfl
 have p2:(wr .i64 ((n:Int).tdiv 1024)).tmod 1024=(pl2 h:Int):=by
  have e:(n:Int).tdiv 1024=((n / 1024:Nat):Int):=rfl
  rw [e,cM (by omega) (by omega)]; unfold pl2; rw [hn]; rfl
 rw [p1,p2]; exact hK _
theorem S7 {n:Int} (h0:0≤n) (h1:n≤255):wr .u8 n=n:=by
 rw [oe]
 simp only [IntKind.wrap,IntKind.bits,IntKind.signed]
 simp
 omega
theorem Qx {n:Int} (h0:0≤n) (h1:n≤4294967295):wr .u32 n=n:=by
 rw [oe]
 simp only [IntKind.wrap,IntKind.bits,IntKind.signed]
 simp
 omega
theorem uS (n:Int):0≤wr .u32 n∧wr .u32 n≤4294967295:=by
 rw [oe]
 simp only [IntKind.wrap,IntKind.bits,IntKind.signed]
 simp
 omega
theorem xG {n:Int} (h0:0≤n) (h1:n≤255) (H:Hp):au Tryz.prog σ dc [U8 n] H (U8 (if n+1<255 then n+1 else 255)) H:=by
 refine bg (fun K hK=>ig.run ?_) rfl rfl H
 have e1:f_ .i64 (U8 n)=some (I n):=by
  show some (AV.lit (.int .i64 (wr .i64 n)))=_
  rw [cM (by omega) (by omega)]
 have e3:nG [I (n+1),I 255]=some (I (if n+1<255 then n+1 else 255)):=by
  split<;>(simp [nG,toI,kA]<;>omega)
 have e4:∀ m:Int,0≤m→m≤255→f_ .u8 (I m)=some (U8 m):=fun m a b=>by
  show some (AV.lit (.int .u8 (wr .u8 m)))=_
  rw [S7 a b]; rfl
 rw [e1,aa,bF,aa,cM (by omega) (by omega),e3,aa,e4 _ (by split<;>omega) (by split<;>omega),aa]
 exact hK _
theorem Bp {H:Hp} {y:Nat} {c:List Int} {ex:Bool} (hg:H.get y=some (.cells (c.map U8) ex)) {k:Nat} (hk:k<c.length):ldA false 1 H (.ptr y k)=some (U8 (c.getD k 0)):=by
 rw [aL,hg,aM,pQ hk,List.getD_eq_getElem?_getD,List.getElem?_eq_getElem hk]; rfl
theorem Pj {H:Hp} {y:Nat} {c:List Int} {ex:Bool} (hg:H.get y=some (.cells (c.map U8) ex)) {k:Nat} (hk:k<c.length) (v:Int):stA 1 H (.ptr y k) (U8 v)=some (H.set y (some (.cells ((c.set k v).map U8) ex))):=by
 rw [pp hg rfl rfl rfl (by rw [List.length_map]; exact hk),List.map_set]
theorem Rf {H:Hp} {y:Nat} {c:List Int} {ex:Bool} {h:Int} {K:AV→Hp→Prop} (hk:FOk c) (hg:H.get y=some (.cells (c.map U8) ex)) (hK:K (Bo (mI c h)) H):av Tryz.prog σ fV [.ptr y 0,I h] H K:=by
 refine jv.run ?_
 refine ak (sX h H) ?_
 have ex:∀ x y:AV,exR (.tup [x,y]) 0=some x∧exR (.tup [x,y]) 1=some y:=fun _ _=>⟨rfl,rfl⟩
 have s0:ae (.ptr y 0) 0=some (.ptr y 0):=rfl
 have i1:aX 1024 1 (.ptr y 0) (I (pl1 h:Int))=some (.ptr y (pl1 h)):=by rw [ni (jC h)]; simp
 have i2:aX 1024 1 (.ptr y 0) (I (pl2 h:Int))=some (.ptr y (pl2 h)):=by rw [ni (nQ h)]; simp
 have l1:=Bp hg (k:=pl1 h) (by rw [hk.1]; exact jC h)
 have l2:=Bp hg (k:=pl2 h) (by rw [hk.1]; exact nQ h)
 have g:∀ n:Int,ah .gtr (U8 n) (.lit (.int .u8 0))=some (Bo (decide (0<n))):=fun n=>eI n 0 .u8
 unfold mI at hK
 simp only [(ex _ _).1,(ex _ _).2,aa,kK,s0,i1,i2,l1,l2,g,ai]
 cases h1:decide (0<c.getD (pl1 h) 0) with
 | true=>rw [h1] at hK; simpa using hK
 | false=>rw [h1] at hK; simpa using hK
section
attribute [local irreducible] aU.L0 aU.J1
theorem AO {y:Nat} (l:List Int) (hl:l.length≤1000000) {c:List Int} {H:Hp} (hk:FOk c) (hg:H.get y=some (.cells (c.map U8) true)) {K:AV→Hp→Prop}
  (hK:∀ H',H'.n=H.n→(∀ j,j≠y→H'.get j=H.get j)→H'.get y=some (.cells ((su c l).map U8) true)→K (.tup []) H') :
  av Tryz.prog σ d_ [.ptr y 0,ek l] H K:=by
 refine iZ.run ?_
 refine aU.run ?_
 rw [ql,aa]
 have ex:∀ x y:AV,exR (.tup [x,y]) 0=some x∧exR (.tup [x,y]) 1=some y:=fun _ _=>⟨rfl,rfl⟩
 have s0:ae (.ptr y 0) 0=some (.ptr y 0):=rfl
 have L0:∀ (f k:Nat) (H1:Hp),l.length - k=f→k≤l.length→H1.n=H.n→(∀ j,j≠y→H1.get j=H.get j)→H1.get y=some (.cells ((su c (l.take k)).map U8) true) →
   aU.L0 σ (fun _ H2=>K (.tup []) H2) (.ptr y 0) (.fn dc []) (ek l) (I l.length) (I (k:Int)) H1:=by
  intro f
  induction f with
  | zero =>
   intro k H1 hf hkl hn ho hg1
   have:k=l.length:=by omega
   subst this
   refine aU.L0_step ?_
   simp only [a_,aa,Int.lt_irrefl,decide_false,ai,Bool.false_eq_true,if_false]
   rw [List.take_length] at hg1
   exact hK H1 hn ho hg1
  | succ f ih =>
   intro k H1 hf hkl hn ho hg1
   have hlt:k<l.length:=by omega
   have hlt':(k:Int)<l.length:=by omega
   obtain ⟨x,hx⟩:=bp hlt
   have hix:az 1 (ek l) (I (k:Int))=some (.ip (db x)):=bm hx
   have lx:∀ H:Hp,ldA false 1 H (.ip (db x))=some (I x):=fun _=>rfl
   obtain ⟨c1,hc1⟩:∃ c1,c1=su c (l.take k):=⟨_,rfl⟩
   have hk1:FOk c1:=hc1 ▸ qi hk
   rw [← hc1] at hg1
   have en:su c (l.take (k+1))=nA c1 x:=by
    rw [hc1,List.take_add_one,hx]
    unfold su
    rw [List.foldl_append]; rfl
   have J1:∀ (H2:Hp),H2.n=H.n→(∀ j,j≠y→H2.get j=H.get j)→H2.get y=some (.cells ((nA c1 x).map U8) true)→aU.J1 σ (fun _ H2=>K (.tup []) H2) (.ptr y 0) (.fn dc []) (ek l) (I l.length) (I (k:Int)) H2:=by
    intro H2 h1 h2 h3
    refine aU.J1_step ?_
    simp only [bF,aa,bq (show k<9000000000000000000 by omega)]
    exact ih (k+1) H2 (by omega) (by omega) h1 h2 (by rw [en]; exact h3)
   have i1:aX 1024 1 (.ptr y 0) (I (pl1 x:Int))=some (.ptr y (pl1 x)):=by rw [ni (jC x)]; simp
   have i2:aX 1024 1 (.ptr y 0) (I (pl2 x:Int))=some (.ptr y (pl2 x)):=by rw [ni (nQ x)]; simp
   have p1:pl1 x<c1.length:=by rw [hk1.1]; exact jC x
   refine aU.L0_step ?_
   simp only [a_,aa,hlt',decide_true,ai,if_true,hix,lx]
   refine ak (sX x H1) ?_
   simp only [(ex _ _).1,(ex _ _).2,aa,kK,s0,i1,i2,Bp hg1 p1]
   have hb1:=hk1.2 (pl1 x)
   rw [kF,List.append_nil]
   refine ak (xG hb1.1 hb1.2 H1) ?_
   have eu:c1.set (pl1 x) (if c1.getD (pl1 x) 0+1<255 then c1.getD (pl1 x) 0+1 else 255)=upC c1 (pl1 x):=rfl
   simp only [Pj hg1 p1,aa,eu]
   obtain ⟨H2,hH2⟩:∃ H2,H2=H1.set y (some (.cells ((upC c1 (pl1 x)).map U8) true)):=⟨_,rfl⟩
   have n2:H2.n=H.n:=by rw [hH2]; simpa using hn
   have o2:∀ j,j≠y→H2.get j=H.get j:=fun j hj=>by rw [hH2,ay,if_neg hj]; exact ho j hj
   have g2:H2.get y=some (.cells ((upC c1 (pl1 x)).map U8) true):=by rw [hH2,ay,if_pos rfl]
   rw [← hH2]
   clear hH2
   have hk2:=pC hk1 (jC x)
   have p2:pl2 x<(upC c1 (pl1 x)).length:=by rw [hk2.1]; exact nQ x
   have bn:ah .neq (I (pl2 x:Int)) (I (pl1 x:Int))=some (Bo (!decide ((pl2 x:Int)=(pl1 x:Int)))):=tF _ _ _
   rw [bn,aa,ai]
   by_cases he:pl2 x=pl1 x
   ·have:nA c1 x=upC c1 (pl1 x):=by unfold nA; rw [if_pos he]
    rw [this] at J1
    simp only [he,decide_true,Bool.not_true,Bool.false_eq_true,if_false]
    exact J1 H2 n2 o2 g2
   ·have hp:nA c1 x=upC (upC c1 (pl1 x)) (pl2 x):=by unfold nA; rw [if_neg he]
    rw [hp] at J1
    have he':¬ ((pl2 x:Int)=(pl1 x:Int)):=by omega
    simp only [he',decide_false,Bool.not_false,if_true,Bp g2 p2,aa]
    have hb2:=hk2.2 (pl2 x)
    rw [kF,List.append_nil]
    refine ak (xG hb2.1 hb2.2 H2) ?_
    simp only [Pj g2 p2,aa]
    exact J1 _ (by simpa using n2) (fun j hj=>by rw [ay,if_neg hj]; exact o2 j hj) (by rw [ay,if_pos rfl]; rfl)
 exact L0 _ 0 H rfl (Nat.zero_le _) rfl (fun _ _=>rfl) (by simpa [su] using hg)
end
section
attribute [local irreducible] dr.L0
theorem vR {k:Int} (hk:k=1∨k=2∨k=3) (s:ByteArray) (hs:s.data.size≤c6) (H:Hp):au Tryz.prog σ gZ [I k,Sx s] H (I (HF k s)) H:=by
 refine bg (fun K hK=>dr.run ?_) rfl rfl H
 have e1:ah .and (I k) (I 255)=some (I k):=by rcases hk with rfl | rfl | rfl<;>rfl
 have e2:f_ .u32 (I k)=some (U32 k):=by rcases hk with rfl | rfl | rfl<;>rfl
 have ex:∀ a b:Int,ah .xor (U32 a) (U32 b)=some (U32 (x32 a b)):=fun a b=>by simp [ah,lit?,fX,U32,x32]; rfl
 have em:∀ a:Int,ah .mul (U32 a) (U32 16777619)=some (U32 (wr .u32 (a*16777619))):=fun a=>AD a 16777619 .u32
 have ec:iH Hp.empty (Sx s)=some (.sl 0 0 1 s.data.size none,Hp.empty.new (.cells (s.data.toList.map fun c=>U8 (c.toNat:Int)) false)):=rfl
 obtain ⟨H1,hH1⟩:∃ H1,H1=Hp.empty.new (.cells (s.data.toList.map fun c=>U8 (c.toNat:Int)) false):=⟨_,rfl⟩
 have g1:H1.get 0=some (.cells (s.data.toList.map fun c=>U8 (c.toNat:Int)) false):=by rw [hH1]; simp [Hp.empty]
 have eh:(fun x=>U32 x)=fun x=>U32 x:=rfl
 have hx:=ex 2166136261 k
 have hm:=em (x32 2166136261 k)
 unfold U32 at hx hm
 rw [e1,aa,e2,aa]
 unfold U32
 rw [hx,aa,hm,aa,ec,aa]
 simp only [rq,aa]
 rw [← hH1]
 have hl:s.data.toList.length=s.data.size:=by simp
 have L0:∀ (f i:Nat) (h:Int),s.data.size - i=f→i≤s.data.size→(s.data.toList.drop i).foldl (fun h c=>Ea h (c.toNat:Int)) h=HF k s→0≤h→h≤4294967295 →
   dr.L0 σ K (U32 h) (.sl 0 0 1 s.data.size none) (I (s.data.size:Int)) (I (i:Int)) H1:=by
  intro f
  induction f with
  | zero =>
   intro i h hf hi hh h0 h1
   have:i=s.data.size:=by omega
   subst this
   refine dr.L0_step ?_
   simp only [a_,aa,Int.lt_irrefl,decide_false,ai,Bool.false_eq_true,if_false]
   rw [List.drop_of_length_le (by omega),List.foldl_nil] at hh
   have e5:f_ .i64 (U32 h)=some (I h):=by
    show some (AV.lit (.int .i64 (wr .i64 h)))=_
    rw [cM (by omega) (by omega)]
   rw [e5,aa,hh]
   exact hK _
  | succ f ih =>
   intro i h hf hi hh h0 h1
   have hlt:i<s.data.size:=by omega
   have hlt':(i:Int)<s.data.size:=by omega
   obtain ⟨c,hc⟩:=bp (show i<s.data.toList.length by omega)
   rw [bK hc,List.foldl_cons] at hh
   refine dr.L0_step ?_
   have hix:az 1 (.sl 0 0 1 s.data.size none) (I (i:Int))=some (.ptr 0 i):=by rw [nW (by omega) (by omega)]; simp
   have hld:ldA false 1 H1 (.ptr 0 i)=some (U8 (c.toNat:Int)):=by
    rw [aL,g1,aM,pQ (by omega)]
    have:s.data.toList[i]?=some (s.data.toList[i]'(by omega)):=List.getElem?_eq_getElem _
    rw [this] at hc
    cases hc; rfl
   have hcv:f_ .u32 (U8 (c.toNat:Int))=some (U32 (c.toNat:Int)):=by
    have:=c.toNat_lt
    show some (AV.lit (.int .u32 (wr .u32 (c.toNat:Int))))=_
    rw [Qx (by omega) (by omega)]; rfl
   simp only [a_,aa,hlt',decide_true,ai,if_true,hix,hld,hcv,ex]
   have hm:=em (x32 h (c.toNat:Int))
   unfold U32 at hm ⊢
   rw [hm,aa,bF,aa,cn hlt hs]
   have:=uS (x32 h (c.toNat:Int)*16777619)
   exact ih (i+1) _ (by omega) (by omega) hh this.1 this.2
 have h0:=uS (x32 2166136261 k*16777619)
 exact L0 _ 0 _ rfl (Nat.zero_le _) rfl h0.1 h0.2
end
end Go.Proofs.YthdcghnjndhecaaGreat.Ev
namespace Go.Proofs.YthdcghnjndhecaaGreat.Ev
set_option linter.unusedVariables false
set_option linter.unusedSimpArgs false
variable {σ:Sig}
structure E7 (Q:Hp→Prop) (x:AV) (l:List ByteArray):Prop where
 len:aG x=some (I (l.length:Int))
 get:∀ (k:Nat) (s:ByteArray),l[k]?=some s→∃ p,az 1 x (I (k:Int))=some p∧∀ H,Q H→ldA false 1 H p=some (Sx s)
theorem E7.ofL (Q:Hp→Prop) (l:List ByteArray):E7 Q (cG l) l :=
 ⟨by simp [cG],fun k s hs=>⟨_,bm hs,fun H _=>rfl⟩⟩
section
attribute [local irreducible] ba.L0 ba.L1
theorem Aa {Q:List Int→Hp→Prop} {N a:Nat} {y xi xc:AV} {tag:ByteArray} {ids cls:List ByteArray}
  (qt:∀ acc H,Q acc H→H.get a=some (.cells [Sx tag] true)∧H.get (a+1)=some (.cells [xi] true)∧H.get (a+2)=some (.cells [xc] true))
  (hi:E7 (fun H=>∃ acc,Q acc H) xi ids) (hc:E7 (fun H=>∃ acc,Q acc H) xc cls) (h1:tag.data.size≤c6) (h2:∀ s ∈ ids,s.data.size≤c6) (h3:∀ s ∈ cls,s.data.size≤c6) (li:ids.length≤1000) (lc:cls.length≤1000)
  (hy:∀ acc h H K,Q acc H→acc.length<N→(∀ H',Q (acc++[h]) H'→K (Bo true) H')→fG Tryz.prog σ y [I h] H K)
  {acc:List Int} {H:Hp} {K:AV→Hp→Prop} (hN:acc.length+1+ids.length+cls.length≤N) (hQ:Q acc H) (hK:∀ H',Q (acc++hsL tag ids cls) H'→K (.tup []) H') :
  av Tryz.prog σ gT [y,.ptr a 0,.ptr (a+1) 0,.ptr (a+2) 0] H K:=by
 refine ba.run ?_
 have la:∀ {acc H},Q acc H→ldA false 1 H (.ptr a 0)=some (Sx tag):=fun h=>by rw [aL,(qt _ _ h).1]; rfl
 have l1:∀ {acc H},Q acc H→ldA false 1 H (.ptr (a+1) 0)=some xi:=fun h=>by rw [aL,(qt _ _ h).2.1]; rfl
 have l2:∀ {acc H},Q acc H→ldA false 1 H (.ptr (a+2) 0)=some xc:=fun h=>by rw [aL,(qt _ _ h).2.2]; rfl
 obtain ⟨acc1,ha1⟩:∃ acc1,acc1=acc++(if tag=emp then [] else [HF 1 tag]):=⟨_,rfl⟩
 have na1:acc1.length≤acc.length+1:=by rw [ha1]; split<;>simp
 obtain ⟨acc2,ha2⟩:∃ acc2,acc2=acc1++ids.map (HF 2):=⟨_,rfl⟩
 have na2:acc2.length≤acc.length+1+ids.length:=by rw [ha2,List.length_append,List.length_map]; omega
 have e3:acc2++cls.map (HF 3)=acc++hsL tag ids cls:=by rw [ha2,ha1]; unfold hsL; simp
 have L1:∀ (f k:Nat) (H1:Hp) (y18 y19 y20:AV),cls.length - k=f→k≤cls.length→Q (acc2++(cls.take k).map (HF 3)) H1 →
   ba.L1 σ K y (.ptr (a+2) 0) y18 y19 y20 xc (I (cls.length:Int)) (I (k:Int)) H1:=by
  intro f
  induction f with
  | zero =>
   intro k H1 y18 y19 y20 hf hk hq
   have:k=cls.length:=by omega
   subst this
   rw [List.take_length,e3] at hq
   refine ba.L1_step ?_
   simp only [a_,aa,Int.lt_irrefl,decide_false,ai,Bool.false_eq_true,if_false]
   exact hK H1 hq
  | succ f ih =>
   intro k H1 y18 y19 y20 hf hk hq
   have hlt:k<cls.length:=by omega
   have hlt':(k:Int)<cls.length:=by omega
   obtain ⟨s,hs⟩:=bp hlt
   obtain ⟨p,hp,hl⟩:=hc.get k s hs
   refine ba.L1_step ?_
   simp only [a_,aa,hlt',decide_true,ai,if_true,hp,hl H1 ⟨_,hq⟩]
   refine ak (vR (.inr (.inr rfl)) s (h3 s (List.mem_of_getElem? hs)) H1) ?_
   refine hy _ _ H1 _ hq (by rw [List.length_append,List.length_map,List.length_take]; omega) fun H2 hq2=>?_
   simp only [eM,aa,ai,Bool.not_true,Bool.false_eq_true,if_false,bF,bq (show k<9000000000000000000 by omega)]
   refine ih (k+1) H2 _ _ _ (by omega) (by omega) ?_
   rw [List.take_add_one,hs,List.map_append,← List.append_assoc]
   exact hq2
 have L0:∀ (f k:Nat) (H1:Hp) (y30 y31 y32:AV),ids.length - k=f→k≤ids.length→Q (acc1++(ids.take k).map (HF 2)) H1 →
   ba.L0 σ K y (.ptr (a+2) 0) xi (I (ids.length:Int)) (I (k:Int)) y30 y31 y32 H1:=by
  intro f
  induction f with
  | zero =>
   intro k H1 y30 y31 y32 hf hk hq
   have:k=ids.length:=by omega
   subst this
   rw [List.take_length,← ha2] at hq
   refine ba.L0_step ?_
   simp only [a_,aa,Int.lt_irrefl,decide_false,ai,Bool.false_eq_true,if_false,l2 hq,hc.len]
   exact L1 _ 0 H1 _ _ _ rfl (Nat.zero_le _) (by simpa using hq)
  | succ f ih =>
   intro k H1 y30 y31 y32 hf hk hq
   have hlt:k<ids.length:=by omega
   have hlt':(k:Int)<ids.length:=by omega
   obtain ⟨s,hs⟩:=bp hlt
   obtain ⟨p,hp,hl⟩:=hi.get k s hs
   refine ba.L0_step ?_
   simp only [a_,aa,hlt',decide_true,ai,if_true,hp,hl H1 ⟨_,hq⟩]
   refine ak (vR (.inr (.inl rfl)) s (h2 s (List.mem_of_getElem? hs)) H1) ?_
   refine hy _ _ H1 _ hq (by rw [List.length_append,List.length_map,List.length_take]; omega) fun H2 hq2=>?_
   simp only [eM,aa,ai,Bool.not_true,Bool.false_eq_true,if_false,bF,bq (show k<9000000000000000000 by omega)]
   refine ih (k+1) H2 _ _ _ (by omega) (by omega) ?_
   rw [List.take_add_one,hs,List.map_append,← List.append_assoc]
   exact hq2
 have bn:ah .neq (Sx tag) (.lit (.string ⟨#[]⟩))=some (Bo (!decide (tag=emp))):=nv tag emp
 simp only [la hQ,aa,bn,ai]
 by_cases h0:tag=emp
 ·rw [if_pos h0,List.append_nil] at ha1
  simp only [h0,decide_true,Bool.not_true,Bool.false_eq_true,if_false,l1 hQ,aa,hi.len]
  exact L0 _ 0 H _ _ _ rfl (Nat.zero_le _) (by rw [ha1]; simpa using hQ)
 ·rw [if_neg h0] at ha1
  simp only [h0,decide_false,Bool.not_false,if_true]
  refine ak (vR (.inl rfl) tag h1 H) ?_
  refine hy _ _ H _ hQ (by omega) fun H2 hq2=>?_
  simp only [eM,aa,ai,Bool.not_true,Bool.false_eq_true,if_false,l1 hq2,hi.len]
  exact L0 _ 0 H2 _ _ _ rfl (Nat.zero_le _) (by rw [ha1]; simpa using hq2)
end
structure Hv (P:Nat→Prop) (H0:Hp) (o l:Nat) (rec:mw) (acc:List Int) (H:Hp):Prop where
 up:l<H.n
 ov:∃ x,H.get o=some (.cells [x] true)∧Gs 1 H x (acc.map db)∧∀ j,own x j→¬ P j∧j≠o∧j≠l
 lp:H.get l=some (.loop rec .ready none)
 lo:∀ j,P j→H.get j=H0.get j
theorem JA {P:Nat→Prop} {H0 H:Hp} {o l:Nat} {rec:mw} {acc:List Int} (h:Hv P H0 o l rec acc H) (hol:o<l) (hPo:¬ P o) (hPl:∀ j,P j→j<l) (hn:acc.length<100000) (v:Int) {K:AV→Hp→Prop} (hK:∀ H',Hv P H0 o l rec (acc++[v]) H'→K (Bo true) H') :
  bnd (some (H.set l (some (.loop rec .busy none)))) fun H1=>bnd (ldA false 1 H1 (.ptr o 0)) fun x2=>bnd (cj [.int .i64 0] 1 1 H1 [(0,1,I v)]) fun p3=>bnd (eA false 1 8 p3.2 x2 p3.1) fun p4=>bnd (stA 1 p4.2 (.ptr o 0) p4.1) fun H5=>ib l rec K .normal H5:=by
 obtain ⟨x,gx,hgs,how⟩:=h.ov
 have hup:=h.up
 rw [aa]
 obtain ⟨H1,hH1⟩:∃ H1,H1=H.set l (some (.loop rec .busy none)):=⟨_,rfl⟩
 have g1:∀ j,j≠l→H1.get j=H.get j:=fun j hj=>by rw [hH1,ay,if_neg hj]
 have n1:H1.n=H.n:=by rw [hH1]; simp
 have gl1:H1.get l=some (.loop rec .busy none):=by rw [hH1,ay,if_pos rfl]
 rw [← hH1]
 clear hH1
 have l1:ldA false 1 H1 (.ptr o 0)=some x:=by
  rw [aL,g1 o (by omega),gx]
  simp
 rw [l1,aa]
 have hgs1:Gs 1 H1 x (acc.map db):=hgs.keep (fun j hj=>g1 j (how j hj).2.2) (by omega)
 refine fY (y:=I v) hgs1 rfl rfl rfl (by rw [List.length_map]; omega) (by rw [List.length_map]; omega) fun x' H' g' fr=>?_
 have hgr:=fr.grow
 have go:H'.get o=some (.cells [x] true):=by rw [fr.same o (by omega) fun ho=>(how o ho).2.1 rfl,g1 o (by omega)]; exact gx
 rw [g'.st (off:=0) go (by simp),aa,pb]
 have gl:H'.get l=some (.loop rec .busy none):=by rw [fr.same l (by omega) fun ho=>(how l ho).2.2 rfl]; exact gl1
 have mine:∀ j,own x' j→¬ P j∧j≠o∧j≠l:=fun j hj=>by
  rcases fr.mine j hj with h1 | ⟨h1,h2⟩
  ·exact how j h1
  ·exact ⟨fun hp=>by have:=hPl j hp; omega,by omega,by omega⟩
 refine ⟨by rw [ay,if_neg (by omega)]; exact gl,hK _ ⟨by simp; omega,⟨x',?_,?_,mine⟩,by rw [ay,if_pos rfl],fun j hj=>?_⟩⟩
 ·rw [ay,if_neg (by omega),ay,if_pos rfl]; rfl
 ·refine Gs.keep (H:=H') (by rw [List.map_append]; exact g') (fun j hj=>?_) (by simp)
  obtain ⟨_,h2,h3⟩:=mine j hj
  rw [ay,if_neg h3,ay,if_neg h2]
 ·have hjl:=hPl j hj
  have hjo:j≠o:=fun e=>hPo (e ▸ hj)
  rw [ay,if_neg (by omega),ay,if_neg hjo,fr.same j (by omega) fun ho=>(how j ho).1 hj,g1 j (by omega)]
  exact h.lo j hj
end Go.Proofs.YthdcghnjndhecaaGreat.Ev
namespace Go.Proofs.YthdcghnjndhecaaGreat.Ev
set_option linter.unusedVariables false
set_option linter.unusedSimpArgs false
variable {σ:Sig}
theorem bx1 (x:AV) (H:Hp) (K:AV→Hp→Prop) (h1:x.cells=[x]) (h2:x.isAny=false):cV x H K=K (.ptr H.n 0) (H.new (.cells [x] true)):=by
 unfold cV
 rw [h2,h1]; rfl
theorem uz {P:Nat→Prop} {H:Hp} {o:Nat} {xi:AV} {tag:ByteArray} {ids cls:List ByteArray} (rec:(Nat→AV)→mw) (acc:List Int)
  (ho:o<H.n) (hP:∀ j,P j→j<H.n) (hPo:¬ P o) (bxi:xi.cells=[xi]∧xi.isAny=false) (hi:∀ Q:Hp→Prop,(∀ H',Q H'→∀ j,P j→H'.get j=H.get j)→E7 Q xi ids) (h1:tag.data.size≤c6) (h2:∀ s ∈ ids,s.data.size≤c6) (h3:∀ s ∈ cls,s.data.size≤c6) (li:ids.length≤1000) (lc:cls.length≤1000)
  (hx:∃ x,H.get o=some (.cells [x] true)∧Gs 1 H x (acc.map db)∧∀ j,own x j→¬ P j∧j≠o) (hN:acc.length≤90000)
  (hr:∀ (js:Nat→AV) (H':Hp) (p:AV) (K:AV→Hp→Prop),H'.get (H.n+3)=some (.loop (rec js) .ready none)→(bnd (some (H'.set (H.n+3) (some (.loop (rec js) .busy none)))) fun H1=>bnd (ldA false 1 H1 (.ptr o 0)) fun x2=>bnd (cj [.int .i64 0] 1 1 H1 [(0,1,p)]) fun p3=>bnd (eA false 1 8 p3.2 x2 p3.1) fun p4=>bnd (stA 1 p4.2 (.ptr o 0) p4.1) fun H5=>ib (H.n+3) (rec js) K .normal H5)→fG Tryz.prog σ (.yl (H.n+3)) [p] H' K)
  {N R:Hp→Prop} {X:Nat→Hp→Prop} (hK:∀ H',H.n≤H'.n→(∀ j,P j→H'.get j=H.get j)→(∃ x,H'.get o=some (.cells [x] true)∧Gs 1 H' x ((acc++hsL tag ids cls).map db)∧∀ j,own x j→¬ P j∧j≠o)→N H') :
  av Tryz.prog σ eP [Sx tag,xi,cG cls] H fun x5 H6=>∀ js:Nat→AV,mh Tryz.prog σ x5 (rec js) H6 N R X:=by
 refine mP.run ?_
 rw [bx1 (Sx tag) _ _ rfl rfl,bx1 xi _ _ bxi.1 bxi.2,bx1 (cG cls) _ _ rfl rfl]
 intro js
 rw [rU]
 have hr:=hr js
 generalize rec js=rec at hr ⊢
 obtain ⟨n,hn⟩:∃ n,n=H.n:=⟨_,rfl⟩
 simp only [Hp.n_new,← hn] at hr ⊢
 rw [show n+1+1=n+2 from rfl,show n+2+1=n+3 from rfl]
 obtain ⟨H7,hH7⟩:∃ H7,H7=(((H.new (.cells [Sx tag] true)).new (.cells [xi] true)).new (.cells [cG cls] true)).new (.loop rec .ready none):=⟨_,rfl⟩
 have g7:∀ j,H7.get j=if j=n+3 then some (.loop rec .ready none) else if j=n+2 then some (.cells [cG cls] true) else if j=n+1 then some (.cells [xi] true) else if j=n then some (.cells [Sx tag] true) else H.get j:=by
  intro j
  rw [hH7]
  simp only [bN,Hp.n_new,← hn]
 have n7:H7.n=n+4:=by rw [hH7,hn]; rfl
 rw [← hH7]
 clear hH7
 have lo7:∀ j,j<n→H7.get j=H.get j:=fun j hj=>by rw [g7,if_neg (by omega),if_neg (by omega),if_neg (by omega),if_neg (by omega)]
 obtain ⟨P',hP'⟩:∃ P':Nat→Prop,∀ j,P' j ↔ P j∨(n≤j∧j<n+3):=⟨_,fun _=>Iff.rfl⟩
 obtain ⟨x,gx,hgs,how⟩:=hx
 have hown:∀ j,own x j→j<n:=fun j hj=>by rw [hn]; exact hgs.lt hj
 have hv0:Hv P' H7 o (n+3) rec acc H7:=by
  refine ⟨by omega,⟨x,by rw [lo7 o (by omega)]; exact gx,hgs.keep (fun j hj=>lo7 j (hown j hj)) (by omega),fun j hj=>?_⟩,by rw [g7,if_pos rfl],fun _ _=>rfl⟩
  have:=hown j hj
  refine ⟨fun h=>?_,(how j hj).2,by omega⟩
  rcases (hP' j).1 h with h | h
  ·exact (how j hj).1 h
  ·omega
 have hPo':¬ P' o:=fun h=>by
  rcases (hP' o).1 h with h | h
  ·exact hPo h
  ·omega
 have hPl':∀ j,P' j→j<n+3:=fun j h=>by
  rcases (hP' j).1 h with h | h
  ·have:=hP j h; omega
  ·omega
 have low:∀ {acc H'},Hv P' H7 o (n+3) rec acc H'→∀ j,P j→H'.get j=H.get j:=fun h j hj=>by
  rw [h.lo j ((hP' j).2 (.inl hj)),lo7 j (by have:=hP j hj; omega)]
 refine Aa (Q:=Hv P' H7 o (n+3) rec) (N:=95000) (a:=n) (fun acc H' h=>⟨?_,?_,?_⟩) (hi _ fun H' h=>low h.choose_spec) (.ofL _ cls) h1 h2 h3 li lc (fun acc v H' K h hl hk=>?_) (acc:=acc) (by omega) hv0 fun H' h=>?_
 ·rw [h.lo n ((hP' n).2 (.inr ⟨by omega,by omega⟩)),g7]; simp
 ·rw [h.lo (n+1) ((hP' _).2 (.inr ⟨by omega,by omega⟩)),g7]; simp
 ·rw [h.lo (n+2) ((hP' _).2 (.inr ⟨by omega,by omega⟩)),g7]; simp
 ·exact hr H' (I v) K h.lp (JA h (by omega) hPo' hPl' (by omega) v hk)
 ·rw [h.lp,pt]
  obtain ⟨x',gx',hgs',how'⟩:=h.ov
  have hu:=h.up
  refine hK _ (by simp; omega) (fun j hj=>?_) ⟨x',?_,?_,fun j hj=>⟨fun hp=>(how' j hj).1 ((hP' j).2 (.inl hp)),(how' j hj).2.1⟩⟩
  ·rw [ay,if_neg (by have:=hP j hj; omega)]
   exact low h j hj
  ·rw [ay,if_neg (by omega)]; exact gx'
  ·exact hgs'.keep (fun j hj=>by rw [ay,if_neg (how' j hj).2.2]) (by simp)
section
attribute [local irreducible] cH.J0 cH.R1
theorem Ri {n:Nd} (hn:uK n) (H:Hp):au Tryz.prog σ kJ [.agg (aY n)] H (ek (hsN n)) H:=by
 obtain ⟨Q,hQ⟩:∃ Q:AV→Hp→Prop,∀ r H1,Q r H1 ↔ Gs 1 H1 r ((hsN n).map db):=⟨_,fun _ _=>Iff.rfl⟩
 have hL:c6=9223372036854775807:=rfl
 have run:∃ r H1,au Tryz.prog σ kJ [.agg (aY n)] Hp.empty r H1∧Q r H1:=by
  refine cH.run ?_
  simp only [cJ,bA]
  obtain ⟨H2,hH2⟩:∃ H2,H2=(Hp.empty.new (.cells (aY n) true)).new (.cells [.lit (.slice none 0 0)] true):=⟨_,rfl⟩
  have g0:H2.get 0=some (.cells (aY n) true):=by rw [hH2]; simp [Hp.empty]
  have g1:H2.get 1=some (.cells [.lit (.slice none 0 0)] true):=by rw [hH2]; simp [Hp.empty]
  have n2:H2.n=2:=by rw [hH2]; rfl
  have e0:Hp.empty.n=0:=rfl
  have e1:(Hp.empty.new (.cells (aY n) true)).n=1:=rfl
  rw [e0,e1,← hH2]
  clear hH2
  have J0:∀ (H3:Hp) (xi:AV),H3.get 0=some (.cells (aY n) true)→H3.get 1=some (.cells [.lit (.slice none 0 0)] true)→((n.id=emp∧xi=.lit (.slice none 0 0)∧2≤H3.n)∨(n.id≠emp∧xi=.sl 2 0 1 1 (some 1)∧3≤H3.n∧H3.get 2=some (.cells [Sx n.id] true))) →
    cH.J0 σ Q (.ptr 0 0) (.lit (.slice none 0 0)) xi (.ptr 1 0) H3:=by
   intro H3 xi h0 h1 hx
   have hn3:2≤H3.n:=by rcases hx with h | h<;>omega
   refine cH.J0_step ?_
   have lt:ldA false 1 H3 (.ptr 0 (0+1))=some (Sx n.tag):=by rw [aL,h0]; rfl
   have lc:ldA false 1 H3 (.ptr 0 (0+3))=some (cG n.classes):=by rw [aL,h0]; rfl
   simp only [bu,aa,lt,lc]
   refine uz (P:=fun j=>j<H3.n∧j≠1) (ids:=if n.id=emp then [] else [n.id]) (fun js=>cH.R1 js (.ptr 0 0) (.lit (.slice none 0 0)) xi (.ptr 1 0)) [] (by omega) (fun j hj=>hj.1) (fun h=>h.2 rfl) ?_ (fun Q' hQ'=>?_) (by have:=hn.tag; omega) (fun s hs=>?_) (fun s hs=>by have:=hn.cl s hs; omega) (by split<;>simp) (by have:=hn.classes; omega) ⟨_,h1,.nil,fun j hj=>hj.elim⟩ (by simp) (fun js H' p K h1 h2=>cH.R1_round h1 ⟨h1,h2⟩) fun H' hu hlo hx'=>?_
   ·rcases hx with ⟨_,rfl,_⟩ | ⟨_,rfl,_⟩<;>exact ⟨rfl,rfl⟩
   ·rcases hx with ⟨he,rfl,_⟩ | ⟨he,rfl,hn4,h2⟩
    ·rw [if_pos he]
     exact ⟨rfl,fun k s hs=>by cases hs⟩
    ·rw [if_neg he]
     refine ⟨rfl,fun k s hs=>?_⟩
     have hk:k=0:=by
      rcases Nat.eq_zero_or_pos k with h | h
      ·exact h
      ·rw [List.getElem?_eq_none (by simp; omega)] at hs; cases hs
     subst hk
     cases hs
     refine ⟨.ptr 2 0,by rw [nW (by omega) (by simp)]; rfl,fun H hq=>?_⟩
     rw [aL,hQ' H hq 2 ⟨by omega,by omega⟩,h2]; rfl
   ·split at hs
    ·cases hs
    ·rw [List.mem_singleton.1 hs]; have:=hn.id; omega
   ·obtain ⟨x,gx,hg,_⟩:=hx'
    have lx:ldA false 1 H' (.ptr 1 0)=some x:=by rw [aL,gx]; simp
    rw [lx,aa,hQ]
    exact hg
  have li:ldA false 1 H2 (.ptr 0 (0+2))=some (Sx n.id):=by rw [aL,g0]; rfl
  have bn:ah .neq (Sx n.id) (.lit (.string ⟨#[]⟩))=some (Bo (!decide (n.id=emp))):=nv n.id emp
  simp only [bu,aa,li,bn,ai]
  by_cases h:n.id=emp
  ·simp only [h,decide_true,Bool.not_true,Bool.false_eq_true,if_false]
   exact J0 H2 _ g0 g1 (.inl ⟨h,rfl,by omega⟩)
  ·simp only [h,decide_false,Bool.not_false,if_true]
   rw [wI (z:=[.string ⟨#[]⟩]) (sz:=1) (x:=Sx n.id) rfl rfl,aa,n2]
   refine J0 _ _ ?_ ?_ (.inr ⟨h,rfl,by simp; omega,?_⟩)
   ·rw [bN,if_neg (by omega)]; exact g0
   ·rw [bN,if_neg (by omega)]; exact g1
   ·rw [bN,if_pos n2.symm]; rfl
 obtain ⟨r,H1,hg,hq⟩:=run
 exact hg.frzR (by simp [aK,bt,iR]) (((hQ _ _).1 hq).fz (bC _ (fun _=>rfl) _)) H
end
section
attribute [local irreducible] aO.L0 aO.J1 aO.R2
theorem KY {s:Sl} (hw:lu c6 s) (hf:pF 10 s) (H:Hp):au Tryz.prog σ io [.agg (aH s)] H (ek (fS s)) H:=by
 obtain ⟨Q,hQ⟩:∃ Q:AV→Hp→Prop,∀ r H1,Q r H1 ↔ Gs 1 H1 r ((fS s).map db):=⟨_,fun _ _=>Iff.rfl⟩
 have hlen:=hf.1
 have run:∃ r H1,au Tryz.prog σ io [.agg (aH s)] Hp.empty r H1∧Q r H1:=by
  refine aO.run ?_
  simp only [cJ,bA]
  obtain ⟨H2,hH2⟩:∃ H2,H2=(Hp.empty.new (.cells (aH s) true)).new (.cells [.lit (.slice none 0 0)] true):=⟨_,rfl⟩
  have g0:H2.get 0=some (.cells (aH s) true):=by rw [hH2]; simp [Hp.empty]
  have g1:H2.get 1=some (.cells [.lit (.slice none 0 0)] true):=by rw [hH2]; simp [Hp.empty]
  have n2:H2.n=2:=by rw [hH2]; rfl
  have e0:Hp.empty.n=0:=rfl
  have e1:(Hp.empty.new (.cells (aH s) true)).n=1:=rfl
  rw [e0,e1,← hH2]
  clear hH2
  have lp:∀ H:Hp,H.get 0=some (.cells (aH s) true)→ldA false 1 H (.ptr 0 (0+0))=some (.imm 6 (s.map bo)):=fun H h=>by rw [aL,h]; rfl
  have J1:∀ (H1:Hp) (y4:AV),(∃ x,H1.get 1=some (.cells [x] true)∧Gs 1 H1 x ((fS s).map db))→aO.J1 σ Q (.ptr 0 0) (.lit (.slice none 0 0)) (.ptr 1 0) y4 H1:=by
   intro H1 y4 ⟨x,gx,hg⟩
   refine aO.J1_step ?_
   have lx:ldA false 1 H1 (.ptr 1 0)=some x:=by rw [aL,gx]; simp
   rw [lx,aa,hQ]
   exact hg
  have L0:∀ (k:Nat) (H1:Hp) (acc:List Int),k≤s.length - 1→H1.get 0=some (.cells (aH s) true)→2≤H1.n→(∃ x,H1.get 1=some (.cells [x] true)∧Gs 1 H1 x (acc.map db)∧∀ j,own x j→2≤j)→acc++j7 s k=fS s→acc.length+11*k≤1000 →
    aO.L0 σ Q (.ptr 0 0) (.lit (.slice none 0 0)) (.ptr 1 0) (I (k:Int)) H1:=by
   intro k
   induction k with
   | zero =>
    intro H1 acc _ h0 hn hx hacc hb
    refine aO.L0_step ?_
    have:decide ((0:Int)<((0:Nat):Int))=false:=rfl
    simp only [eI,aa,this,ai,Bool.false_eq_true,if_false]
    obtain ⟨x,gx,hg,_⟩:=hx
    refine J1 H1 _ ⟨x,gx,?_⟩
    rw [← hacc]
    unfold j7
    rw [List.append_nil]
    exact hg
   | succ k ih =>
    intro H1 acc hk h0 hn hx hacc hb
    obtain ⟨p,hp⟩:=bp (show k+1<s.length by omega)
    obtain ⟨q,hq⟩:=bp (show k<s.length by omega)
    have hqm:=List.mem_of_getElem? hq
    have hgt:(0:Int)<((k+1:Nat):Int):=by omega
    have ixp:az 6 (.imm 6 (s.map bo)) (I ((k+1:Nat):Int))=some (.ip (bo p)):=bm hp
    have ixq:az 6 (.imm 6 (s.map bo)) (I (k:Int))=some (.ip (bo q)):=bm hq
    have lcomb:∀ H:Hp,ldA false 1 H (.ip ((bo p).drop 0))=some (I p.comb):=fun _=>by rw [dm]; rfl
    have lcp:∀ H:Hp,ldA true 5 H (.ip ((bo q).drop 1))=some (.agg (bU q.c)):=fun _=>by rw [dm,cd]; rfl
    have esub:wr .i64 (((k+1:Nat):Int) - 1)=(k:Int):=by rw [cM (by omega) (by omega)]; omega
    have hcw:=(Pt.wf_iff.1 (hw.2 q hqm)).2
    obtain ⟨hc1,hc2,_,_⟩:=(hf.2 q hqm).1
    have lh:(hsC q.c).length≤11:=by
     unfold hsC hsL
     rw [List.length_append,List.length_append,List.length_map,List.length_map]
     split<;>simp<;>omega
    refine aO.L0_step ?_
    simp only [eI,aa,hgt,decide_true,ai,if_true,bu,lp H1 h0,ixp,iJ,lcomb,tF]
    have away:¬ (p.comb=1∨p.comb=2)→aO.J1 σ Q (.ptr 0 0) (.lit (.slice none 0 0)) (.ptr 1 0) (I ((k+1:Nat):Int)) H1:=by
     intro hn
     obtain ⟨x,gx,hg,_⟩:=hx
     refine J1 H1 _ ⟨x,gx,?_⟩
     rw [← hacc]
     unfold j7
     rw [hp]
     simp only
     rw [if_neg hn,List.append_nil]
     exact hg
    have on:(p.comb=1∨p.comb=2)→bnd (ah .sub (I ((k+1:Nat):Int)) (I 1)) fun x11=>bnd (az 6 (.imm 6 (s.map bo)) x11) fun x12=>bnd (ae x12 1) fun x13=>bnd (ldA true 5 H1 x13) fun x14=>bE [.lit (.string ⟨#[]⟩),.lit (.slice none 0 0),.lit (.slice none 0 0),.lit (.slice none 0 0),.lit (.slice none 0 0)] H1 fun x15 H16=>bnd (stA 5 H16 x15 x14) fun H17=>bnd (ae x15 0) fun x18=>bnd (ldA false 1 H17 x18) fun x19=>bnd (ae x15 1) fun x20=>bnd (ldA false 1 H17 x20) fun x21=>bnd (ae x15 2) fun x22=>bnd (ldA false 1 H17 x22) fun x23=>av Tryz.prog σ eP [x19,x21,x23] H17 fun x24 H25=>∀ js:Nat→AV,mh Tryz.prog σ x24 (aO.R2 js (.ptr 0 0) (.lit (.slice none 0 0)) (.ptr 1 0) (I ((k+1:Nat):Int))) H25 (fun H26=>bnd (ah .sub (I ((k+1:Nat):Int)) (I 1)) fun x28=>aO.L0 σ Q (.ptr 0 0) (.lit (.slice none 0 0)) (.ptr 1 0) x28 H26) (fun H26=>Q (.lit (.slice none 0 0)) H26) (fun i27 H26=>False):=by
     intro hcomb
     simp only [ki,aa,esub,ixq,iJ,lcp,bA]
     obtain ⟨H3,hH3⟩:∃ H3,H3=(H1.new (.cells [.lit (.string ⟨#[]⟩),.lit (.slice none 0 0),.lit (.slice none 0 0),.lit (.slice none 0 0),.lit (.slice none 0 0)] true)).set H1.n (some (.cells (bU q.c) true)):=⟨_,rfl⟩
     have st:stA 5 (H1.new (.cells [.lit (.string ⟨#[]⟩),.lit (.slice none 0 0),.lit (.slice none 0 0),.lit (.slice none 0 0),.lit (.slice none 0 0)] true)) (.ptr H1.n 0) (.agg (bU q.c))=some H3:=by
      rw [eV,hH3]
      simp only [bN,if_true,cd]
      rfl
     have n3:H3.n=H1.n+1:=by rw [hH3]; rfl
     have g3:∀ j,j<H1.n→H3.get j=H1.get j:=by
      intro j hj
      have:j≠H1.n:=by omega
      rw [hH3]; simp [this]
     have gb3:H3.get H1.n=some (.cells (bU q.c) true):=by rw [hH3]; simp
     clear hH3
     have l0:ldA false 1 H3 (.ptr H1.n (0+0))=some (Sx q.c.tag):=by rw [aL,gb3,cd]; rfl
     have l1:ldA false 1 H3 (.ptr H1.n (0+1))=some (cG q.c.ids):=by rw [aL,gb3,cd]; rfl
     have l2:ldA false 1 H3 (.ptr H1.n (0+2))=some (cG q.c.classes):=by rw [aL,gb3,cd]; rfl
     simp only [st,aa,bu,l0,l1,l2]
     obtain ⟨x,gx,hg,how⟩:=hx
     refine uz (P:=fun j=>j=0) (ids:=q.c.ids) (fun js=>aO.R2 js (.ptr 0 0) (.lit (.slice none 0 0)) (.ptr 1 0) (I ((k+1:Nat):Int))) acc (by omega) (fun j hj=>by omega) (by omega) ⟨rfl,rfl⟩ (fun Q' _=>.ofL Q' _) hcw.tag (fun t ht=>hcw.ids.2 t ht) (fun t ht=>hcw.classes.2 t ht) (by omega) (by omega)
      ⟨x,by rw [g3 1 (by omega)]; exact gx,hg.keep (fun j hj=>g3 j (hg.lt hj)) (by omega),fun j hj=>by have:=how j hj; omega⟩ (by omega) (fun js H' p K h1 h2=>aO.R2_round h1 ⟨h1,h2⟩) fun H' hu hlo hx'=>?_
     refine ih H' (acc++hsC q.c) (by omega) (by rw [hlo 0 rfl,g3 0 (by omega)]; exact h0) (by omega) ?_ ?_ (by rw [List.length_append]; omega)
     ·obtain ⟨x',gx',hg',how'⟩:=hx'
      exact ⟨x',gx',hg',fun j hj=>by have:=how' j hj; omega⟩
     ·rw [← hacc]
      conv=>rhs; unfold j7
      rw [hp]
      simp only
      rw [if_pos hcomb,hq,List.append_assoc]
    by_cases h1:p.comb=1
    ·simp only [h1,decide_true,Bool.not_true,Bool.false_eq_true,if_false]
     exact on (.inl h1)
    ·by_cases h2:p.comb=2
     ·simp only [h1,h2,decide_true,decide_false,Bool.not_true,Bool.not_false,Bool.false_eq_true,if_true,if_false]
      exact on (.inr h2)
     ·simp only [h1,h2,decide_false,Bool.not_false,if_true]
      exact away fun h=>by rcases h with h | h<;>omega
  simp only [bu,aa,lp H2 g0,bW,List.length_map,ki]
  by_cases hs0:s.length=0
  ·have e:wr .i64 ((s.length:Int) - 1)=-1:=by rw [hs0]; rfl
   rw [e]
   refine aO.L0_step ?_
   have:decide ((0:Int) < -1)=false:=rfl
   simp only [eI,aa,this,ai,Bool.false_eq_true,if_false]
   refine J1 H2 _ ⟨_,g1,?_⟩
   have:fS s=[]:=by unfold fS; rw [hs0]; rfl
   rw [this]
   exact .nil
  ·have e:wr .i64 ((s.length:Int) - 1)=((s.length - 1:Nat):Int):=by rw [cM (by omega) (by omega)]; omega
   rw [e]
   exact L0 _ H2 [] (Nat.le_refl _) g0 (by omega) ⟨_,g1,.nil,fun j hj=>hj.elim⟩ rfl (by simp; omega)
 obtain ⟨r,H1,hg,hq⟩:=run
 exact hg.frzR (by simp [aK,bt,gP]) (((hQ _ _).1 hq).fz (bC _ (fun _=>rfl) _)) H
end
section
attribute [local irreducible] ck.L0
theorem Ml {c:List Int} {y b:Nat} {q:Sl} (hw:lu c6 q) (hf:pF 10 q) {H:Hp} (hk:FOk c) (hb:H.get b=some (.cells [.ptr y 0] true)) (hg:H.get y=some (.cells (c.map U8) true)) {K:AV→Hp→Prop}
  (hK:∀ H',H.n≤H'.n→(∀ j,j<H.n→H'.get j=H.get j)→K (Bo (xl c q)) H') (hbn:b<H.n) (hyn:y<H.n):fG Tryz.prog σ (.fn gY [.ptr b 0]) [.agg (aH q)] H K:=by
 rw [kF]
 refine ck.run ?_
 simp only [cJ]
 obtain ⟨H2,hH2⟩:∃ H2,H2=H.new (.cells (aH q) true):=⟨_,rfl⟩
 have g2:∀ j,j<H.n→H2.get j=H.get j:=fun j hj=>by
  have:j≠H.n:=by omega
  rw [hH2]; simp [this]
 have n2:H2.n=H.n+1:=by rw [hH2]; rfl
 have gq:H2.get H.n=some (.cells (aH q) true):=by rw [hH2]; simp
 rw [← hH2]
 clear hH2
 have lq:ldA true 1 H2 (.ptr H.n 0)=some (.agg (aH q)):=by rw [aL,gq]; rfl
 rw [lq,aa]
 refine ak (KY hw hf H2) ?_
 rw [ql,aa]
 have lf:ldA false 1 H2 (.ptr b 0)=some (.ptr y 0):=by rw [aL,g2 b hbn,hb]; rfl
 have hwl:(fS q).length≤1000000:=by
  have:∀ i,(j7 q i).length≤11*i:=by
   intro i
   induction i with
   | zero=>simp [j7]
   | succ i ih =>
    unfold j7
    split
    ·split
     ·rw [List.length_append]
      have:∀ z ∈ q[i]?,(hsC z.c).length≤11:=fun z hz=>by
       obtain ⟨hc1,hc2,_,_⟩:=(hf.2 z (List.mem_of_getElem? hz)).1
       unfold hsC hsL
       rw [List.length_append,List.length_append,List.length_map,List.length_map]
       split<;>simp<;>omega
      cases hz:q[i]? with
      | none=>simp; omega
      | some z=>have:=this z hz; simp only; omega
     ·simp
    ·simp
  have h1:=this (q.length - 1)
  have:=hf.1
  unfold fS
  omega
 have L0:∀ (f k:Nat),(fS q).length - k=f→k≤(fS q).length→((fS q).drop k).all (mI c)=xl c q →
   ck.L0 σ K (.ptr b 0) (ek (fS q)) (I ((fS q).length:Int)) (I (k:Int)) H2:=by
  intro f
  induction f with
  | zero =>
   intro k hf hk ha
   have:k=(fS q).length:=by omega
   subst this
   refine ck.L0_step ?_
   simp only [a_,aa,Int.lt_irrefl,decide_false,ai,Bool.false_eq_true,if_false]
   rw [List.drop_length,List.all_nil] at ha
   rw [← ha] at hK
   exact hK H2 (by omega) g2
  | succ f ih =>
   intro k hf hkl ha
   have hlt:k<(fS q).length:=by omega
   have hlt':(k:Int)<(fS q).length:=by omega
   obtain ⟨x,hx⟩:=bp hlt
   have hix:az 1 (ek (fS q)) (I (k:Int))=some (.ip (db x)):=bm hx
   have lx:ldA false 1 H2 (.ip (db x))=some (I x):=rfl
   rw [bK hx,List.all_cons] at ha
   refine ck.L0_step ?_
   simp only [a_,aa,hlt',decide_true,ai,if_true,hix,lx,lf]
   refine Rf hk (by rw [g2 y hyn]; exact hg) ?_
   rw [eM,aa,ai]
   cases hm:mI c x with
   | false =>
    rw [hm,Bool.false_and] at ha
    rw [← ha] at hK
    simp only [Bool.not_false,if_true]
    exact hK H2 (by omega) g2
   | true =>
    rw [hm,Bool.true_and] at ha
    simp only [Bool.not_true,Bool.false_eq_true,if_false,bF,aa]
    rw [bq (by omega)]
    exact ih (k+1) (by omega) (by omega) ha
 exact L0 _ 0 rfl (Nat.zero_le _) rfl
end
end Go.Proofs.YthdcghnjndhecaaGreat.Ev
namespace Go.Proofs.YthdcghnjndhecaaGreat.Ev
open Go.RowKit
set_option linter.unusedVariables false
set_option linter.unusedSimpArgs false
set_option maxRecDepth 100000
variable {σ:Sig}
theorem au.lift {P:Program} {f:Nat} {xs:List AV} {r:AV} {H H1:Hp} (h:au P σ f xs H r H1) (ok:∀ j,H.n≤j→H.get j=none) (u:Up H.n H H1):au P σ f xs H r (H.up H1.n):=by
 have hd0:∀ id,(Hp.bare H1.n).get id=none:=fun id=>by simp [Hp.bare,Hp.get,Tr.get]
 refine h.frzH (H2:=H.up H1.n) (Hd:=Hp.bare H1.n) rfl rfl (fun id k hk=>by rw [hd0] at hk; cases hk) (fun id k2 hk=>?_) (.inl rfl)
 rw [po] at hk
 have hlt:id<H.n:=by
  rcases Nat.lt_or_ge id H.n with h | h
  ·exact h
  ·rw [ok id h] at hk; cases hk
 exact ⟨k2,by rw [u.g id hlt]; exact hk,.refl _ k2⟩
theorem Dp {L:List Nd} {d:List Nat} (M:McT σ L d) (hL:L.length≤4096) {l:List RL} (hws:∀ r ∈ l,o3 r.sels∧r.sets.length≤30) (hlen:l.length≤60) {e:Nat} (he:e<L.length) (hw:lX (bv (bV L e))) (hcl:(bv (bV L e)).classes.length≤50)
  {n0 b cnt:Nat} {H:Hp} (hB:Bk n0 H b (fun k=>rwR k 0 l) cnt) (hR:∀ k,(rwR k 0 l).length≤1000) {c:List Int} {y:Nat} (hk:FOk c) (hg:H.get y=some (.cells (c.map U8) true)) (hy:y<H.n)
  (hfl:(mC (bv (bV L e)) 0 l).length≤1000) (hol:(((mC (bv (bV L e)) 0 l).foldl (nD L (e:Int) (xl c) l) wn0).o).length=16) :
  ∃ H1:Hp,au Tryz.prog σ gM [cx L d,I (e:Int),rls l,.ptr b 0,.ptr y 0] H (.agg (((mC (bv (bV L e)) 0 l).foldl (nD L (e:Int) (xl c) l) wn0).o.map I)) (H.up H1.n)∧H.n≤H1.n:=by
 obtain ⟨o,ho⟩:∃ o,o=((mC (bv (bV L e)) 0 l).foldl (nD L (e:Int) (xl c) l) wn0).o:=⟨_,rfl⟩
 rw [← ho] at hol ⊢
 obtain ⟨Q,hQ⟩:∃ Q:AV→Hp→Prop,∀ r H1,Q r H1 ↔ r=.agg (o.map I)∧Up H.n H H1:=⟨_,fun _ _=>Iff.rfl⟩
 have raw:∃ r H1,au Tryz.prog σ gM [cx L d,I (e:Int),rls l,.ptr b 0,.ptr y 0] H r H1∧Q r H1:=by
  refine np.run ?_
  rw [bx1 _ _ _ rfl rfl,bA]
  obtain ⟨H4,hH4⟩:∃ H4,H4=(H.new (.cells [.ptr y 0] true)).new (.cells (List.replicate 16 (I 0)) true):=⟨_,rfl⟩
  have n4:H4.n=H.n+2:=by rw [hH4]; rfl
  have g4:∀ j,j<H.n→H4.get j=H.get j:=fun j hj=>by
   have a:j≠H.n:=by omega
   have b:j≠H.n+1:=by omega
   rw [hH4]; simp [a,b]
  have gx4:H4.get H.n=some (.cells [.ptr y 0] true):=by rw [hH4]; simp
  have gr4:H4.get (H.n+1)=some (.cells (List.replicate 16 (I 0)) true):=by rw [hH4]; simp
  have ok4:∀ j,H4.n≤j→H4.get j=none:=by rw [hH4]; exact jZ (jZ hB.ok _) _
  rw [Hp.n_new,← hH4]
  clear hH4
  have p1:gn .eql (cx L d) (.lit (.pointer none))=some (Bo false):=rfl
  have p2:∀ a o:Nat,gn .eql (.ptr a o) (.lit (.pointer none))=some (Bo false):=fun _ _=>rfl
  have lx:ldA false 1 H4 (.ptr H.n 0)=some (.ptr y 0):=by rw [aL,gx4]; rfl
  simp only [p1,p2,lx,aa,ai,Bool.false_eq_true,if_false]
  refine ak (OV L d hL he hw H4) ?_
  have hB4:=hB.mono ⟨by omega,g4⟩ ok4
  obtain ⟨H5,hf5,hn5⟩:=HK (σ:=σ) hB4 hR (bv (bV L e)) hcl
  rw [PQ] at hf5
  refine ak hf5 ?_
  refine sC M hws (ask:=xl c) rfl rfl (fun H'=>H'.get H.n=some (.cells [.ptr y 0] true)∧H'.get y=some (.cells (c.map U8) true)) ⟨by rw [po]; exact gx4,by rw [po,g4 y hy]; exact hg⟩ (fun H' H'' h1 h2 h3=>?_) (fun r hr q hq H' K h1 h2 h3=>?_) (by omega) fun H' hn' hlo'=>?_
  ·rw [Ny] at h3
   rw [h3 H.n (by omega),h3 y (by omega)]
   exact h1
  ·rw [Ny] at h2
   exact Ml ((hws r hr).1.wf q hq) ((hws r hr).1.fit q hq) hk h1.1 h1.2 h3 (by omega) (by omega)
  ·rw [← ho]
   rw [Ny] at hn' hlo'
   have hol2:(o.map I).length=16:=by rw [List.length_map]; exact hol
   have hall1:(o.map I).all AV.one=true:=by rw [List.all_eq_true]; intro x hx; obtain ⟨v,_,rfl⟩:=List.mem_map.1 hx; rfl
   have gr:H'.get (H.n+1)=some (.cells (List.replicate 16 (I 0)) true):=by rw [hlo' _ (by omega),po]; exact gr4
   have s1:stA 16 H' (.ptr (H.n+1) 0) (.agg (o.map I))=some (H'.set (H.n+1) (some (.cells (o.map I) true))):=by
    rw [eV,gr,if_pos hol2,de,if_pos ⟨by rw [hol2]; simp,hall1⟩,bj (by rw [hol2]; simp)]
   have l2:ldA true 16 (H'.set (H.n+1) (some (.cells (o.map I) true))) (.ptr (H.n+1) 0)=some (.agg (o.map I)):=by
    rw [aL,ay,if_pos rfl,aM,List.drop_zero,dg hol2]
   rw [s1,aa,l2,aa,hQ]
   refine ⟨rfl,by simp; omega,fun j hj=>?_⟩
   rw [ay,if_neg (by omega),hlo' j (by omega),po,g4 j hj]
 obtain ⟨r,H1,h1,h2⟩:=raw
 obtain ⟨rfl,hu⟩:=(hQ _ _).1 h2
 exact ⟨H1,h1.lift hB.ok hu,hu.n⟩
theorem oN (s:ByteArray):(pM s).data.size=s.data.size:=by simp [pM]
theorem lX.low {n:Nd} (h:lX n):lX (bv n):=by
 refine ⟨h.parent,?_,h.classes,?_,fun p hp=>?_⟩
 ·show (pM n.tag).data.size≤_
  rw [oN]; exact h.tag
 ·show (n.attrs.map jP).length*32≤_
  rw [List.length_map]; exact h.attrs
 ·obtain ⟨q,hq,rfl⟩:=List.mem_map.1 hp
  show (pM q.1).data.size≤_
  rw [oN]; exact h.names q hq
theorem uK.low2 {n:Nd} (h:uK n):uK (bv n):=by
 refine ⟨h.classes,?_,?_,h.id,h.cl,fun p hp=>?_⟩
 ·show (n.attrs.map jP).length≤_
  rw [List.length_map]; exact h.attrs
 ·show (pM n.tag).data.size≤_
  rw [oN]; exact h.tag
 ·obtain ⟨q,hq,rfl⟩:=List.mem_map.1 hp
  refine ⟨?_,(h.at' q hq).2⟩
  show (pM q.1).data.size≤_
  rw [oN]; exact (h.at' q hq).1
theorem Ak {L:List Nd} {e:Nat} (he:e<L.length):bV L e ∈ L:=by
 unfold bV
 rw [List.getD_eq_getElem?_getD,List.getElem?_eq_getElem he]
 exact List.getElem_mem _
theorem sw.rl8 {l:List RL} (h:sw l):Rl8 l:=by
 refine ⟨by have:=h.len; omega,h.sels,fun r hr s hs=>?_⟩
 have:=(h.fit r hr s hs s (by simp)).1
 omega
theorem Rr {l:List RL} (h:sw l) (k:Key):(rwR k 0 l).length≤1000:=by
 have:=Bf k l 0
 have:=Ta h.sels
 have:=h.len
 omega
theorem KB (n:Nd):∀ (l:List RL) (i:Nat),(mC n i l).length≤l.length
 | [],_=>Nat.le_refl _
 | r::l,i=>by
  have:=KB n l (i+1)
  unfold mC
  split<;>simp<;>omega
section
attribute [local irreducible] aw.L0 aw.L1
theorem qX (hC:qB σ) {L:List Nd} (hW:∀ n ∈ L,lX n) {m:List RL} (hm:ve m) (hb:eE (m.map d8)≤NB) (more:List Int):∃ Hf,au Tryz.prog σ fq [nds L,rls m,ek more] Hp.empty (Bo true) Hf:=by
 refine ⟨Hp.empty,bg (fun K hK=>aw.run (ak (On hC _) ?_)) (by simp [aK]) rfl _⟩
 obtain ⟨much,hd,hfit⟩:=BF (σ:=σ) m hm
 refine ak (hd _) ?_
 rcases Dl (σ:=σ) L hW with hg | ⟨d,hT,hg⟩
 ·refine ak (hg _) ?_
  simp only [qc,List.getElem?_cons_zero,List.getElem?_cons_succ,aa,eM,ai,Bool.not_true,Bool.not_false,Bool.false_eq_true,if_true,if_false]
  cases much<;>simp only [Bool.false_eq_true,if_true,if_false]<;>exact hK _
 refine ak (hg _) ?_
 simp only [qc,List.getElem?_cons_zero,List.getElem?_cons_succ,aa,eM,ai,Bool.not_true,Bool.not_false,Bool.false_eq_true,if_true,if_false]
 cases hmu:much with
 | true=>simp only [if_true]; exact hK _
 | false =>
 simp only [Bool.false_eq_true,if_false,ql,aa,eI,ai,decide_eq_true_eq]
 by_cases hmore:(100:Int)<more.length
 ·rw [if_pos hmore]; exact hK _
 rw [if_neg hmore]
 have hF:=hfit hmu
 have M:=hT.mc hC
 have hl40:=hT.len
 have hml:=hF.len
 have hws:=Rk hm hF hb
 have hBl:=fun k=>Rr hF k
 refine MA m hF.rl8 (fun j _=>by simp [Hp.empty,Hp.get,Tr.get]) fun H1 b hB u1=>?_
 have L0:∀ (f i:Nat) (H:Hp) (y14 y15:AV),L.length - i=f→i≤L.length→Bk Hp.empty.n H b (fun k=>rwR k 0 m) (sD m) →
   aw.L0 σ K (nds L) (rls m) (ek more) (cx L d) (dl L d) (.ptr b 0) (I (i:Int)) y14 y15 H:=by
  intro f
  induction f with
  | zero =>
   intro i H y14 y15 hf hi hB
   have:i=L.length:=by omega
   subst this
   refine aw.L0_step ?_
   simp only [jG,aa,a_,Int.lt_irrefl,decide_false,ai,Bool.false_eq_true,if_false]
   exact hK _
  | succ f ih =>
   intro i H y14 y15 hf hi hB
   have hlt:(i:Int)<(L.length:Int):=by omega
   have hil:i<L.length:=by omega
   refine aw.L0_step ?_
   simp only [jG,aa,a_,hlt,decide_true,ai,if_true,bA]
   have ez:List.replicate 1024 (AV.lit (.int .u8 0))=(List.replicate 1024 (0:Int)).map U8:=by rw [List.map_replicate]; rfl
   have hF0:FOk (List.replicate 1024 (0:Int)):=⟨List.length_replicate,fun j=>by
    rw [List.getD_eq_getElem?_getD,List.getElem?_replicate]
    split<;>simp⟩
   rw [ez]
   generalize List.replicate 1024 (0:Int)=c0 at hF0 ⊢
   obtain ⟨y,hy⟩:∃ y,y=H.n:=⟨_,rfl⟩
   obtain ⟨H4,hH4⟩:∃ H4,H4=H.new (.cells (c0.map U8) true):=⟨_,rfl⟩
   have n4:H4.n=y+1:=by rw [hH4,hy]; rfl
   have g4:∀ j,j≠y→H4.get j=H.get j:=fun j hj=>by rw [hH4,bN,if_neg (by omega)]
   have gy4:H4.get y=some (.cells (c0.map U8) true):=by rw [hH4,bN,if_pos hy]
   have ok4:∀ j,H4.n≤j→H4.get j=none:=by rw [hH4]; exact jZ hB.ok _
   rw [← hH4,← hy]
   clear hH4
   refine AO more (by omega) hF0 gy4 fun H6 n6 g6 gy6=>?_
   refine ak (jy L d hil H6) ?_
   have L1:∀ (g:Nat) (p:Int) (c:List Int) (H7:Hp),p<g→p<L.length→FOk c→H7.n=y+1→(∀ j,j≠y→H7.get j=H.get j)→H7.get y=some (.cells (c.map U8) true) →
     (∀ x,Anc L i x→(∀ h ∈ hsN (bv (bV L x)),mI c h=true)∨(0≤p∧((x:Int)=p∨Anc L p.toNat x))) →
     aw.L1 σ K (nds L) (rls m) (ek more) (cx L d) (dl L d) (.ptr b 0) (I (i:Int)) (.ptr y 0) (I p) H7:=by
    have exit:∀ (p:Int) (c:List Int) (H7:Hp),p<0→FOk c→H7.n=y+1→(∀ j,j≠y→H7.get j=H.get j)→H7.get y=some (.cells (c.map U8) true) →
      (∀ x,Anc L i x→(∀ h ∈ hsN (bv (bV L x)),mI c h=true)∨(0≤p∧((x:Int)=p∨Anc L p.toNat x))) →
      aw.L1 σ K (nds L) (rls m) (ek more) (cx L d) (dl L d) (.ptr b 0) (I (i:Int)) (.ptr y 0) (I p) H7:=by
     intro p c H7 hp hk n7 g7 gy7 hanc
     have hp':¬ (0≤p):=by omega
     refine aw.L1_step ?_
     simp only [im,aa,hp',decide_false,ai,Bool.false_eq_true,if_false]
     have ok7:∀ j,H7.n≤j→H7.get j=none:=fun j hj=>by rw [g7 j (by omega)]; exact hB.ok j (by omega)
     have hB7:=hB.mono (H':=H7) ⟨by omega,fun j hj=>g7 j (by omega)⟩ ok7
     have hfast:(mC (bv (bV L i)) 0 m).foldl (nD L (i:Int) (xl c) m) wn0=ln L (i:Int) m:=by
      refine wD (fun r hr s hs hsel=>?_) m 0 wn0 rfl
      unfold xl
      rw [List.all_eq_true]
      intro x hx
      obtain ⟨z,hz,hm⟩:=BJ hsel x hx
      rcases hanc z hz with h | h
      ·exact h x hm
      ·omega
     have hsm:=hT.sm _ (Ak hil)
     obtain ⟨H8,hgood,hle⟩:=Dp (σ:=σ) M (by omega) hws (by omega) hil (hW _ (Ak hil)).low (by have:=hsm.classes; show (bV L i).classes.length≤50; omega) hB7 hBl hk gy7 (by omega) (by have:=KB (bv (bV L i)) m 0; omega) (by rw [hfast]; exact xF _ _ _)
     rw [hfast] at hgood
     refine ak hgood ?_
     refine ak (zd M hws hF.len _ _) ?_
     simp only [TM (xF _ _ _),aa,ai,Bool.false_eq_true,if_false,bF]
     rw [bq (by omega)]
     exact ih (i+1) _ _ _ (by omega) (by omega) (hB7.mono ⟨hle,fun _ _=>rfl⟩ fun j hj=>by rw [po]; exact ok7 j (by rw [Ny] at hj; omega))
    intro g
    induction g with
    | zero =>
     intro p c H7 hpg hpl hk n7 g7 gy7 hanc
     exact exit p c H7 (by omega) hk n7 g7 gy7 hanc
    | succ g ihg =>
     intro p c H7 hpg hpl hk n7 g7 gy7 hanc
     by_cases hp:p<0
     ·exact exit p c H7 hp hk n7 g7 gy7 hanc
     obtain ⟨q,rfl⟩:∃ q:Nat,p=q:=⟨p.toNat,by omega⟩
     have hql:q<L.length:=by omega
     have hq0:(0:Int)≤(q:Int):=by omega
     refine aw.L1_step ?_
     simp only [im,aa,hq0,decide_true,ai,if_true]
     refine ak (D7 L d hql H7) ?_
     have hsm:=(hT.sm _ (Ak hql)).low2
     refine ak (Ri hsm H7) ?_
     have hhl:(hsN (bv (bV L q))).length≤1000000:=by
      have:=hsm.classes
      unfold hsN hsL
      rw [List.length_append,List.length_append,List.length_map,List.length_map]
      split<;>split<;>simp<;>omega
     refine AO _ hhl hk gy7 fun H8 n8 g8 gy8=>?_
     refine ak (jy L d hql H8) ?_
     have hpar:=ma hT.hB hql
     refine ihg (par L q) _ H8 (by rcases hpar with h | ⟨x,h1,h2⟩<;>omega) (by rcases hpar with h | ⟨x,h1,h2⟩<;>omega) (qi hk) (by omega) (fun j hj=>by rw [g8 j hj]; exact g7 j hj) gy8 fun x hx=>?_
     rcases hanc x hx with h | ⟨_,h⟩
     ·exact .inl fun z hz=>rN hk (.inr (h z hz))
     ·rw [Int.toNat_natCast] at h
      rcases h with h | h
      ·have:x=q:=by omega
       subst this
       exact .inl fun z hz=>rN hk (.inl hz)
      ·right
       cases h with
       | one h=>exact ⟨by omega,.inl h.symm⟩
       | more h h'=>exact ⟨by omega,.inr (by rw [h,Int.toNat_natCast]; exact h')⟩
   have hpar:=ma hT.hB hil
   refine L1 L.length (par L i) _ H6 (by rcases hpar with h | ⟨x,h1,h2⟩<;>omega) (by rcases hpar with h | ⟨x,h1,h2⟩<;>omega) (qi hF0) (by omega) (fun j hj=>by rw [g6 j hj]; exact g4 j hj) gy6 fun x hx=>.inr ?_
   cases hx with
   | one h=>exact ⟨by omega,.inl h.symm⟩
   | more h h'=>exact ⟨by omega,.inr (by rw [h,Int.toNat_natCast]; exact h')⟩
 exact L0 _ 0 H1 _ _ rfl (Nat.zero_le _) hB
end
theorem Ql {x:AV} (h:ShV tiT.get jS x):∃ l:List Int,x=ek l:=by
 obtain ⟨rows,ys,e,hr,hm,hs⟩:=jM sc (ny tb) (DJ sc rfl h)
 obtain ⟨l,hl,_⟩:=fx (f:=db) (P:=fun _=>True) fun row hrow=>by
  obtain ⟨n,ys,e,_,hs⟩:=pm (hr row hrow)
  rw [jY hs] at e
  exact ⟨n,e,trivial⟩
 cases e
 exact ⟨l,by rw [hl]; rfl⟩
def AG:List Nat:=SS++[jS]
theorem mS:sK tiT.get AG=true:=by kernel_rfl
theorem CascadeFast_walk {H:Type} {enc:TypeId × Value→H} (W:World) (hsh:W.ShapedOpen Tryz.prog) {v0 v1 v2:Value} {r:Reach} {b0 base:Nat} {spare:Nat→Bool} {held:Bool} {d0 d1 d2:DataW H} {p0 p1 p2:List MemPlace}
  (e0:Value.okWide Tryz.prog W r b0 dM v0) (h0:DataW.Trod enc Tryz.prog W base spare held dM v0 d0 p0) (w0:∀ n ∈ d0.weights Tryz.prog dM,n≤reachBytes)
  (e1:Value.okWide Tryz.prog W r b0 dO v1) (h1:DataW.Trod enc Tryz.prog W base spare held dO v1 d1 p1) (w1:∀ n ∈ d1.weights Tryz.prog dO,n≤reachBytes)
  (e2:Value.okWide Tryz.prog W r b0 jS v2) (h2:DataW.Trod enc Tryz.prog W base spare held jS v2 d2 p2) (w2:∀ n ∈ d2.weights Tryz.prog jS,n≤reachBytes)
  (hk:gm [d0,d1,d2]≤1048576) :
  Calls Tryz.prog fq #[v0,v1,v2] W fun e W'=>e=.returned (.bool true)∧Below W.heap.size W W':=by
 obtain ⟨x0,r0,s0⟩:=ye (P:=Tryz.prog) (ti:=tiT.get) (S:=AG) (t:=dM) (σ:=Nu) sU mS (nq (by kernel_rfl)) e0 h0 w0
 obtain ⟨x1,r1,s1,k1⟩:=vv (P:=Tryz.prog) (ti:=tiT.get) (S:=AG) (t:=dO) (σ:=Nu) sU mS (nq (by kernel_rfl)) e1 h1 w1
 obtain ⟨x2,r2,s2⟩:=ye (P:=Tryz.prog) (ti:=tiT.get) (S:=AG) (t:=jS) (σ:=Nu) sU mS (nq (by kernel_rfl)) e2 h2 w2
 obtain ⟨a,rfl,ha,_⟩:=OA s0
 obtain ⟨l,rfl,hl⟩:=Oc s1
 obtain ⟨z,rfl⟩:=Ql s2
 simp only [gm] at hk
 rw [Qj] at k1
 obtain ⟨Hf,hg⟩:=qX (TC EL) ha hl (by show _≤1048576; omega) z
 exact yh (SI r0 r1 r2) hg (N4 W hsh EL)
end Go.Proofs.YthdcghnjndhecaaGreat.Ev
