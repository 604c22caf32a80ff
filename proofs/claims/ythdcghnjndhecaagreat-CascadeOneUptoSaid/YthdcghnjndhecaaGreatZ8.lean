/- The walks, part 8: the evaluator, the functions, the laws. Conditions: none. -/
import Derived.Shelf.LaysM
import Derived.Shelf.Strings.Search1
import Derived.Shelf.Strings.Search2
import Derived.Shelf.Strings.Search3
import Derived.Shelf.Strings.Shaped
import Derived.JoinedCond
import Derived.SizedLaws
import Derived.Test.YthdcghnjndhecaaGreatZ7
namespace Go.Proofs.YthdcghnjndhecaaGreat.Ev
open Go.Shelf Go.Proofs
def laysM144_ren:Ren :=
{
 f:=fun x =>
  match x with
  | 144=>196
  | 143=>200
  | 219=>203
  | 217=>204
  | 225=>205
  | 224=>206
  | 267=>207
  | 266=>208
  | 314=>209
  | n=>n,
 t:=fun x =>
  match x with
  | 9=>9
  | 4=>4
  | 3=>3
  | 5=>5
  | 46=>183
  | 146=>259
  | 51=>178
  | n=>n,
 g:=fun x =>
  match x with
  | 1=>0
  | n=>n }
theorem laysM144:LaysM.n144 Tryz.prog laysM144_ren :=
{ mixed:=by kernel_rfl,f143:=Eq.trans Tryz.func200 (congrArg some (Eq.refl (Body.n143 laysM144_ren))),
  f144:=Eq.trans Tryz.func196 (congrArg some (Eq.refl (Body.n144 laysM144_ren))),
  f217:=Eq.trans Tryz.func204 (congrArg some (Eq.refl (Body.n217 laysM144_ren))),
  f219:=Eq.trans Tryz.func203 (congrArg some (Eq.refl (Body.n219 laysM144_ren))),
  f224:=Eq.trans Tryz.func206 (congrArg some (Eq.refl (Body.n224 laysM144_ren))),
  f225:=Eq.trans Tryz.func205 (congrArg some (Eq.refl (Body.n225 laysM144_ren))),
  f266:=Eq.trans Tryz.func208 (congrArg some (Eq.refl (Body.n266 laysM144_ren))),
  f267:=Eq.trans Tryz.func207 (congrArg some (Eq.refl (Body.n267 laysM144_ren))),
  f314:=Eq.trans Tryz.func209 (congrArg some (Eq.refl (Body.n314 laysM144_ren))),t3:=Tryz.underlying3,
  a3:=Tryz.isAgg3,z3:=Tryz.sizeOf3,v3:=Tryz.zeroValue3,t4:=Tryz.underlying4,a4:=Tryz.isAgg4,
  z4:=Tryz.sizeOf4,v4:=Tryz.zeroValue4,t5:=Tryz.underlying5,a5:=Tryz.isAgg5,z5:=Tryz.sizeOf5,
  v5:=Tryz.zeroValue5,t9:=Tryz.underlying9,a9:=Tryz.isAgg9,z9:=Tryz.sizeOf9,v9:=Tryz.zeroValue9,
  t46:=Tryz.underlying183,a46:=Tryz.isAgg183,z46:=Tryz.sizeOf183,v46:=Tryz.zeroValue183,
  t51:=Tryz.underlying178,a51:=Tryz.isAgg178,z51:=Tryz.sizeOf178,v51:=Tryz.zeroValue178,
  t146:=Tryz.underlying259,a146:=Tryz.isAgg259,z146:=Tryz.sizeOf259,v146:=Tryz.zeroValue259,
  g1:=by kernel_rfl,i3:=by kernel_rfl,
  i4:=by kernel_rfl,i5:=by kernel_rfl,
  i9:=by kernel_rfl,
  i46:=by kernel_rfl,
  i51:=by kernel_rfl,
  i146:=by kernel_rfl,
  m1:=by kernel_rfl,
  s1_3:=fun w h=>Go.Proofs.cell_of_shapedOpen_int h (zero:=#[Go.Value.int Go.IntKind.i64 0]) (t:=3) (of_decide_eq_true (by kernel_rfl)) (by kernel_rfl) rfl (by kernel_rfl) (by kernel_rfl) Tryz.underlying3 }
def gMax:Nat:=laysM144_ren.g 1
theorem hasC {σ:Sig} (hg:σ.g=some gMax):HasC σ:=by
 intro s t H hs
 refine ⟨⟨_,Tryz.func196,by kernel_rfl,by kernel_rfl⟩,fun B w0 E w vs hσ hst hx=>?_⟩
 obtain ⟨_,m,hm⟩:=hst.glNow gMax (by rw [hσ]; exact hg)
 have hl:=hx.len
 obtain ⟨v0,v1,rfl⟩:∃ v0 v1,vs=#[v0,v1]:=by
  obtain ⟨l⟩:=vs
  match l,hl with
  | [a,b],_=>exact ⟨a,b,rfl⟩
 have r0:=hx.at_ 0 _ v0 rfl (by simp)
 have r1:=hx.at_ 1 _ v1 rfl (by simp)
 cases r0
 cases r1
 refine (Any.strings_Contains (ρ:=laysM144_ren) { laysM144 with } s t m w hs hm).mono fun e w' he=>?_
 obtain ⟨rfl,rfl⟩:=he
 exact ⟨E,_,rfl,.refl E,hst,.lit _⟩
theorem gMax_ok (W:World) (h:W.ShapedOpen Tryz.prog) {σ:Sig} (hg:σ.g=some gMax):∀ g,σ.g=some g→∃ m:Int,W.cell? ⟨g,0,none⟩=some (.int .i64 m):=by
 intro g hg'
 rw [hg] at hg'
 cases hg'
 exact laysM144.s1_3 W h
end Go.Proofs.YthdcghnjndhecaaGreat.Ev
namespace Go.Proofs.YthdcghnjndhecaaGreat.Ev
section
variable {H:Type} {enc:TypeId × Value→H}
theorem returnsInHanded_of_cond_shaped {a:Assume} {C:Checked} {os:Os} {f:FuncId} {fn:Func} {s:OpenSpec} {k:(H:Type)→List (DataW H)→Bool} (hk:s.cond=some k) {F:Stop.Interp} {conds:List PathCond} {apart fresh handsOn again:Bool}
  (own:ownKnob C.prog.godebug=none) (started:os.Started) (noInit:C.prog.inits.idxOf? f=none) (hfn:C.prog.funcs[f]?=some fn)
  (witness:∃ (w:World) (tape:Tape) (i:Input),w.os=os∧(w.forCall tape i).Shaped C.prog∧i.vars=[]∧Input.okWide C.prog (w.forCall tape i) .any w.heap.size f i ∧
   s.pre6 enc C.prog fn conds apart (w.forCall tape i).memory i.args∧a.holds C.prog (lone (Frame.enter C.prog f i.args .normal) [] (w.forCall tape i)))
  (contract:∀ (W:World) (base:Nat) (args:Array Value) (ds gs:List (DataW H)) (before:List MemPlace),
   (∀ (j:Nat) t v,fn.params[j]?=some t→args[j]?=some v→Value.okWide C.prog W .any base t v) →
   DataW.Whole enc C.prog fn.params.toList s.vars apart W args.toList ds gs before →
   conds.all (PathCond.test C.prog ⟨fn.params.toList,ds,s.bare.plain.varTypes C.prog,gs⟩)=true→k H (ds++gs)=true →
   (DataW.weightsEach C.prog (fn.params.toList++s.bare.plain.varTypes C.prog) (ds++gs)).all (·≤reachBytes)=true →
   W.ShapedOpen C.prog →
   a.holds C.prog (lone (Frame.enter C.prog f args .normal) [] W) →
   Calls C.prog f args W fun e W'=>∃ v,e=.returned v∧(s.at F).post enc C.prog fn apart fresh handsOn again W args v W') :
  ReturnsInHanded a C os f .any (s.pre6 enc C.prog fn conds apart) ((s.at F).post enc C.prog fn apart fresh handsOn again):=by
 refine returnsInHanded_of_calls own started noInit witness ?_
 intro w tape i _ hsh _ hok hpre hholds
 obtain ⟨_,_,_,fn',hfn',_,_,_,_,hval⟩:=hok
 have e:fn'=fn:=Option.some.inj (hfn'.symm.trans hfn)
 subst e
 obtain ⟨ds,gs,before,hw,hc,hkk⟩:=(OpenSpec.pre_some hk conds apart _ _).1 hpre.1
 have hw':=DataW.Whole.of_heap (w':=w.forCall tape i) (by rfl) hw
 refine (contract (w.forCall tape i) w.heap.size i.args ds gs before hval hw' hc hkk (hpre.2.weights hw) hsh hholds).mono fun e W' ⟨v,he,hp⟩=>?_
 subst he
 exact ChangeSpec.post_blind hp
end
end Go.Proofs.YthdcghnjndhecaaGreat.Ev
namespace Go.Proofs.YthdcghnjndhecaaGreat.Ev
open Go.RowKit
set_option linter.unusedVariables false
set_option linter.unusedSimpArgs false
set_option maxRecDepth 100000
variable {σ:Sig}
theorem NdSm.low {n:Nd} (h:NdSm n):SmN (lowN n):=by
 have r:reachBytes=140737488351232:=rfl
 refine ⟨by have:=h.classes; show n.classes.length≤_; omega,by have:=h.attrs; show (n.attrs.map lowPr).length≤_; rw [List.length_map]; omega,fun p hp=>?_⟩
 obtain ⟨q,hq,rfl⟩:=List.mem_map.1 hp
 have:=(h.at' q hq).2
 show q.2.data.size<_
 omega
theorem TreeOk.smN {L:List Nd} {d:List Nat} (h:TreeOk L d):∀ e,e<L.length→SmN (lowN (ndAt L e)):=by
 intro e he
 refine (h.sm _ ?_).low
 unfold ndAt
 rw [List.getD_eq_getElem?_getD,List.getElem?_eq_getElem he]
 exact List.getElem_mem _
theorem TreeOk.mc {L:List Nd} {d:List Nat} (h:TreeOk L d) (hC:HasC σ):McT σ L d:=⟨hC,h.hB,by have:=h.len; omega,h.smN⟩
def sigM:Sig:=⟨fun _=>0,fun _=>false,fun _=>⟨#[]⟩,some gMax⟩
theorem sigM_g:sigM.g=some gMax:=rfl
theorem callK_drop {P:Program} {σ:Sig} {f:Nat} {xs ys:List AV} {H:Hp} {K:AV→Hp→Prop} (hx:FzL H ys xs) (h:callK P σ f xs (Hp.bare H.n) K):callK P σ f ys H K:=by
 obtain ⟨r,H1,hg,hk⟩:=h
 exact ⟨r,H1,Good.conv (Wk.frz (H2:=Hp.bare H.n) (Hd:=H) rfl rfl (fun id k hk=>⟨hk,by simp⟩) (fun id k2 hk=>by simp at hk) hx.t) hg,hk⟩
theorem sls_ws {l:List Sl} (hl:slsWf Lmax l) (hf:FitL 11 l) (hb:bkLL (l.map encSl)≤NB):WsOk l:=by
 have hll:l.length≤bkLL (l.map encSl):=len_bk fun s _=>by rw [bk_sl]; omega
 refine ⟨by have hN:NB=1048576:=rfl; omega,fun s hs=>?_,hl.2,hf⟩
 have h1:=mem_bk (f:=encSl) hs
 have hN:NB=1048576:=rfl
 refine sel_bulk ⟨by show 1≤Lmax; decide,fun s' h=>by rw [List.mem_singleton.1 h]; exact hl.2 s hs⟩ (fun s' h=>by rw [List.mem_singleton.1 h]; exact hf s hs) ?_
 simp only [List.map_cons,List.map_nil,bkLL]
 omega
theorem rls_ws {m:List RL} (hm:rlsWf m) (hF:Fit12 m) (hb:bkLL (m.map encRL)≤NB):∀ r ∈ m,WsOk r.sels∧r.sets.length≤30:=fun r hr =>
 ⟨⟨by have:=hF.sels r hr; omega,fun s hs=>(rules_ok hm hF hb r hr s hs).2.2,fun s hs=>(rules_ok hm hF hb r hr s hs).1,fun s hs=>hF.fit r hr s hs s (by simp)⟩,hF.sets r hr⟩
theorem foldl_ok {L:List Nd} {e:Int}:∀ {m:List RL} {s:Wn},s.Ok→(m.foldl (ruleW L e) s).Ok
 | [],s,h=>h
 | r::m,s,h=>by
  rw [List.foldl_cons]
  refine foldl_ok ?_
  unfold ruleW
  split
  ·have:∀ (q:List ST) (s:Wn),s.Ok→(q.foldl (setW (bestW L e r.sels (0,false)).1) s).Ok:=by
    intro q
    induction q with
    | nil=>intro s h; exact h
    | cons x q ih=>intro s h; exact ih _ (setW_ok h)
   exact this _ _ h
  ·exact h
theorem winW_len (L:List Nd) (e:Int) (m:List RL):(winW L e m).o.length=16:=(foldl_ok (s:=wn0) ⟨rfl,rfl,rfl⟩).o
end Go.Proofs.YthdcghnjndhecaaGreat.Ev
namespace Go.Proofs.YthdcghnjndhecaaGreat.Ev
set_option linter.unusedVariables false
set_option linter.unusedSimpArgs false
set_option maxRecDepth 100000
set_option maxHeartbeats 4000000
variable {σ:Sig}
def frzO (k:Sk) (o:Option (AV × Hp)):Option AV:=match o with
 | some (r,H)=>frzS H k r
 | none=>none
theorem good_frz {f:Nat} {xs:List AV} {L d:Nat} {k:Sk} {y:AV} (hx:noIds xs=true) (h:frzO k (evF (CZ σ) fnT.get noOv L d f xs Hp.empty)=some y) (H:Hp):Good Tryz.prog σ f xs H y H:=by
 cases he:evF (CZ σ) fnT.get noOv L d f xs Hp.empty with
 | none=>rw [he] at h; cases h
 | some p =>
  obtain ⟨r,H'⟩:=p
  have hg:=evF_ok (CZ σ) mixed noOv_ok fnT_ok L d f xs Hp.empty r H' he
  rw [he] at h
  exact hg.frzR hx (frzS_ok _ _ _ h) H
theorem Fz.tupL {H:Hp} {xs ys:List AV} (h:FzL H xs ys):Fz H (.tup xs) (.tup ys):=by
 have hget:=h.get
 refine .tup hget.1 fun j x y hx hy=>?_
 obtain ⟨x',hx',hf⟩:=hget.2 j y hy
 rw [hx] at hx'
 cases hx'
 exact hf
def frzOT (ks:List Sk) (o:Option (AV × Hp)):Option (List AV):=match o with
 | some (.tup xs,H)=>frzR H ks xs
 | _=>none
theorem good_frzT {f:Nat} {xs:List AV} {L d:Nat} {ks:List Sk} {ys:List AV} (hx:noIds xs=true) (h:frzOT ks (evF (CZ σ) fnT.get noOv L d f xs Hp.empty)=some ys) (H:Hp):Good Tryz.prog σ f xs H (.tup ys) H:=by
 cases he:evF (CZ σ) fnT.get noOv L d f xs Hp.empty with
 | none=>rw [he] at h; cases h
 | some p =>
  obtain ⟨r,H'⟩:=p
  have hg:=evF_ok (CZ σ) mixed noOv_ok fnT_ok L d f xs Hp.empty r H' he
  rw [he] at h
  cases r<;>first | (cases h; done) | skip
  exact hg.frzR hx (Fz.tupL (frzR_ok _ _ _ h)) H
def byt (l:List Int):AV:=.imm 1 (l.map fun n=>[.lit (.int .u8 n)])
def pts (l:List Int):AV:=.imm 1 (l.map fun n=>[I n])
theorem noId_byt (l:List Int):noId (byt l)=true:=by unfold byt; simp only [noId]; exact noIds_map _ (fun _=>rfl) l
def tk (k:Int) (s:ByteArray) (n:Int):List AV:=[I k,.lit (.string s),I n,Bo false,I 0]
def tks (l:List (Int × ByteArray × Int)):AV:=.imm 5 (l.map fun p=>tk p.1 p.2.1 p.2.2)
def sA:Sl:=[.mk 0 (.mk ⟨#[97]⟩ [] [] [] [])]
def alR:List RL:=[⟨[sA],[⟨4,2,1000,false⟩]⟩,⟨[sA],[⟨4,2,2000,false⟩]⟩]
def alT:List Int:=[97,123,119,105,100,116,104,58,49,112,120,125,97,123,119,105,100,116,104,58,50,112,120,125]
def alP:List (Int × ByteArray × Int):=[(1,⟨#[97]⟩,0)]
def alD (n:Int):List (Int × ByteArray × Int):=[(1,⟨#[119,105,100,116,104]⟩,0),(11,emp,0),(8,⟨#[112,120]⟩,n)]
def alK:List (Int × ByteArray × Int):=alP++(14,emp,0)::alD 1000++(15,emp,0)::alP++(14,emp,0)::alD 2000++[(15,emp,0)]
def skT:Sk:=.sl 5 [.same,.same,.same,.same,.same]
theorem ev_prep (H:Hp):Good Tryz.prog σ n_ref1_Prepare [byt alT] H (pts alT) H :=
 good_frz (k:=.sl 1 [.same]) (L:=1000) (d:=60) rfl (by kernel_rfl) H
theorem ev_tok (H:Hp):Good Tryz.prog σ n_ref1_Tokens [pts alT] H (tks alK) H :=
 good_frz (k:=skT) (L:=1000) (d:=60) rfl (by kernel_rfl) H
theorem ev_rul (H:Hp):Good Tryz.prog σ n_ref1_Rules [tks alK] H (.imm 2 [[tks alP,tks (alD 1000)],[tks alP,tks (alD 2000)]]) H :=
 good_frz (k:=.sl 2 [skT,skT]) (L:=1000) (d:=60) rfl (by kernel_rfl) H
theorem ev_sel (H:Hp):Good Tryz.prog σ n_ref1_Selectors [tks alP] H (.tup [sls [sA],Bo true]) H :=
 good_frzT (ks:=[skSls 1,.same]) (L:=1000) (d:=60) rfl (by kernel_rfl) H
theorem ev_dec1 (H:Hp):Good Tryz.prog σ n_ref1_Decls [tks (alD 1000)] H (.imm 3 [[.lit (.string ⟨#[119,105,100,116,104]⟩),tks [(8,⟨#[112,120]⟩,1000)],Bo false]]) H :=
 good_frz (k:=.sl 3 [.same,skT,.same]) (L:=1000) (d:=60) rfl (by kernel_rfl) H
theorem ev_dec2 (H:Hp):Good Tryz.prog σ n_ref1_Decls [tks (alD 2000)] H (.imm 3 [[.lit (.string ⟨#[119,105,100,116,104]⟩),tks [(8,⟨#[112,120]⟩,2000)],Bo false]]) H :=
 good_frz (k:=.sl 3 [.same,skT,.same]) (L:=1000) (d:=60) rfl (by kernel_rfl) H
theorem ev_set1 (H:Hp):Good Tryz.prog σ n_ref1_Sets [.imm 3 [[.lit (.string ⟨#[119,105,100,116,104]⟩),tks [(8,⟨#[112,120]⟩,1000)],Bo false]]] H (.imm 4 [encST ⟨4,2,1000,false⟩]) H :=
 good_frz (k:=.sl 4 [.same,.same,.same,.same]) (L:=1000) (d:=60) rfl (by kernel_rfl) H
theorem ev_set2 (H:Hp):Good Tryz.prog σ n_ref1_Sets [.imm 3 [[.lit (.string ⟨#[119,105,100,116,104]⟩),tks [(8,⟨#[112,120]⟩,2000)],Bo false]]] H (.imm 4 [encST ⟨4,2,2000,false⟩]) H :=
 good_frz (k:=.sl 4 [.same,.same,.same,.same]) (L:=1000) (d:=60) rfl (by kernel_rfl) H
theorem sheet_al (H:Hp):Good Tryz.prog σ n_ref1_Sheet [byt alT] H (rls alR) H:=by
 suffices h:∃ r H1,Good Tryz.prog σ n_ref1_Sheet [byt alT] Hp.empty r H1∧Fz H1 r (rls alR) by
  obtain ⟨r,H1,hg,hf⟩:=h
  exact hg.frzR (by simp [noIds,noId_byt]) hf H
 refine ref1_Sheet.run ?_
 refine bnd_of rfl ?_
 refine bnd_of rfl ?_
 simp only [ifB_lit,Bool.false_eq_true,if_false]
 refine callK_of (ev_prep _) (callK_of (ev_tok _) (callK_of (ev_rul _) ?_))
 refine ref1_Sheet.L0_step ?_
 iterate 2 refine bnd_of rfl ?_
 simp only [ifB_lit,if_true]
 iterate 3 refine bnd_of rfl ?_
 refine callK_of (ev_sel _) ?_
 iterate 2 refine bnd_of rfl ?_
 simp only [ifB_lit,if_true]
 iterate 3 refine bnd_of rfl ?_
 refine callK_of (ev_dec1 _) (callK_of (ev_set1 _) ?_)
 iterate 3 refine bnd_of rfl ?_
 refine ref1_Sheet.J1_step ?_
 refine bnd_of rfl ?_
 refine ref1_Sheet.L0_step ?_
 iterate 2 refine bnd_of rfl ?_
 simp only [ifB_lit,if_true]
 iterate 3 refine bnd_of rfl ?_
 refine callK_of (ev_sel _) ?_
 iterate 2 refine bnd_of rfl ?_
 simp only [ifB_lit,if_true]
 iterate 3 refine bnd_of rfl ?_
 refine callK_of (ev_dec2 _) (callK_of (ev_set2 _) ?_)
 iterate 3 refine bnd_of rfl ?_
 refine ref1_Sheet.J1_step ?_
 refine bnd_of rfl ?_
 refine ref1_Sheet.L0_step ?_
 iterate 2 refine bnd_of rfl ?_
 simp only [ifB_lit,Bool.false_eq_true,if_false]
 exact frzS_ok (.sl 2 [.same,.same]) _ _ (by kernel_rfl)
end Go.Proofs.YthdcghnjndhecaaGreat.Ev
namespace Go.Proofs.YthdcghnjndhecaaGreat.Ev
set_option linter.unusedVariables false
set_option linter.unusedSimpArgs false
set_option maxRecDepth 100000
variable {σ:Sig}
def alL:List Nd:=[⟨-1,⟨#[97]⟩,emp,[],[]⟩]
theorem alB:Built alL alL.length [0]:=Built.first (by decide) rfl
theorem alW:∀ n ∈ alL,NdWf n:=by
 intro n hn
 rw [List.mem_singleton.1 hn]
 exact ⟨by unfold i64; decide,by decide,by decide,by decide,by intro p hp; cases hp⟩
theorem alSm:∀ e,e<alL.length→SmN (lowN (ndAt alL e)):=by
 intro e he
 have:e=0:=by simp [alL] at he; omega
 subst this
 exact ⟨by decide,by decide,by intro p hp; cases hp⟩
theorem alM (hC:HasC σ):McT σ alL [0]:=⟨hC,alB,by decide,alSm⟩
theorem sA_wf:slsWf Lmax [sA]:=by
 refine ⟨by decide,fun s hs=>?_⟩
 rw [List.mem_singleton.1 hs]
 refine ⟨by decide,fun p hp=>?_⟩
 rw [List.mem_singleton.1 hp,Pt.wf_iff]
 exact ⟨by unfold i64; decide,by decide,⟨by decide,fun s h=>by cases h⟩,⟨by decide,fun s h=>by cases h⟩,by decide,(fun s h=>by cases h),by decide,fun q hq=>by cases hq⟩
theorem sA_fit:FitL 11 [sA]:=by
 intro s hs
 rw [List.mem_singleton.1 hs]
 refine ⟨by decide,fun p hp=>?_⟩
 rw [List.mem_singleton.1 hp]
 exact ⟨by unfold FitC; decide,fun q hq=>by cases hq⟩
theorem alR_ws:∀ r ∈ alR,WsOk r.sels∧r.sets.length≤30:=by
 have h:WsOk [sA]:=sls_ws sA_wf sA_fit (by decide)
 intro r hr
 simp only [alR,List.mem_cons,List.not_mem_nil,or_false] at hr
 rcases hr with rfl | rfl<;>exact ⟨h,by decide⟩
theorem al_win:(winW alL 0 alR).o=[0,0,0,0,0,0,0,0,2,2000,0,0,0,0,0,0]:=by kernel_rfl
theorem alive15 (hC:HasC σ) (H:Hp):Good Tryz.prog σ n_law15_alive [] H (Bo true) H:=by
 refine good_by (fun K hK=>law15_alive.run ?_) rfl rfl H
 refine bnd_of rfl ?_
 refine bnd_of rfl ?_
 refine callK_drop (xs:=[byt alT]) (.cons (frzS_ok (.sl 1 [.same]) _ _ (by kernel_rfl)) .nil) ?_
 refine callK_of (sheet_al _) ?_
 refine bnd_of rfl ?_
 refine bnd_of rfl ?_
 refine callK_of (Good.drop (fun H=>domNew_ok alB alW (by decide) H) (.cons (frzS_ok skNds _ _ (by kernel_rfl)) .nil)) ?_
 simp only [x_tup,List.getElem?_cons_zero,List.getElem?_cons_succ,bnd_some]
 refine callK_of (CWinners_ok (alM hC) alR_ws (by decide) 0 _) ?_
 rw [al_win]
 simp only [allocK_eq]
 iterate 5 refine bnd_of rfl ?_
 exact hK _
end Go.Proofs.YthdcghnjndhecaaGreat.Ev
namespace Go.Proofs.YthdcghnjndhecaaGreat.Ev
open Go.RowKit
set_option linter.unusedVariables false
set_option linter.unusedSimpArgs false
set_option maxRecDepth 100000
variable {σ:Sig}
section
end
end Go.Proofs.YthdcghnjndhecaaGreat.Ev
namespace Go.Proofs.YthdcghnjndhecaaGreat.Ev
set_option linter.unusedVariables false
set_option linter.unusedSimpArgs false
set_option maxRecDepth 100000
variable {σ:Sig}
def anyW (L:List Nd) (e:Int) (l:List Sl):Bool:=l.any fun s=>selB L 11 s e
section
attribute [local irreducible] ref9_Tree_Any.L0
theorem RAnyS_ok {L:List Nd} {d:List Nat} (M:McT σ L d) {l:List Sl} (hl:WsOk l) (e:Int) (H:Hp):Good Tryz.prog σ n_ref9_Tree_Any [refT L d,I e,sls l] H (Bo (anyW L e l)) H:=by
 refine good_by (fun K hK=>ref9_Tree_Any.run ?_) (by simp [noIds,noId,noId_refT,noId_sls]) rfl H
 have hlen:=hl.len
 have L0:∀ (f k:Nat) (H:Hp),l.length - k=f→k≤l.length→(∀ H,K (Bo (anyW L e (l.drop k))) H)→ref9_Tree_Any.L0 σ K (refT L d) (I e) (sls l) (I (k:Int)) H:=by
  intro f
  induction f with
  | zero =>
   intro k H hf hk hK
   have:k=l.length:=by omega
   subst this
   refine ref9_Tree_Any.L0_step ?_
   simp only [len_sls,bnd_some,b_lss,Int.lt_irrefl,decide_false,ifB_lit,Bool.false_eq_true,if_false]
   simpa [anyW] using hK H
  | succ f ih =>
   intro k H hf hk hK
   have hlt:k<l.length:=by omega
   have hlt':(k:Int)<l.length:=by omega
   obtain ⟨s,hs⟩:=get_lt hlt
   have hsm:=List.mem_of_getElem? hs
   have hix:ixaSl 1 (sls l) (I (k:Int))=some (.ip (encSl s)):=ix_map hs
   have ha:anyW L e (l.drop k)=(selB L 11 s e||anyW L e (l.drop (k+1))):=by unfold anyW; rw [drop_get hs,List.any_cons]
   rw [ha] at hK
   refine ref9_Tree_Any.L0_step ?_
   simp only [len_sls,bnd_some,b_lss,hlt',decide_true,ifB_lit,if_true,hix,ld_ip,ldL_sl]
   refine callK_of (rTopSel_ok M (f:=10) (hl.ok s hsm).1 (hl.ok s hsm).2 _ _) ?_
   simp only [ifB_lit]
   cases hb:selB L 11 s e with
   | true=>rw [hb] at hK; simpa using hK H
   | false =>
    rw [hb] at hK
    simp only [Bool.false_eq_true,if_false,b_add,bnd_some]
    rw [wr_succ (by omega)]
    exact ih (k+1) H (by omega) (by omega) (by simpa using hK)
 exact L0 _ 0 _ rfl (Nat.zero_le _) (by simpa using hK)
end
theorem best_snd {L:List Nd} {e:Int}:∀ {l:List Sl} {a:Int × Bool},(bestW L e l a).2=(a.2||anyW L e l)
 | [],a=>by simp [bestW,anyW]
 | s::r,a=>by
  rw [bestW,best_snd]
  unfold anyW
  rw [List.any_cons]
  cases selB L 11 s e<;>simp
end Go.Proofs.YthdcghnjndhecaaGreat.Ev
namespace Go.Proofs.YthdcghnjndhecaaGreat.Ev
open Go.RowKit
set_option linter.unusedVariables false
set_option linter.unusedSimpArgs false
set_option maxRecDepth 100000
variable {σ:Sig}
structure Top (p:Nat) (k n:Int) (s:Wn):Prop where
 ok:s.Ok
 t:s.t.getD p false=true
 w:s.w.getD p 0=1073741824
 k:s.o.getD (p*2) 0=k
 n:s.o.getD (p*2+1) 0=n
theorem getD_set_ne {α:Type} {l:List α} {i j:Nat} {x d:α} (h:i≠j):(l.set i x).getD j d=l.getD j d:=by
 simp only [List.getD_eq_getElem?_getD,List.getElem?_set_ne h]
theorem getD_set_eq {α:Type} {l:List α} {i:Nat} {x d:α} (h:i<l.length):(l.set i x).getD i d=x:=by
 simp only [List.getD_eq_getElem?_getD,List.getElem?_set_self h,Option.getD_some]
theorem Top.set {p:Nat} {k n w:Int} {s:Wn} {q:ST} (h:Top p k n s) (hi:q.imp=false) (hw:w≤16777215):Top p k n (setW w s q):=by
 have hok:=setW_ok (w:=w) (q:=q) h.ok
 unfold setW at hok ⊢
 rw [hi] at hok ⊢
 simp only [Bool.false_eq_true,if_false] at hok ⊢
 split at hok
 ·rename_i h1
  rw [if_pos h1]; exact h
 rename_i h1
 rw [if_neg h1]
 split at hok
 ·rename_i h2
  rw [if_pos h2]; exact h
 rename_i h2
 rw [if_neg h2]
 have hne:q.prop.toNat≠p:=by
  intro e
  rw [e,h.t,h.w] at h2
  exact h2 ⟨rfl,by omega⟩
 refine ⟨hok,?_,?_,?_,?_⟩
 ·simp only [getD_set_ne hne]; exact h.t
 ·simp only [getD_set_ne hne]; exact h.w
 ·simp only [getD_set_ne (show q.prop.toNat*2+1≠p*2 by omega),getD_set_ne (show q.prop.toNat*2≠p*2 by omega)]; exact h.k
 ·simp only [getD_set_ne (show q.prop.toNat*2+1≠p*2+1 by omega),getD_set_ne (show q.prop.toNat*2≠p*2+1 by omega)]; exact h.n
theorem Fz.mono {H H':Hp} (hm:∀ id k,H.get id=some k→H'.get id=some k) {x y:AV} (h:Fz H x y):Fz H' x y:=by
 induction h with
 | refl h=>exact .refl h
 | nil=>exact .nil
 | se=>exact .se
 | emp=>exact .emp
 | sl val hg hl hsz hc hf ih=>exact .sl val (hm _ _ hg) hl hsz hc ih
 | ptr val hg hc hf ih=>exact .ptr val (hm _ _ hg) hc ih
 | agg hl hf ih=>exact .agg hl ih
 | tup hl hf ih=>exact .tup hl ih
theorem FzL.mono {H H':Hp} (hm:∀ id k,H.get id=some k→H'.get id=some k) {xs ys:List AV} (h:FzL H xs ys):FzL H' xs ys:=by
 induction h with
 | nil=>exact .nil
 | cons h hs ih=>exact .cons (h.mono hm) ih
section
end
end Go.Proofs.YthdcghnjndhecaaGreat.Ev
namespace Go.Proofs.YthdcghnjndhecaaGreat.Ev
open Go.RowKit
set_option linter.unusedVariables false
set_option linter.unusedSimpArgs false
set_option maxRecDepth 100000
variable {σ:Sig}
def setO (p:Nat) (qs:List ST):Bool:=qs.any fun q=>decide (q.prop=(p:Int))
def fndO (p:Nat) (a b:Int) (qs:List ST):Bool:=qs.any fun q=>decide (q.prop=(p:Int))&&(decide (q.kind=a)&&decide (q.n=b))
def setR (L:List Nd) (e:Int) (p:Nat) (l:List RL):Bool:=l.any fun r=>anyW L e r.sels&&setO p r.sets
def fndR (L:List Nd) (e:Int) (p:Nat) (a b:Int) (l:List RL):Bool:=l.any fun r=>anyW L e r.sels&&fndO p a b r.sets
structure Of1 (p:Nat) (s:Wn) (Q:List ST):Prop where
 ok:s.Ok
 t:s.t.getD p false=setO p Q
 yes:setO p Q=true→fndO p (s.o.getD (p*2) 0) (s.o.getD (p*2+1) 0) Q=true
 no:setO p Q=false→s.o.getD (p*2) 0=0∧s.o.getD (p*2+1) 0=0
theorem setO_app {p:Nat} {Q:List ST} {q:ST}:setO p (Q++[q])=(setO p Q||decide (q.prop=(p:Int))):=by simp [setO]
theorem fndO_app {p:Nat} {a b:Int} {Q:List ST} {q:ST}:fndO p a b (Q++[q])=(fndO p a b Q||(decide (q.prop=(p:Int))&&(decide (q.kind=a)&&decide (q.n=b)))):=by simp [fndO]
theorem Of1.set {p:Nat} (hp:p<8) {s:Wn} {Q:List ST} {w:Int} {q:ST} (h:Of1 p s Q):Of1 p (setW w s q) (Q++[q]):=by
 have hok:=setW_ok (w:=w) (q:=q) h.ok
 unfold setW at hok ⊢
 generalize (if q.imp=true then w+1073741824 else w)=x at hok ⊢
 split
 ·rename_i h1
  have hne:¬ q.prop=(p:Int):=by omega
  have e1:setO p (Q++[q])=setO p Q:=by rw [setO_app,decide_eq_false hne,Bool.or_false]
  have e2:∀ a b,fndO p a b (Q++[q])=fndO p a b Q:=fun a b=>by rw [fndO_app,decide_eq_false hne,Bool.false_and,Bool.or_false]
  exact ⟨h.ok,by rw [e1]; exact h.t,by rw [e1,e2]; exact h.yes,by rw [e1]; exact h.no⟩
 rename_i h1
 split
 ·rename_i h2
  by_cases he:q.prop=(p:Int)
  ·have ht:s.t.getD p false=true:=by have:=h2.1; rw [he,Int.toNat_natCast] at this; exact this
   have hs:setO p Q=true:=by rw [← h.t]; exact ht
   have e1:setO p (Q++[q])=true:=by rw [setO_app,hs,Bool.true_or]
   exact ⟨h.ok,by rw [e1]; exact ht,fun _=>by rw [fndO_app,h.yes hs,Bool.true_or],fun hn=>by rw [e1] at hn; cases hn⟩
  ·have e1:setO p (Q++[q])=setO p Q:=by rw [setO_app,decide_eq_false he,Bool.or_false]
   have e2:∀ a b,fndO p a b (Q++[q])=fndO p a b Q:=fun a b=>by rw [fndO_app,decide_eq_false he,Bool.false_and,Bool.or_false]
   exact ⟨h.ok,by rw [e1]; exact h.t,by rw [e1,e2]; exact h.yes,by rw [e1]; exact h.no⟩
 ·rename_i h2
  rw [if_neg h1,if_neg h2] at hok
  have ho:=h.ok.o
  have hw:=h.ok.w
  have ht:=h.ok.t
  by_cases he:q.prop=(p:Int)
  ·have en:q.prop.toNat=p:=by rw [he,Int.toNat_natCast]
   rw [en] at hok ⊢
   have e1:setO p (Q++[q])=true:=by rw [setO_app,decide_eq_true he,Bool.or_true]
   have o1:((s.o.set (p*2) q.kind).set (p*2+1) q.n).getD (p*2) 0=q.kind:=by rw [getD_set_ne (by omega),getD_set_eq (by omega)]
   have o2:((s.o.set (p*2) q.kind).set (p*2+1) q.n).getD (p*2+1) 0=q.n:=getD_set_eq (by rw [List.length_set]; omega)
   refine ⟨hok,?_,fun _=>?_,fun hn=>by rw [e1] at hn; cases hn⟩
   ·rw [e1]; exact getD_set_eq (by omega)
   ·show fndO p (((s.o.set (p*2) q.kind).set (p*2+1) q.n).getD (p*2) 0) (((s.o.set (p*2) q.kind).set (p*2+1) q.n).getD (p*2+1) 0) _=true
    rw [o1,o2,fndO_app,decide_eq_true he,decide_eq_true rfl,decide_eq_true rfl]; simp
  ·have en:q.prop.toNat≠p:=by omega
   have e1:setO p (Q++[q])=setO p Q:=by rw [setO_app,decide_eq_false he,Bool.or_false]
   have e2:∀ a b,fndO p a b (Q++[q])=fndO p a b Q:=fun a b=>by rw [fndO_app,decide_eq_false he,Bool.false_and,Bool.or_false]
   have o1:((s.o.set (q.prop.toNat*2) q.kind).set (q.prop.toNat*2+1) q.n).getD (p*2) 0=s.o.getD (p*2) 0:=by rw [getD_set_ne (by omega),getD_set_ne (by omega)]
   have o2:((s.o.set (q.prop.toNat*2) q.kind).set (q.prop.toNat*2+1) q.n).getD (p*2+1) 0=s.o.getD (p*2+1) 0:=by rw [getD_set_ne (by omega),getD_set_ne (by omega)]
   refine ⟨hok,?_,fun hy=>?_,fun hn=>?_⟩
   ·rw [e1]; show (s.t.set _ _).getD p false=_; rw [getD_set_ne en]; exact h.t
   ·show fndO p (((s.o.set (q.prop.toNat*2) q.kind).set (q.prop.toNat*2+1) q.n).getD (p*2) 0) (((s.o.set (q.prop.toNat*2) q.kind).set (q.prop.toNat*2+1) q.n).getD (p*2+1) 0) _=true
    rw [o1,o2,e2]; rw [e1] at hy; exact h.yes hy
   ·show ((s.o.set (q.prop.toNat*2) q.kind).set (q.prop.toNat*2+1) q.n).getD (p*2) 0=0∧((s.o.set (q.prop.toNat*2) q.kind).set (q.prop.toNat*2+1) q.n).getD (p*2+1) 0=0
    rw [o1,o2]; rw [e1] at hn; exact h.no hn
theorem Of1.sets {p:Nat} (hp:p<8) {w:Int}:∀ (qs:List ST) {s:Wn} {Q:List ST},Of1 p s Q→Of1 p (qs.foldl (setW w) s) (Q++qs)
 | [],s,Q,h=>by simpa using h
 | q::qs,s,Q,h=>by
  rw [List.foldl_cons,show Q++q::qs=(Q++[q])++qs by simp]
  exact Of1.sets hp qs (h.set hp)
def seenQ (L:List Nd) (e:Int) (l:List RL):List ST:=l.flatMap fun r=>if anyW L e r.sels then r.sets else []
theorem Of1.rules {L:List Nd} {e:Int} {p:Nat} (hp:p<8):∀ (l:List RL) {s:Wn} {Q:List ST},Of1 p s Q→Of1 p (l.foldl (ruleW L e) s) (Q++seenQ L e l)
 | [],s,Q,h=>by simpa [seenQ] using h
 | r::l,s,Q,h=>by
  rw [List.foldl_cons]
  have e1:Q++seenQ L e (r::l)=(Q++if anyW L e r.sels then r.sets else [])++seenQ L e l:=by simp [seenQ]
  rw [e1]
  refine Of1.rules hp l ?_
  unfold ruleW
  rw [best_snd,Bool.false_or]
  cases anyW L e r.sels with
  | true=>simpa using h.sets hp r.sets
  | false=>simpa using h
theorem set_seen {L:List Nd} {e:Int} {p:Nat}:∀ l:List RL,setO p (seenQ L e l)=setR L e p l
 | []=>rfl
 | r::l=>by
  have ih:=set_seen (L:=L) (e:=e) (p:=p) l
  unfold setO seenQ setR at ih ⊢
  rw [List.flatMap_cons,List.any_append,List.any_cons,ih]
  cases anyW L e r.sels<;>simp [setO]
theorem fnd_seen {L:List Nd} {e:Int} {p:Nat} {a b:Int}:∀ l:List RL,fndO p a b (seenQ L e l)=fndR L e p a b l
 | []=>rfl
 | r::l=>by
  have ih:=fnd_seen (L:=L) (e:=e) (p:=p) (a:=a) (b:=b) l
  unfold fndO seenQ fndR at ih ⊢
  rw [List.flatMap_cons,List.any_append,List.any_cons,ih]
  cases anyW L e r.sels<;>simp [fndO]
theorem one_law {L:List Nd} {e:Int} {p:Nat} (hp:p<8) (l:List RL) :
  (setR L e p l=true→fndR L e p ((winW L e l).o.getD (p*2) 0) ((winW L e l).o.getD (p*2+1) 0) l=true)∧(setR L e p l=false→(winW L e l).o.getD (p*2) 0=0∧(winW L e l).o.getD (p*2+1) 0=0):=by
 have h0:Of1 p wn0 []:=⟨⟨rfl,rfl,rfl⟩,by unfold wn0 setO; simp only [List.getD_eq_getElem?_getD,List.getElem?_replicate]; rw [if_pos hp]; rfl,fun h=>(by cases h),fun _=>by unfold wn0; simp only [List.getD_eq_getElem?_getD,List.getElem?_replicate]; rw [if_pos (by omega),if_pos (by omega)]; exact ⟨rfl,rfl⟩⟩
 have h:=Of1.rules (L:=L) (e:=e) hp l h0
 rw [List.nil_append] at h
 rw [← set_seen,← fnd_seen]
 exact ⟨h.yes,h.no⟩
theorem eq2 (a b c d:Int):eqAggR [.int .i64,.int .i64] .eql (.agg [I a,I b]) (.agg [I c,I d])=some (Bo (decide (a=c)&&decide (b=d))):=by
 by_cases h1:a=c<;>by_cases h2:b=d<;>simp [eqAggR,isAggA,AV.cells,eqC,tfB,h1,h2]
theorem ne2 (a b:Int):eqAggR [.int .i64,.int .i64] .neq (.agg [I a,I b]) (.agg [I a,I b])=some (Bo false):=by simp [eqAggR,isAggA,AV.cells,eqC,tfB]
theorem ld_win {H:Hp} {b p:Nat} {o:List Int} (hg:H.get b=some (.cells (o.map I) true)) (ho:o.length=16) (hp:p<8):ldA true 2 H (.ptr b (p*2))=some (.agg [I (o.getD (p*2) 0),I (o.getD (p*2+1) 0)]):=by
 have hol:(o.map I).length=16:=by rw [List.length_map]; exact ho
 have ed:(o.map I).drop (p*2)=I (o.getD (p*2) 0)::I (o.getD (p*2+1) 0)::(o.map I).drop (p*2+2):=by
  rw [List.drop_eq_getElem_cons (by omega),List.drop_eq_getElem_cons (by omega)]
  simp only [List.getElem_map,List.getD_eq_getElem?_getD,List.getElem?_eq_getElem (show p*2<o.length by omega),List.getElem?_eq_getElem (show p*2+1<o.length by omega),Option.getD_some]
 rw [ld_ptr,hg,ldO_cells,ed]
 rfl
section
attribute [local irreducible] law15_CascadeOne.L0 law15_CascadeOne.L1 law15_CascadeOne.L2 law15_CascadeOne.L3 law15_CascadeOne.J4
theorem CascadeOne_good (hC:HasC σ) {L:List Nd} (hW:∀ n ∈ L,NdWf n) {m:List RL} (hm:rlsWf m) (hb:bkLL (m.map encRL)≤NB):∃ Hf,Good Tryz.prog σ n_law15_CascadeOne [nds L,rls m] Hp.empty (Bo true) Hf:=by
 refine ⟨Hp.empty,good_by (fun K hK=>law15_CascadeOne.run (callK_of (alive15 hC _) ?_)) (by simp [noIds]) rfl _⟩
 obtain ⟨much,hd,hfit⟩:=Dear12_ok (σ:=σ) m hm
 refine callK_of (hd _) ?_
 rcases trees_ok (σ:=σ) L hW with hg | ⟨d,hT,hg⟩
 ·refine callK_of (hg _) ?_
  simp only [x_tup,List.getElem?_cons_zero,List.getElem?_cons_succ,bnd_some,u_not,ifB_lit,Bool.not_true,Bool.not_false,Bool.false_eq_true,if_true,if_false]
  cases much<;>simp only [Bool.false_eq_true,if_true,if_false]<;>exact hK _
 refine callK_of (hg _) ?_
 simp only [x_tup,List.getElem?_cons_zero,List.getElem?_cons_succ,bnd_some,u_not,ifB_lit,Bool.not_true,Bool.not_false,Bool.false_eq_true,if_true,if_false]
 cases hmu:much with
 | true=>simp only [if_true]; exact hK _
 | false =>
 simp only [Bool.false_eq_true,if_false]
 have hF:=hfit hmu
 have M:=hT.mc hC
 have hl40:=hT.len
 have hml:=hF.len
 have hws:=rls_ws hm hF hb
 have L0:∀ (f i:Nat) (H:Hp) (y11 y12 y13 y14 y15 y16 y17:AV),L.length - i=f→i≤L.length→law15_CascadeOne.L0 σ K (nds L) (rls m) (domT L d) (refT L d) (I (i:Int)) y11 y12 y13 y14 y15 y16 y17 H:=by
  intro f
  induction f with
  | zero =>
   intro i H y11 y12 y13 y14 y15 y16 y17 hf hi
   have:i=L.length:=by omega
   subst this
   refine law15_CascadeOne.L0_step ?_
   simp only [len_nds,bnd_some,b_lss,Int.lt_irrefl,decide_false,ifB_lit,Bool.false_eq_true,if_false]
   exact hK _
  | succ f ih =>
   intro i H y11 y12 y13 y14 y15 y16 y17 hf hi
   have hlt:(i:Int)<(L.length:Int):=by omega
   refine law15_CascadeOne.L0_step ?_
   simp only [len_nds,bnd_some,b_lss,hlt,decide_true,ifB_lit,if_true]
   refine callK_of (CWinners_ok M hws (by omega) _ _) ?_
   have law:=fun p hp=>one_law (L:=L) (e:=(i:Int)) (p:=p) hp m
   have hwo:=winW_len L (i:Int) m
   generalize (winW L (i:Int) m).o=o at law hwo ⊢
   have hol:(o.map I).length=16:=by rw [List.length_map]; exact hwo
   simp only [allocK_eq]
   have hall1:(o.map I).all AV.one=true:=by rw [List.all_eq_true]; intro x hx; obtain ⟨v,_,rfl⟩:=List.mem_map.1 hx; rfl
   have s1:stA 16 (H.new (.cells (List.replicate 16 (I 0)) true)) (.ptr H.n 0) (.agg (o.map I))=some ((H.new (.cells (List.replicate 16 (I 0)) true)).set H.n (some (.cells (o.map I) true))):=by
    rw [st_agg,hp_get_new,if_pos rfl,if_pos hol,stO_cells,if_pos ⟨by rw [hol]; simp,hall1⟩,overlay_all (by rw [hol]; simp)]
   simp only [s1,bnd_some]
   obtain ⟨H1,hH1⟩:∃ H1,H1=(H.new (.cells (List.replicate 16 (I 0)) true)).set H.n (some (.cells (o.map I) true)):=⟨_,rfl⟩
   have hg1:H1.get H.n=some (.cells (o.map I) true):=by rw [hH1,hp_get_set,if_pos rfl]
   rw [← hH1]
   generalize H.n=b at hg1 ⊢
   have L1:∀ (g p:Nat) (y13 y14 y15 y16 y17:AV),8 - p=g→p≤8→law15_CascadeOne.L1 σ K (nds L) (rls m) (domT L d) (refT L d) (I (i:Int)) (.ptr b 0) (I (p:Int)) y13 y14 y15 y16 y17 H1:=by
    intro g
    induction g with
    | zero =>
     intro p y13 y14 y15 y16 y17 hg' hp
     have:p=8:=by omega
     subst this
     refine law15_CascadeOne.L1_step ?_
     have e8:¬ (((8:Nat):Int)<8):=by decide
     simp only [b_lss,bnd_some,e8,decide_false,ifB_lit,Bool.false_eq_true,if_false,b_add]
     rw [wr_succ (by omega)]
     exact ih (i+1) H1 _ _ _ _ _ _ _ (by omega) (by omega)
    | succ g ihg =>
     intro p y13 y14 y15 y16 y17 hg' hp
     have hp8:p<8:=by omega
     have hp8':(p:Int)<8:=by omega
     obtain ⟨law1,law2⟩:=law p hp8
     have lw:=ld_win hg1 hwo hp8
     generalize o.getD (p*2) 0=wa at law1 law2 lw
     generalize o.getD (p*2+1) 0=wb at law1 law2 lw
     have i1:ixaArr 8 2 (.ptr b 0) (I (p:Int))=some (.ptr b (p*2)):=by rw [ixArrN hp8]; simp
     refine law15_CascadeOne.L1_step ?_
     simp only [b_lss,bnd_some,hp8',decide_true,ifB_lit,if_true]
     have L2:∀ (h k:Nat) (F S:Bool) (y16 y17:AV),m.length - k=h→k≤m.length→(F||fndR L i p wa wb (m.drop k))=fndR L i p wa wb m→(S||setR L i p (m.drop k))=setR L i p m →
       law15_CascadeOne.L2 σ K (nds L) (rls m) (domT L d) (refT L d) (I (i:Int)) (.ptr b 0) (I (p:Int)) (Bo F) (Bo S) (I (k:Int)) y16 y17 H1:=by
      intro h
      induction h with
      | zero =>
       intro k F S y16 y17 hh hk hF1 hS1
       have:k=m.length:=by omega
       subst this
       rw [List.drop_length] at hF1 hS1
       have hF2:F=fndR L i p wa wb m:=by rw [← hF1]; simp [fndR]
       have hS2:S=setR L i p m:=by rw [← hS1]; simp [setR]
       refine law15_CascadeOne.L2_step ?_
       simp only [len_rls,bnd_some,b_lss,Int.lt_irrefl,decide_false,ifB_lit,Bool.false_eq_true,if_false,u_not]
       cases hS:S with
       | true =>
        rw [hS] at hS2
        have:F=true:=by rw [hF2]; exact law1 hS2.symm
        subst this
        simp only [if_true,Bool.not_true,Bool.false_eq_true,if_false,b_add,bnd_some]
        rw [wr_succ (by omega)]
        exact ihg (p+1) _ _ _ _ _ (by omega) (by omega)
       | false =>
        rw [hS] at hS2
        obtain ⟨e1,e2⟩:=law2 hS2.symm
        subst e1
        subst e2
        have eb:bldR [I 0,I 0] []=some [I 0,I 0]:=rfl
        simp only [Bool.false_eq_true,if_false,Bool.not_false,if_true,i1,bnd_some,lw,eb,ne2,ifB_lit,b_add]
        rw [wr_succ (by omega)]
        exact ihg (p+1) _ _ _ _ _ (by omega) (by omega)
      | succ h ihh =>
       intro k F S y16 y17 hh hk hF1 hS1
       have hkl:k<m.length:=by omega
       have hkl':(k:Int)<m.length:=by omega
       obtain ⟨r,hr⟩:=get_lt hkl
       have hrm:=List.mem_of_getElem? hr
       have hix:ixaSl 2 (rls m) (I (k:Int))=some (.ip (encRL r)):=ix_map hr
       have f0:ldL false 1 ((encRL r).drop 0)=some (sls r.sels):=rfl
       have f1:ldL false 1 ((encRL r).drop 1)=some (.imm 4 (r.sets.map encST)):=rfl
       have hrs:=(hws r hrm).2
       have dF:fndR L i p wa wb (m.drop k)=((anyW L i r.sels&&fndO p wa wb r.sets)||fndR L i p wa wb (m.drop (k+1))):=by unfold fndR; rw [drop_get hr,List.any_cons]
       have dS:setR L i p (m.drop k)=((anyW L i r.sels&&setO p r.sets)||setR L i p (m.drop (k+1))):=by unfold setR; rw [drop_get hr,List.any_cons]
       rw [dF] at hF1
       rw [dS] at hS1
       refine law15_CascadeOne.L2_step ?_
       simp only [len_rls,bnd_some,b_lss,hkl',decide_true,ifB_lit,if_true,hix,sh_ip,ld_ip,f0]
       refine callK_of (RAnyS_ok M (hws r hrm).1 _ _) ?_
       have L3:∀ (h j:Nat) (F S:Bool),r.sets.length - j=h→j≤r.sets.length→((F||(anyW L i r.sels&&fndO p wa wb (r.sets.drop j)))||fndR L i p wa wb (m.drop (k+1)))=fndR L i p wa wb m→((S||(anyW L i r.sels&&setO p (r.sets.drop j)))||setR L i p (m.drop (k+1)))=setR L i p m →
         law15_CascadeOne.L3 σ K (nds L) (rls m) (domT L d) (refT L d) (I (i:Int)) (.ptr b 0) (I (p:Int)) (Bo F) (Bo S) (I (k:Int)) (Bo (anyW L i r.sels)) (I (j:Int)) H1:=by
        intro h
        induction h with
        | zero =>
         intro j F S hh2 hj hF2 hS2
         have:j=r.sets.length:=by omega
         subst this
         rw [List.drop_length] at hF2 hS2
         refine law15_CascadeOne.L3_step ?_
         simp only [hix,bnd_some,sh_ip,ld_ip,f1,len_imm,List.length_map,b_lss,Int.lt_irrefl,decide_false,ifB_lit,Bool.false_eq_true,if_false,b_add]
         rw [wr_succ (by omega)]
         exact ihh (k+1) F S _ _ (by omega) (by omega) (by simpa [fndO] using hF2) (by simpa [setO] using hS2)
        | succ h ihj =>
         intro j F S hh2 hj hF2 hS2
         have hjl:j<r.sets.length:=by omega
         have hjl':(j:Int)<r.sets.length:=by omega
         obtain ⟨q,hq⟩:=get_lt hjl
         have hix2:ixaSl 4 (.imm 4 (r.sets.map encST)) (I (j:Int))=some (.ip (encST q)):=ix_map hq
         have q0:ldL false 1 ((encST q).drop 0)=some (I q.prop):=rfl
         have q1:ldL true 2 ((encST q).drop 1)=some (.agg [I q.kind,I q.n]):=rfl
         have d1:fndO p wa wb (r.sets.drop j)=((decide (q.prop=(p:Int))&&(decide (q.kind=wa)&&decide (q.n=wb)))||fndO p wa wb (r.sets.drop (j+1))):=by unfold fndO; rw [drop_get hq,List.any_cons]
         have d2:setO p (r.sets.drop j)=(decide (q.prop=(p:Int))||setO p (r.sets.drop (j+1))):=by unfold setO; rw [drop_get hq,List.any_cons]
         rw [d1] at hF2
         rw [d2] at hS2
         have next:∀ (F' S':Bool),((F'||(anyW L i r.sels&&fndO p wa wb (r.sets.drop (j+1))))||fndR L i p wa wb (m.drop (k+1)))=fndR L i p wa wb m→((S'||(anyW L i r.sels&&setO p (r.sets.drop (j+1))))||setR L i p (m.drop (k+1)))=setR L i p m →
           law15_CascadeOne.J4 σ K (nds L) (rls m) (domT L d) (refT L d) (I (i:Int)) (.ptr b 0) (I (p:Int)) (Bo F') (Bo S') (I (k:Int)) (Bo (anyW L i r.sels)) (I (j:Int)) H1:=by
          intro F' S' g1 g2
          refine law15_CascadeOne.J4_step ?_
          simp only [b_add,bnd_some]
          rw [wr_succ (by omega)]
          exact ihj (j+1) F' S' (by omega) (by omega) g1 g2
         refine law15_CascadeOne.L3_step ?_
         simp only [hix,bnd_some,sh_ip,ld_ip,f1,len_imm,List.length_map,b_lss,hjl',decide_true,ifB_lit,if_true,hix2,q0,q1,b_eql]
         cases ha:anyW L i r.sels with
         | false =>
          rw [ha] at hF2 hS2
          simp only [Bool.false_eq_true,if_false,b_add,bnd_some]
          rw [wr_succ (by omega)]
          exact ihh (k+1) F S _ _ (by omega) (by omega) (by simpa using hF2) (by simpa using hS2)
         | true =>
          rw [ha] at hF2 hS2 next
          simp only [if_true,decide_eq_true_eq]
          by_cases hqp:q.prop=(p:Int)
          ·rw [if_pos hqp]
           rw [decide_eq_true hqp] at hF2 hS2
           cases F with
           | true =>
            simp only [if_true]
            exact next true true (by simpa using hF2) (by simpa using hS2)
           | false =>
            simp only [Bool.false_eq_true,if_false,i1,bnd_some,lw,eq2]
            exact next _ true (by simpa [Bool.or_assoc] using hF2) (by simpa using hS2)
          ·rw [if_neg hqp]
           rw [decide_eq_false hqp] at hF2 hS2
           exact next F S (by simpa using hF2) (by simpa using hS2)
       exact L3 _ 0 F S rfl (Nat.zero_le _) (by rw [List.drop_zero,Bool.or_assoc]; exact hF1) (by rw [List.drop_zero,Bool.or_assoc]; exact hS1)
     exact L2 _ 0 false false _ _ rfl (Nat.zero_le _) (by simp) (by simp)
   exact L1 _ 0 _ _ _ _ _ rfl (Nat.zero_le _)
 exact L0 _ 0 _ _ _ _ _ _ _ _ rfl (Nat.zero_le _)
end
theorem CascadeOne_walk {H:Type} {enc:TypeId × Value→H} (W:World) (hsh:W.ShapedOpen Tryz.prog) {v0 v1:Value} {r:Reach} {b0 base:Nat} {spare:Nat→Bool} {held:Bool} {d0 d1:DataW H} {p0 p1:List MemPlace}
  (e0:Value.okWide Tryz.prog W r b0 T_sl_api_Node v0) (h0:DataW.Trod enc Tryz.prog W base spare held T_sl_api_Node v0 d0 p0) (w0:∀ n ∈ d0.weights Tryz.prog T_sl_api_Node,n≤reachBytes)
  (e1:Value.okWide Tryz.prog W r b0 T_sl_api_Rule v1) (h1:DataW.Trod enc Tryz.prog W base spare held T_sl_api_Rule v1 d1 p1) (w1:∀ n ∈ d1.weights Tryz.prog T_sl_api_Rule,n≤reachBytes)
  (hk:bulkDs [d0,d1]≤1048576) :
  Calls Tryz.prog n_law15_CascadeOne #[v0,v1] W fun e W'=>e=.returned (.bool true)∧Below W.heap.size W W':=by
 obtain ⟨x0,r0,s0⟩:=read_arg (P:=Tryz.prog) (ti:=tiT.get) (S:=readR) (t:=T_sl_api_Node) (σ:=sigM) tiT_ok readR_closed (inB_mem (by kernel_rfl)) e0 h0 w0
 obtain ⟨x1,r1,s1,k1⟩:=read_argB (P:=Tryz.prog) (ti:=tiT.get) (S:=readR) (t:=T_sl_api_Rule) (σ:=sigM) tiT_ok readR_closed (inB_mem (by kernel_rfl)) e1 h1 w1
 obtain ⟨a,rfl,ha,_⟩:=v_nodes s0
 obtain ⟨l,rfl,hl⟩:=v_rules s1
 simp only [bulkDs] at hk
 rw [bk_rls] at k1
 obtain ⟨Hf,hg⟩:=CascadeOne_good (hasC sigM_g) ha hl (by show _≤1048576; omega)
 exact law_of_good (relL2 r0 r1) hg (gMax_ok W hsh sigM_g)
end Go.Proofs.YthdcghnjndhecaaGreat.Ev
