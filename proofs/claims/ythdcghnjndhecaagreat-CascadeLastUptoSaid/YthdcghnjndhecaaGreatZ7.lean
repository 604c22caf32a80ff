/- The walks, part 7: the evaluator, the functions, the laws. Conditions: none. -/
import Derived.Shelf.LaysM
import Derived.Shelf.Strings.Search1
import Derived.Shelf.Strings.Search2
import Derived.Shelf.Strings.Search3
import Derived.Shelf.Strings.Shaped
import Derived.JoinedCond
import Derived.SizedLaws
import Derived.Test.YthdcghnjndhecaaGreatZ6
namespace Go.Proofs.YthdcghnjndhecaaGreat.Ev
open Go.Shelf Go.Proofs
def laysM144_ren:Ren :=
{
 f:=fun x =>
  match x with
  | 144=>196
  | 143=>200
  | 219=>203
  | 217=>204
  | 225=>205
  | 224=>206
  | 267=>207
  | 266=>208
  | 314=>209
  | n=>n,
 t:=fun x =>
  match x with
  | 9=>9
  | 4=>4
  | 3=>3
  | 5=>5
  | 46=>183
  | 146=>259
  | 51=>178
  | n=>n,
 g:=fun x =>
  match x with
  | 1=>0
  | n=>n }
theorem laysM144:LaysM.n144 Tryz.prog laysM144_ren :=
{ mixed:=by kernel_rfl,f143:=Eq.trans Tryz.func200 (congrArg some (Eq.refl (Body.n143 laysM144_ren))),
  f144:=Eq.trans Tryz.func196 (congrArg some (Eq.refl (Body.n144 laysM144_ren))),
  f217:=Eq.trans Tryz.func204 (congrArg some (Eq.refl (Body.n217 laysM144_ren))),
  f219:=Eq.trans Tryz.func203 (congrArg some (Eq.refl (Body.n219 laysM144_ren))),
  f224:=Eq.trans Tryz.func206 (congrArg some (Eq.refl (Body.n224 laysM144_ren))),
  f225:=Eq.trans Tryz.func205 (congrArg some (Eq.refl (Body.n225 laysM144_ren))),
  f266:=Eq.trans Tryz.func208 (congrArg some (Eq.refl (Body.n266 laysM144_ren))),
  f267:=Eq.trans Tryz.func207 (congrArg some (Eq.refl (Body.n267 laysM144_ren))),
  f314:=Eq.trans Tryz.func209 (congrArg some (Eq.refl (Body.n314 laysM144_ren))),t3:=Tryz.underlying3,
  a3:=Tryz.isAgg3,z3:=Tryz.sizeOf3,v3:=Tryz.zeroValue3,t4:=Tryz.underlying4,a4:=Tryz.isAgg4,
  z4:=Tryz.sizeOf4,v4:=Tryz.zeroValue4,t5:=Tryz.underlying5,a5:=Tryz.isAgg5,z5:=Tryz.sizeOf5,
  v5:=Tryz.zeroValue5,t9:=Tryz.underlying9,a9:=Tryz.isAgg9,z9:=Tryz.sizeOf9,v9:=Tryz.zeroValue9,
  t46:=Tryz.underlying183,a46:=Tryz.isAgg183,z46:=Tryz.sizeOf183,v46:=Tryz.zeroValue183,
  t51:=Tryz.underlying178,a51:=Tryz.isAgg178,z51:=Tryz.sizeOf178,v51:=Tryz.zeroValue178,
  t146:=Tryz.underlying259,a146:=Tryz.isAgg259,z146:=Tryz.sizeOf259,v146:=Tryz.zeroValue259,
  g1:=by kernel_rfl,i3:=by kernel_rfl,
  i4:=by kernel_rfl,i5:=by kernel_rfl,
  i9:=by kernel_rfl,
  i46:=by kernel_rfl,
  i51:=by kernel_rfl,
  i146:=by kernel_rfl,
  m1:=by kernel_rfl,
  s1_3:=fun w h=>Go.Proofs.cell_of_shapedOpen_int h (zero:=#[Go.Value.int Go.IntKind.i64 0]) (t:=3) (of_decide_eq_true (by kernel_rfl)) (by kernel_rfl) rfl (by kernel_rfl) (by kernel_rfl) Tryz.underlying3 }
def gMax:Nat:=laysM144_ren.g 1
theorem hasC {σ:Sig} (hg:σ.g=some gMax):HasC σ:=by
 intro s t H hs
 refine ⟨⟨_,Tryz.func196,by kernel_rfl,by kernel_rfl⟩,fun B w0 E w vs hσ hst hx=>?_⟩
 obtain ⟨_,m,hm⟩:=hst.glNow gMax (by rw [hσ]; exact hg)
 have hl:=hx.len
 obtain ⟨v0,v1,rfl⟩:∃ v0 v1,vs=#[v0,v1]:=by
  obtain ⟨l⟩:=vs
  match l,hl with
  | [a,b],_=>exact ⟨a,b,rfl⟩
 have r0:=hx.at_ 0 _ v0 rfl (by simp)
 have r1:=hx.at_ 1 _ v1 rfl (by simp)
 cases r0
 cases r1
 refine (Any.strings_Contains (ρ:=laysM144_ren) { laysM144 with } s t m w hs hm).mono fun e w' he=>?_
 obtain ⟨rfl,rfl⟩:=he
 exact ⟨E,_,rfl,.refl E,hst,.lit _⟩
theorem gMax_ok (W:World) (h:W.ShapedOpen Tryz.prog) {σ:Sig} (hg:σ.g=some gMax):∀ g,σ.g=some g→∃ m:Int,W.cell? ⟨g,0,none⟩=some (.int .i64 m):=by
 intro g hg'
 rw [hg] at hg'
 cases hg'
 exact laysM144.s1_3 W h
end Go.Proofs.YthdcghnjndhecaaGreat.Ev
namespace Go.Proofs.YthdcghnjndhecaaGreat.Ev
section
variable {H:Type} {enc:TypeId × Value→H}
theorem returnsInHanded_of_cond_shaped {a:Assume} {C:Checked} {os:Os} {f:FuncId} {fn:Func} {s:OpenSpec} {k:(H:Type)→List (DataW H)→Bool} (hk:s.cond=some k) {F:Stop.Interp} {conds:List PathCond} {apart fresh handsOn again:Bool}
  (own:ownKnob C.prog.godebug=none) (started:os.Started) (noInit:C.prog.inits.idxOf? f=none) (hfn:C.prog.funcs[f]?=some fn)
  (witness:∃ (w:World) (tape:Tape) (i:Input),w.os=os∧(w.forCall tape i).Shaped C.prog∧i.vars=[]∧Input.okWide C.prog (w.forCall tape i) .any w.heap.size f i ∧
   s.pre6 enc C.prog fn conds apart (w.forCall tape i).memory i.args∧a.holds C.prog (lone (Frame.enter C.prog f i.args .normal) [] (w.forCall tape i)))
  (contract:∀ (W:World) (base:Nat) (args:Array Value) (ds gs:List (DataW H)) (before:List MemPlace),
   (∀ (j:Nat) t v,fn.params[j]?=some t→args[j]?=some v→Value.okWide C.prog W .any base t v) →
   DataW.Whole enc C.prog fn.params.toList s.vars apart W args.toList ds gs before →
   conds.all (PathCond.test C.prog ⟨fn.params.toList,ds,s.bare.plain.varTypes C.prog,gs⟩)=true→k H (ds++gs)=true →
   (DataW.weightsEach C.prog (fn.params.toList++s.bare.plain.varTypes C.prog) (ds++gs)).all (·≤reachBytes)=true →
   W.ShapedOpen C.prog →
   a.holds C.prog (lone (Frame.enter C.prog f args .normal) [] W) →
   Calls C.prog f args W fun e W'=>∃ v,e=.returned v∧(s.at F).post enc C.prog fn apart fresh handsOn again W args v W') :
  ReturnsInHanded a C os f .any (s.pre6 enc C.prog fn conds apart) ((s.at F).post enc C.prog fn apart fresh handsOn again):=by
 refine returnsInHanded_of_calls own started noInit witness ?_
 intro w tape i _ hsh _ hok hpre hholds
 obtain ⟨_,_,_,fn',hfn',_,_,_,_,hval⟩:=hok
 have e:fn'=fn:=Option.some.inj (hfn'.symm.trans hfn)
 subst e
 obtain ⟨ds,gs,before,hw,hc,hkk⟩:=(OpenSpec.pre_some hk conds apart _ _).1 hpre.1
 have hw':=DataW.Whole.of_heap (w':=w.forCall tape i) (by rfl) hw
 refine (contract (w.forCall tape i) w.heap.size i.args ds gs before hval hw' hc hkk (hpre.2.weights hw) hsh hholds).mono fun e W' ⟨v,he,hp⟩=>?_
 subst he
 exact ChangeSpec.post_blind hp
end
end Go.Proofs.YthdcghnjndhecaaGreat.Ev
namespace Go.Proofs.YthdcghnjndhecaaGreat.Ev
open Go.RowKit
set_option linter.unusedVariables false
set_option linter.unusedSimpArgs false
set_option maxRecDepth 100000
variable {σ:Sig}
theorem NdSm.low {n:Nd} (h:NdSm n):SmN (lowN n):=by
 have r:reachBytes=140737488351232:=rfl
 refine ⟨by have:=h.classes; show n.classes.length≤_; omega,by have:=h.attrs; show (n.attrs.map lowPr).length≤_; rw [List.length_map]; omega,fun p hp=>?_⟩
 obtain ⟨q,hq,rfl⟩:=List.mem_map.1 hp
 have:=(h.at' q hq).2
 show q.2.data.size<_
 omega
theorem TreeOk.smN {L:List Nd} {d:List Nat} (h:TreeOk L d):∀ e,e<L.length→SmN (lowN (ndAt L e)):=by
 intro e he
 refine (h.sm _ ?_).low
 unfold ndAt
 rw [List.getD_eq_getElem?_getD,List.getElem?_eq_getElem he]
 exact List.getElem_mem _
theorem TreeOk.mc {L:List Nd} {d:List Nat} (h:TreeOk L d) (hC:HasC σ):McT σ L d:=⟨hC,h.hB,by have:=h.len; omega,h.smN⟩
def sigM:Sig:=⟨fun _=>0,fun _=>false,fun _=>⟨#[]⟩,some gMax⟩
theorem sigM_g:sigM.g=some gMax:=rfl
theorem callK_drop {P:Program} {σ:Sig} {f:Nat} {xs ys:List AV} {H:Hp} {K:AV→Hp→Prop} (hx:FzL H ys xs) (h:callK P σ f xs (Hp.bare H.n) K):callK P σ f ys H K:=by
 obtain ⟨r,H1,hg,hk⟩:=h
 exact ⟨r,H1,Good.conv (Wk.frz (H2:=Hp.bare H.n) (Hd:=H) rfl rfl (fun id k hk=>⟨hk,by simp⟩) (fun id k2 hk=>by simp at hk) hx.t) hg,hk⟩
theorem sls_ws {l:List Sl} (hl:slsWf Lmax l) (hf:FitL 11 l) (hb:bkLL (l.map encSl)≤NB):WsOk l:=by
 have hll:l.length≤bkLL (l.map encSl):=len_bk fun s _=>by rw [bk_sl]; omega
 refine ⟨by have hN:NB=1048576:=rfl; omega,fun s hs=>?_,hl.2,hf⟩
 have h1:=mem_bk (f:=encSl) hs
 have hN:NB=1048576:=rfl
 refine sel_bulk ⟨by show 1≤Lmax; decide,fun s' h=>by rw [List.mem_singleton.1 h]; exact hl.2 s hs⟩ (fun s' h=>by rw [List.mem_singleton.1 h]; exact hf s hs) ?_
 simp only [List.map_cons,List.map_nil,bkLL]
 omega
theorem rls_ws {m:List RL} (hm:rlsWf m) (hF:Fit12 m) (hb:bkLL (m.map encRL)≤NB):∀ r ∈ m,WsOk r.sels∧r.sets.length≤30:=fun r hr =>
 ⟨⟨by have:=hF.sels r hr; omega,fun s hs=>(rules_ok hm hF hb r hr s hs).2.2,fun s hs=>(rules_ok hm hF hb r hr s hs).1,fun s hs=>hF.fit r hr s hs s (by simp)⟩,hF.sets r hr⟩
theorem foldl_ok {L:List Nd} {e:Int}:∀ {m:List RL} {s:Wn},s.Ok→(m.foldl (ruleW L e) s).Ok
 | [],s,h=>h
 | r::m,s,h=>by
  rw [List.foldl_cons]
  refine foldl_ok ?_
  unfold ruleW
  split
  ·have:∀ (q:List ST) (s:Wn),s.Ok→(q.foldl (setW (bestW L e r.sels (0,false)).1) s).Ok:=by
    intro q
    induction q with
    | nil=>intro s h; exact h
    | cons x q ih=>intro s h; exact ih _ (setW_ok h)
   exact this _ _ h
  ·exact h
theorem winW_len (L:List Nd) (e:Int) (m:List RL):(winW L e m).o.length=16:=(foldl_ok (s:=wn0) ⟨rfl,rfl,rfl⟩).o
end Go.Proofs.YthdcghnjndhecaaGreat.Ev
namespace Go.Proofs.YthdcghnjndhecaaGreat.Ev
set_option linter.unusedVariables false
set_option linter.unusedSimpArgs false
set_option maxRecDepth 100000
set_option maxHeartbeats 4000000
variable {σ:Sig}
def frzO (k:Sk) (o:Option (AV × Hp)):Option AV:=match o with
 | some (r,H)=>frzS H k r
 | none=>none
theorem good_frz {f:Nat} {xs:List AV} {L d:Nat} {k:Sk} {y:AV} (hx:noIds xs=true) (h:frzO k (evF (CZ σ) fnT.get noOv L d f xs Hp.empty)=some y) (H:Hp):Good Tryz.prog σ f xs H y H:=by
 cases he:evF (CZ σ) fnT.get noOv L d f xs Hp.empty with
 | none=>rw [he] at h; cases h
 | some p =>
  obtain ⟨r,H'⟩:=p
  have hg:=evF_ok (CZ σ) mixed noOv_ok fnT_ok L d f xs Hp.empty r H' he
  rw [he] at h
  exact hg.frzR hx (frzS_ok _ _ _ h) H
theorem Fz.tupL {H:Hp} {xs ys:List AV} (h:FzL H xs ys):Fz H (.tup xs) (.tup ys):=by
 have hget:=h.get
 refine .tup hget.1 fun j x y hx hy=>?_
 obtain ⟨x',hx',hf⟩:=hget.2 j y hy
 rw [hx] at hx'
 cases hx'
 exact hf
def frzOT (ks:List Sk) (o:Option (AV × Hp)):Option (List AV):=match o with
 | some (.tup xs,H)=>frzR H ks xs
 | _=>none
theorem good_frzT {f:Nat} {xs:List AV} {L d:Nat} {ks:List Sk} {ys:List AV} (hx:noIds xs=true) (h:frzOT ks (evF (CZ σ) fnT.get noOv L d f xs Hp.empty)=some ys) (H:Hp):Good Tryz.prog σ f xs H (.tup ys) H:=by
 cases he:evF (CZ σ) fnT.get noOv L d f xs Hp.empty with
 | none=>rw [he] at h; cases h
 | some p =>
  obtain ⟨r,H'⟩:=p
  have hg:=evF_ok (CZ σ) mixed noOv_ok fnT_ok L d f xs Hp.empty r H' he
  rw [he] at h
  cases r<;>first | (cases h; done) | skip
  exact hg.frzR hx (Fz.tupL (frzR_ok _ _ _ h)) H
def byt (l:List Int):AV:=.imm 1 (l.map fun n=>[.lit (.int .u8 n)])
def pts (l:List Int):AV:=.imm 1 (l.map fun n=>[I n])
theorem noId_byt (l:List Int):noId (byt l)=true:=by unfold byt; simp only [noId]; exact noIds_map _ (fun _=>rfl) l
def tk (k:Int) (s:ByteArray) (n:Int):List AV:=[I k,.lit (.string s),I n,Bo false,I 0]
def tks (l:List (Int × ByteArray × Int)):AV:=.imm 5 (l.map fun p=>tk p.1 p.2.1 p.2.2)
def sA:Sl:=[.mk 0 (.mk ⟨#[97]⟩ [] [] [] [])]
def alR:List RL:=[⟨[sA],[⟨4,2,1000,false⟩]⟩,⟨[sA],[⟨4,2,2000,false⟩]⟩]
def alT:List Int:=[97,123,119,105,100,116,104,58,49,112,120,125,97,123,119,105,100,116,104,58,50,112,120,125]
def alP:List (Int × ByteArray × Int):=[(1,⟨#[97]⟩,0)]
def alD (n:Int):List (Int × ByteArray × Int):=[(1,⟨#[119,105,100,116,104]⟩,0),(11,emp,0),(8,⟨#[112,120]⟩,n)]
def alK:List (Int × ByteArray × Int):=alP++(14,emp,0)::alD 1000++(15,emp,0)::alP++(14,emp,0)::alD 2000++[(15,emp,0)]
def skT:Sk:=.sl 5 [.same,.same,.same,.same,.same]
theorem ev_prep (H:Hp):Good Tryz.prog σ n_ref1_Prepare [byt alT] H (pts alT) H :=
 good_frz (k:=.sl 1 [.same]) (L:=1000) (d:=60) rfl (by kernel_rfl) H
theorem ev_tok (H:Hp):Good Tryz.prog σ n_ref1_Tokens [pts alT] H (tks alK) H :=
 good_frz (k:=skT) (L:=1000) (d:=60) rfl (by kernel_rfl) H
theorem ev_rul (H:Hp):Good Tryz.prog σ n_ref1_Rules [tks alK] H (.imm 2 [[tks alP,tks (alD 1000)],[tks alP,tks (alD 2000)]]) H :=
 good_frz (k:=.sl 2 [skT,skT]) (L:=1000) (d:=60) rfl (by kernel_rfl) H
theorem ev_sel (H:Hp):Good Tryz.prog σ n_ref1_Selectors [tks alP] H (.tup [sls [sA],Bo true]) H :=
 good_frzT (ks:=[skSls 1,.same]) (L:=1000) (d:=60) rfl (by kernel_rfl) H
theorem ev_dec1 (H:Hp):Good Tryz.prog σ n_ref1_Decls [tks (alD 1000)] H (.imm 3 [[.lit (.string ⟨#[119,105,100,116,104]⟩),tks [(8,⟨#[112,120]⟩,1000)],Bo false]]) H :=
 good_frz (k:=.sl 3 [.same,skT,.same]) (L:=1000) (d:=60) rfl (by kernel_rfl) H
theorem ev_dec2 (H:Hp):Good Tryz.prog σ n_ref1_Decls [tks (alD 2000)] H (.imm 3 [[.lit (.string ⟨#[119,105,100,116,104]⟩),tks [(8,⟨#[112,120]⟩,2000)],Bo false]]) H :=
 good_frz (k:=.sl 3 [.same,skT,.same]) (L:=1000) (d:=60) rfl (by kernel_rfl) H
theorem ev_set1 (H:Hp):Good Tryz.prog σ n_ref1_Sets [.imm 3 [[.lit (.string ⟨#[119,105,100,116,104]⟩),tks [(8,⟨#[112,120]⟩,1000)],Bo false]]] H (.imm 4 [encST ⟨4,2,1000,false⟩]) H :=
 good_frz (k:=.sl 4 [.same,.same,.same,.same]) (L:=1000) (d:=60) rfl (by kernel_rfl) H
theorem ev_set2 (H:Hp):Good Tryz.prog σ n_ref1_Sets [.imm 3 [[.lit (.string ⟨#[119,105,100,116,104]⟩),tks [(8,⟨#[112,120]⟩,2000)],Bo false]]] H (.imm 4 [encST ⟨4,2,2000,false⟩]) H :=
 good_frz (k:=.sl 4 [.same,.same,.same,.same]) (L:=1000) (d:=60) rfl (by kernel_rfl) H
theorem sheet_al (H:Hp):Good Tryz.prog σ n_ref1_Sheet [byt alT] H (rls alR) H:=by
 suffices h:∃ r H1,Good Tryz.prog σ n_ref1_Sheet [byt alT] Hp.empty r H1∧Fz H1 r (rls alR) by
  obtain ⟨r,H1,hg,hf⟩:=h
  exact hg.frzR (by simp [noIds,noId_byt]) hf H
 refine ref1_Sheet.run ?_
 refine bnd_of rfl ?_
 refine bnd_of rfl ?_
 simp only [ifB_lit,Bool.false_eq_true,if_false]
 refine callK_of (ev_prep _) (callK_of (ev_tok _) (callK_of (ev_rul _) ?_))
 refine ref1_Sheet.L0_step ?_
 iterate 2 refine bnd_of rfl ?_
 simp only [ifB_lit,if_true]
 iterate 3 refine bnd_of rfl ?_
 refine callK_of (ev_sel _) ?_
 iterate 2 refine bnd_of rfl ?_
 simp only [ifB_lit,if_true]
 iterate 3 refine bnd_of rfl ?_
 refine callK_of (ev_dec1 _) (callK_of (ev_set1 _) ?_)
 iterate 3 refine bnd_of rfl ?_
 refine ref1_Sheet.J1_step ?_
 refine bnd_of rfl ?_
 refine ref1_Sheet.L0_step ?_
 iterate 2 refine bnd_of rfl ?_
 simp only [ifB_lit,if_true]
 iterate 3 refine bnd_of rfl ?_
 refine callK_of (ev_sel _) ?_
 iterate 2 refine bnd_of rfl ?_
 simp only [ifB_lit,if_true]
 iterate 3 refine bnd_of rfl ?_
 refine callK_of (ev_dec2 _) (callK_of (ev_set2 _) ?_)
 iterate 3 refine bnd_of rfl ?_
 refine ref1_Sheet.J1_step ?_
 refine bnd_of rfl ?_
 refine ref1_Sheet.L0_step ?_
 iterate 2 refine bnd_of rfl ?_
 simp only [ifB_lit,Bool.false_eq_true,if_false]
 exact frzS_ok (.sl 2 [.same,.same]) _ _ (by kernel_rfl)
end Go.Proofs.YthdcghnjndhecaaGreat.Ev
namespace Go.Proofs.YthdcghnjndhecaaGreat.Ev
set_option linter.unusedVariables false
set_option linter.unusedSimpArgs false
set_option maxRecDepth 100000
variable {σ:Sig}
def alL:List Nd:=[⟨-1,⟨#[97]⟩,emp,[],[]⟩]
theorem alB:Built alL alL.length [0]:=Built.first (by decide) rfl
theorem alW:∀ n ∈ alL,NdWf n:=by
 intro n hn
 rw [List.mem_singleton.1 hn]
 exact ⟨by unfold i64; decide,by decide,by decide,by decide,by intro p hp; cases hp⟩
theorem alSm:∀ e,e<alL.length→SmN (lowN (ndAt alL e)):=by
 intro e he
 have:e=0:=by simp [alL] at he; omega
 subst this
 exact ⟨by decide,by decide,by intro p hp; cases hp⟩
theorem alM (hC:HasC σ):McT σ alL [0]:=⟨hC,alB,by decide,alSm⟩
theorem sA_wf:slsWf Lmax [sA]:=by
 refine ⟨by decide,fun s hs=>?_⟩
 rw [List.mem_singleton.1 hs]
 refine ⟨by decide,fun p hp=>?_⟩
 rw [List.mem_singleton.1 hp,Pt.wf_iff]
 exact ⟨by unfold i64; decide,by decide,⟨by decide,fun s h=>by cases h⟩,⟨by decide,fun s h=>by cases h⟩,by decide,(fun s h=>by cases h),by decide,fun q hq=>by cases hq⟩
theorem sA_fit:FitL 11 [sA]:=by
 intro s hs
 rw [List.mem_singleton.1 hs]
 refine ⟨by decide,fun p hp=>?_⟩
 rw [List.mem_singleton.1 hp]
 exact ⟨by unfold FitC; decide,fun q hq=>by cases hq⟩
theorem alR_ws:∀ r ∈ alR,WsOk r.sels∧r.sets.length≤30:=by
 have h:WsOk [sA]:=sls_ws sA_wf sA_fit (by decide)
 intro r hr
 simp only [alR,List.mem_cons,List.not_mem_nil,or_false] at hr
 rcases hr with rfl | rfl<;>exact ⟨h,by decide⟩
theorem al_win:(winW alL 0 alR).o=[0,0,0,0,0,0,0,0,2,2000,0,0,0,0,0,0]:=by kernel_rfl
theorem alive15 (hC:HasC σ) (H:Hp):Good Tryz.prog σ n_law15_alive [] H (Bo true) H:=by
 refine good_by (fun K hK=>law15_alive.run ?_) rfl rfl H
 refine bnd_of rfl ?_
 refine bnd_of rfl ?_
 refine callK_drop (xs:=[byt alT]) (.cons (frzS_ok (.sl 1 [.same]) _ _ (by kernel_rfl)) .nil) ?_
 refine callK_of (sheet_al _) ?_
 refine bnd_of rfl ?_
 refine bnd_of rfl ?_
 refine callK_of (Good.drop (fun H=>domNew_ok alB alW (by decide) H) (.cons (frzS_ok skNds _ _ (by kernel_rfl)) .nil)) ?_
 simp only [x_tup,List.getElem?_cons_zero,List.getElem?_cons_succ,bnd_some]
 refine callK_of (CWinners_ok (alM hC) alR_ws (by decide) 0 _) ?_
 rw [al_win]
 simp only [allocK_eq]
 iterate 5 refine bnd_of rfl ?_
 exact hK _
end Go.Proofs.YthdcghnjndhecaaGreat.Ev
namespace Go.Proofs.YthdcghnjndhecaaGreat.Ev
open Go.RowKit
set_option linter.unusedVariables false
set_option linter.unusedSimpArgs false
set_option maxRecDepth 100000
variable {σ:Sig}
section
end
end Go.Proofs.YthdcghnjndhecaaGreat.Ev
namespace Go.Proofs.YthdcghnjndhecaaGreat.Ev
open Go.RowKit
set_option linter.unusedVariables false
set_option linter.unusedSimpArgs false
set_option maxRecDepth 100000
variable {σ:Sig}
def cp0:Cp:=.mk emp [] [] [] []
def sl0:Sl:=[⟨0,cp0⟩]
theorem sl0_wf:slsWf Lmax [sl0]:=by
 refine ⟨by decide,fun s hs=>?_⟩
 rw [List.mem_singleton.1 hs]
 refine ⟨by decide,fun p hp=>?_⟩
 rw [List.mem_singleton.1 hp,Pt.wf_iff]
 exact ⟨by unfold i64; decide,by decide,⟨by decide,fun s h=>by cases h⟩,⟨by decide,fun s h=>by cases h⟩,by decide,(fun s h=>by cases h),by decide,fun q hq=>by cases hq⟩
theorem sl0_fit:FitL 11 [sl0]:=by
 intro s hs
 rw [List.mem_singleton.1 hs]
 refine ⟨by decide,fun p hp=>?_⟩
 rw [List.mem_singleton.1 hp]
 exact ⟨by unfold FitC; decide,fun q hq=>by cases hq⟩
theorem sl0_ws:WsOk [sl0]:=sls_ws sl0_wf sl0_fit (by decide)
theorem sl0_sel {L:List Nd} {e:Nat} (he:e<L.length):selB L 11 sl0 (e:Int)=true:=by
 have hn:Nest 1 [sl0]:=by
  intro s' hs' p hp q hq
  rw [List.mem_singleton.1 hs'] at hp
  rw [List.mem_singleton.1 hp] at hq; cases hq
 have hp:plainB (lowN (ndAt L e)) cp0=true:=by simp [plainB,tagB,cp0,Cp.tag,Cp.ids,Cp.classes,Cp.attrs]
 have h1:frontB (AA L) L sl0 0 e=compB (AA L) L e cp0:=rfl
 have hc:compB (AA L) L e cp0=true:=by unfold compB; rw [hp]; rfl
 have hm:mayF 11 [sl0] 8=true:=rfl
 have ha:AA L [sl0] e=true:=by
  rw [← AA_eq hn (by decide)]
  show (anyS (AA L) L [sl0] e)=true
  simp only [anyS,List.any_cons,List.any_nil,Bool.or_false]
  show (!decide (0+1=0)&&frontB (AA L) L sl0 0 e)=true
  rw [h1,hc]; rfl
 unfold selB mayAny
 simp only [List.any_cons,List.any_nil,Bool.or_false,Int.toNat_natCast]
 rw [hm,ha,decide_eq_true (by omega),decide_eq_true (by omega)]
 rfl
theorem sl0_w:ofW 8 sl0=0:=by first | rfl | kernel_rfl
theorem best0 {L:List Nd} {e:Nat} (he:e<L.length):bestW L (e:Int) [sl0] (0,false)=(0,true):=by
 unfold bestW bestW
 rw [sl0_sel he,sl0_w]
 rfl
structure Top (p:Nat) (k n:Int) (s:Wn):Prop where
 ok:s.Ok
 t:s.t.getD p false=true
 w:s.w.getD p 0=1073741824
 k:s.o.getD (p*2) 0=k
 n:s.o.getD (p*2+1) 0=n
theorem getD_set_ne {α:Type} {l:List α} {i j:Nat} {x d:α} (h:i≠j):(l.set i x).getD j d=l.getD j d:=by
 simp only [List.getD_eq_getElem?_getD,List.getElem?_set_ne h]
theorem getD_set_eq {α:Type} {l:List α} {i:Nat} {x d:α} (h:i<l.length):(l.set i x).getD i d=x:=by
 simp only [List.getD_eq_getElem?_getD,List.getElem?_set_self h,Option.getD_some]
theorem Top.set {p:Nat} {k n w:Int} {s:Wn} {q:ST} (h:Top p k n s) (hi:q.imp=false) (hw:w≤16777215):Top p k n (setW w s q):=by
 have hok:=setW_ok (w:=w) (q:=q) h.ok
 unfold setW at hok ⊢
 rw [hi] at hok ⊢
 simp only [Bool.false_eq_true,if_false] at hok ⊢
 split at hok
 ·rename_i h1
  rw [if_pos h1]; exact h
 rename_i h1
 rw [if_neg h1]
 split at hok
 ·rename_i h2
  rw [if_pos h2]; exact h
 rename_i h2
 rw [if_neg h2]
 have hne:q.prop.toNat≠p:=by
  intro e
  rw [e,h.t,h.w] at h2
  exact h2 ⟨rfl,by omega⟩
 refine ⟨hok,?_,?_,?_,?_⟩
 ·simp only [getD_set_ne hne]; exact h.t
 ·simp only [getD_set_ne hne]; exact h.w
 ·simp only [getD_set_ne (show q.prop.toNat*2+1≠p*2 by omega),getD_set_ne (show q.prop.toNat*2≠p*2 by omega)]; exact h.k
 ·simp only [getD_set_ne (show q.prop.toNat*2+1≠p*2+1 by omega),getD_set_ne (show q.prop.toNat*2≠p*2+1 by omega)]; exact h.n
theorem Top.rules {L:List Nd} {e:Int} {p:Nat} {k n:Int}:∀ {l:List RL} {s:Wn},(∀ r ∈ l,WsOk r.sels∧r.sets.length≤30)→(∀ r ∈ l,∀ q ∈ r.sets,q.imp=false)→Top p k n s→Top p k n (l.foldl (ruleW L e) s)
 | [],s,_,_,h=>h
 | r::l,s,hl,hi,h=>by
  rw [List.foldl_cons]
  refine Top.rules (fun r hr=>hl r (by simp [hr])) (fun r hr=>hi r (by simp [hr])) ?_
  unfold ruleW
  split
  ·have hw:=(bestW_bd (L:=L) (e:=e) (hl r (by simp)).1 (0,false) (by decide)).2
   have hq:=hi r (by simp)
   generalize (bestW L e r.sels (0,false)).1=w at hw ⊢
   revert hq
   generalize r.sets=qs
   intro hq
   have:∀ (qs:List ST) (s:Wn),(∀ q ∈ qs,q.imp=false)→Top p k n s→Top p k n (qs.foldl (setW w) s):=by
    intro qs
    induction qs with
    | nil=>intro s _ h; exact h
    | cons x qs ih=>intro s hq h; exact ih _ (fun q h=>hq q (by simp [h])) (h.set (hq x (by simp)) hw)
   exact this qs s hq h
  ·exact h
theorem top_first {p:Nat} (hp:p<8) {k n:Int}:Top p k n (setW 0 wn0 ⟨(p:Int),k,n,true⟩):=by
 have hok:=setW_ok (w:=0) (q:=⟨(p:Int),k,n,true⟩) (show wn0.Ok from ⟨rfl,rfl,rfl⟩)
 have h1:¬ ((p:Int)<0∨8≤(p:Int)):=by omega
 have h2:wn0.t.getD p false=false:=by
  unfold wn0
  simp only [List.getD_eq_getElem?_getD,List.getElem?_replicate]
  rw [if_pos hp]; rfl
 unfold setW at hok ⊢
 simp only [Int.toNat_natCast] at hok ⊢
 rw [if_neg h1] at hok ⊢
 rw [if_neg (by rw [h2]; simp)] at hok ⊢
 have e1:wn0.t.length=8:=rfl
 have e2:wn0.w.length=8:=rfl
 have e3:wn0.o.length=16:=rfl
 refine ⟨hok,?_,?_,?_,?_⟩
 ·exact getD_set_eq (by omega)
 ·exact getD_set_eq (by omega)
 ·simp only [getD_set_ne (show p*2+1≠p*2 by omega)]
  exact getD_set_eq (by omega)
 ·exact getD_set_eq (by rw [List.length_set]; omega)
theorem win_top {L:List Nd} {e:Nat} (he:e<L.length) {p:Nat} (hp:p<8) {k n:Int} {l:List RL} (hl:∀ r ∈ l,WsOk r.sels∧r.sets.length≤30) (hi:∀ r ∈ l,∀ q ∈ r.sets,q.imp=false) :
  (winW L e (⟨[sl0],[⟨(p:Int),k,n,true⟩]⟩::l)).o.getD (p*2) 0=k∧(winW L e (⟨[sl0],[⟨(p:Int),k,n,true⟩]⟩::l)).o.getD (p*2+1) 0=n:=by
 have h:Top p k n (winW L e (⟨[sl0],[⟨(p:Int),k,n,true⟩]⟩::l)):=by
  unfold winW
  rw [List.foldl_cons]
  refine Top.rules hl hi ?_
  unfold ruleW
  simp only [best0 he,if_true,List.foldl_cons,List.foldl_nil]
  exact top_first hp
 exact ⟨h.k,h.n⟩
theorem Fz.mono {H H':Hp} (hm:∀ id k,H.get id=some k→H'.get id=some k) {x y:AV} (h:Fz H x y):Fz H' x y:=by
 induction h with
 | refl h=>exact .refl h
 | nil=>exact .nil
 | se=>exact .se
 | emp=>exact .emp
 | sl val hg hl hsz hc hf ih=>exact .sl val (hm _ _ hg) hl hsz hc ih
 | ptr val hg hc hf ih=>exact .ptr val (hm _ _ hg) hc ih
 | agg hl hf ih=>exact .agg hl ih
 | tup hl hf ih=>exact .tup hl ih
theorem FzL.mono {H H':Hp} (hm:∀ id k,H.get id=some k→H'.get id=some k) {xs ys:List AV} (h:FzL H xs ys):FzL H' xs ys:=by
 induction h with
 | nil=>exact .nil
 | cons h hs ih=>exact .cons (h.mono hm) ih
theorem app_lit {H:Hp} {id:Nat} {row row':List AV} {ex:Bool} {l:List RL} (hid:id<H.n) (hn:H.get H.n=none) (hg:H.get id=some (.cells row ex)) (hl2:row.length=2) (hf:FzL H row row') (hlen:l.length≤1000) {K:AV × Hp→Prop}
  (h:∀ x' H',(∀ id k,H.get id=some k→H'.get id=some k)→Fz H' x' (.imm 2 (row'::l.map encRL))→K (x',H')):bnd (appR false 2 48 H (.sl id 0 2 1 (some 1)) (rls l)) K:=by
 have hr':row'.length=2:=by rw [← hf.len]; exact hl2
 have hs:srcA H 2 (rls l)=some (l.length,(l.map encRL).flatten):=by
  have:=src_imm (H:=H) (sz:=2) (rows:=l.map encRL)
  rwa [List.length_map] at this
 have hsz:∀ r ∈ l.map encRL,r.length=2:=by
  intro r hr
  obtain ⟨q,_,rfl⟩:=List.mem_map.1 hr
  rfl
 have hno:noIdss (l.map encRL)=true:=noIds_map encRL (fun r=>by simp only [encRL,noIds,noId,noId_sls,Bool.true_and,Bool.and_true]; exact noIds_map encST (fun _=>rfl) r.sets) l
 have hone:(l.map encRL).flatten.all AV.one=true:=by
  rw [List.all_eq_true]
  intro x hx
  obtain ⟨r,hr,hx⟩:=List.mem_flatten.1 hx
  obtain ⟨q,_,rfl⟩:=List.mem_map.1 hr
  simp only [encRL,List.mem_cons,List.not_mem_nil,or_false] at hx
  rcases hx with rfl | rfl<;>rfl
 cases l with
 | nil =>
  refine bnd_of (x:=(.sl id 0 2 1 (some 1),H)) ?_ (h _ _ (fun _ _ h=>h) ?_)
  ·unfold appR
   simp only [hs]
   rfl
  ·exact Fz.sl1 hg hf hr'
 | cons r l =>
  refine bnd_of (x:=(.sl H.n 0 2 (1+(r::l).length) none,H.new (.cells (row++((r::l).map encRL).flatten) false))) ?_ (h _ _ (fun j k hj=>?_) ?_)
  ·unfold appR
   have e1:notStr (rls (r::l))=true:=rfl
   have e2:Nat.beq (r::l).length 0=false:=rfl
   have e3:(row.drop 0).take (1*2)=row:=by rw [List.drop_zero,List.take_of_length_le (by omega)]
   have e4:¬ (1+(r::l).length≤1):=by simp
   have e5:(1+(r::l).length)*48≤140737488355328:=by omega
   have e6:1+(r::l).length≤4611686018427387904:=by omega
   simp only [e1,hs,hone,e2,hg,cond_true,cond_false,beqN,bleN,decide_true,Bool.true_and,Nat.zero_add,e3,hl2,decide_eq_true e5,decide_eq_true e6,decide_eq_false e4,Nat.one_mul,Nat.le_refl]
  ·have:j≠H.n:=by rintro rfl; rw [hn] at hj; cases hj
   simp [this,hj]
  ·have hg2:Gs 2 (H.new (.cells (row++((r::l).map encRL).flatten) false)) (.sl H.n 0 2 (row::(r::l).map encRL).length none) (row::(r::l).map encRL) :=
    .sl (ex:=false) (by simp) (by simp) fun x hx=>by
     rcases List.mem_cons.1 hx with rfl | hx
     ·exact hl2
     ·exact hsz x hx
   have e:1+(r::l).length=(row::(r::l).map encRL).length:=by simp; omega
   rw [e]
   refine hg2.fzm (by simp) fun i a b ha hb=>?_
   have hm:∀ j k,H.get j=some k→(H.new (.cells (row++((r::l).map encRL).flatten) false)).get j=some k:=by
    intro j k hj
    have:j≠H.n:=by rintro rfl; rw [hn] at hj; cases hj
    simp [this,hj]
   cases i with
   | zero=>simp only [List.getElem?_cons_zero,Option.some.injEq] at ha hb; subst ha; subst hb; exact hf.mono hm
   | succ i =>
    simp only [List.getElem?_cons_succ] at ha hb
    rw [ha] at hb; cases hb
    exact FzL.refl (noIdss_get hno i a ha)
section
attribute [local irreducible] law15_CascadeLast.L0 law15_CascadeLast.L1 law15_CascadeLast.L2
theorem last_drop {K:AV→Hp→Prop} {y0 y1 y5 y5' y9 y12 y13 y15 y15' y16:AV} {H:Hp} (h5:Fz H y5 y5') (h15:Fz H y15 y15') (h:law15_CascadeLast.L2 σ K y0 y1 y5' y9 y12 y13 y15' y16 (Hp.bare H.n)):law15_CascadeLast.L2 σ K y0 y1 y5 y9 y12 y13 y15 y16 H :=
 by unfold law15_CascadeLast.L2 at h ⊢; exact fun js=>LoopP.drop (.same (.same (.same (.same (.same (.fz h5 (.same (.same (.same (.same (.same (.same (.same (.same (.same (.fz h15 (FzTr _))))))))))))))))) (h js)
theorem st_ld2 {H:Hp} {x y u v:AV} {K:AV→Hp→Prop} (hu:u.one=true) (hv:v.one=true) (h:K (.agg [u,v]) ((H.new (.cells [x,y] true)).set H.n (some (.cells [u,v] true)))):bnd (stA 2 (H.new (.cells [x,y] true)) (.ptr H.n 0) (.agg [u,v])) fun H1=>bnd (ldA true 2 H1 (.ptr H.n 0)) fun x=>K x H1:=by
 have e:stA 2 (H.new (.cells [x,y] true)) (.ptr H.n 0) (.agg [u,v])=some ((H.new (.cells [x,y] true)).set H.n (some (.cells [u,v] true))):=by
  rw [st_agg,hp_get_new,if_pos rfl,if_pos (by simp),stO_cells,if_pos ⟨by simp,by simp [hu,hv]⟩,overlay_all (by simp)]
 have e2:ldA true 2 ((H.new (.cells [x,y] true)).set H.n (some (.cells [u,v] true))) (.ptr H.n 0)=some (.agg [u,v]):=by
  rw [ld_ptr,hp_get_set,if_pos rfl]; rfl
 rw [e,bnd_some,e2]
 exact h
def lastM (q:ST) (m:List RL):List RL:=⟨[sl0],[⟨q.prop,q.kind,q.n,true⟩]⟩::m
theorem CascadeLast_good (hC:HasC σ) {L:List Nd} (hW:∀ n ∈ L,NdWf n) {m:List RL} (hm:rlsWf m) (hb:bkLL (m.map encRL)≤NB) (q:ST):∃ Hf,Good Tryz.prog σ n_law15_CascadeLast [nds L,rls m,.agg (encST q)] Hp.empty (Bo true) Hf:=by
 refine ⟨Hp.empty,good_by (fun K hK=>law15_CascadeLast.run ?_) (by simp [noIds,noId,encST]) rfl _⟩
 obtain ⟨much,hd,hfit⟩:=Dear12_ok (σ:=σ) m hm
 simp only [boxK_agg]
 have e0:Hp.empty.n=0:=rfl
 rw [e0]
 refine callK_of (alive15 hC _) (callK_of (hd _) ?_)
 rcases trees_ok (σ:=σ) L hW with hg | ⟨d,hT,hg⟩
 ·refine callK_of (hg _) ?_
  simp only [x_tup,List.getElem?_cons_zero,List.getElem?_cons_succ,bnd_some,u_not,ifB_lit,Bool.not_true,Bool.not_false,Bool.false_eq_true,if_true,if_false]
  cases much<;>simp only [Bool.false_eq_true,if_true,if_false]<;>exact hK _
 refine callK_of (hg _) ?_
 simp only [x_tup,List.getElem?_cons_zero,List.getElem?_cons_succ,bnd_some,u_not,ifB_lit,Bool.not_true,Bool.not_false,Bool.false_eq_true,if_true,if_false]
 cases hmu:much with
 | true=>simp only [if_true]; exact hK _
 | false =>
 simp only [Bool.false_eq_true,if_false]
 have hF:=hfit hmu
 have M:=hT.mc hC
 have hl40:=hT.len
 have hws:=rls_ws hm hF hb
 obtain ⟨H0,hH0⟩:∃ H0,H0=Hp.empty.new (.cells (encST q) true):=⟨_,rfl⟩
 have g0:H0.get 0=some (.cells (encST q) true):=by rw [hH0]; simp [Hp.empty]
 rw [← hH0]
 have l0:ldA false 1 H0 (.ptr 0 (0+0))=some (I q.prop):=by rw [ld_ptr,g0]; rfl
 simp only [len_rls,bnd_some,b_gtr,b_lss,ifB_lit,decide_eq_true_eq,sh_ptr,l0]
 split
 ·exact hK _
 rename_i h29
 split
 ·exact hK _
 rename_i hq0
 split
 ·exact hK _
 rename_i hq7
 have hall:∀ r ∈ lastM q m,WsOk r.sels∧r.sets.length≤30:=by
  intro r hr
  rcases List.mem_cons.1 hr with rfl | hr
  ·exact ⟨sl0_ws,by show 1≤30; decide⟩
  ·exact hws r hr
 have L2:(∀ r ∈ m,∀ s ∈ r.sets,s.imp=false)→∀ (f i:Nat) (H:Hp) (y12 y13:AV),L.length - i=f→i≤L.length→law15_CascadeLast.L2 σ K (nds L) (rls m) (.ip (encST ⟨q.prop,q.kind,q.n,true⟩)) (domT L d) y12 y13 (rls (lastM q m)) (I (i:Int)) H:=by
  intro hni f
  induction f with
  | zero =>
   intro i H y12 y13 hf hi
   have:i=L.length:=by omega
   subst this
   refine law15_CascadeLast.L2_step ?_
   simp only [len_nds,bnd_some,b_lss,Int.lt_irrefl,decide_false,ifB_lit,Bool.false_eq_true,if_false]
   exact hK _
  | succ f ih =>
   intro i H y12 y13 hf hi
   have hlt:(i:Int)<(L.length:Int):=by omega
   refine law15_CascadeLast.L2_step ?_
   simp only [len_nds,bnd_some,b_lss,hlt,decide_true,ifB_lit,if_true]
   refine callK_of (CWinners_ok M hall (by show m.length+1≤60; omega) _ _) ?_
   obtain ⟨p,hp⟩:∃ p:Nat,q.prop=(p:Int):=⟨q.prop.toNat,by omega⟩
   have hp8:p<8:=by omega
   have hw:=win_top (L:=L) (e:=i) (by omega) hp8 (k:=q.kind) (n:=q.n) (l:=m) hws hni
   have hwo:=winW_len L (i:Int) (lastM q m)
   have hM:lastM q m=⟨[sl0],[⟨(p:Int),q.kind,q.n,true⟩]⟩::m:=by unfold lastM; rw [hp]
   rw [← hM] at hw
   generalize (winW L (i:Int) (lastM q m)).o=o at hw hwo ⊢
   have hol:(o.map I).length=16:=by rw [List.length_map]; exact hwo
   simp only [allocK_eq]
   have hall1:(o.map I).all AV.one=true:=by rw [List.all_eq_true]; intro x hx; obtain ⟨v,_,rfl⟩:=List.mem_map.1 hx; rfl
   have s1:stA 16 (H.new (.cells (List.replicate 16 (I 0)) true)) (.ptr H.n 0) (.agg (o.map I))=some ((H.new (.cells (List.replicate 16 (I 0)) true)).set H.n (some (.cells (o.map I) true))):=by
    rw [st_agg,hp_get_new,if_pos rfl,if_pos hol,stO_cells,if_pos ⟨by rw [hol]; simp,hall1⟩,overlay_all (by rw [hol]; simp)]
   have i1:ixaArr 8 2 (.ptr H.n 0) (I (p:Int))=some (.ptr H.n (p*2)):=by rw [ixArrN hp8]; simp
   have ek:o[p*2]?=some q.kind:=by
    rw [List.getElem?_eq_getElem (by omega)]; congr 1
    rw [← hw.1,List.getD_eq_getElem?_getD,List.getElem?_eq_getElem (by omega)]; rfl
   have en:o[p*2+1]?=some q.n:=by
    rw [List.getElem?_eq_getElem (by omega)]; congr 1
    rw [← hw.2,List.getD_eq_getElem?_getD,List.getElem?_eq_getElem (by omega)]; rfl
   have ed:(o.map I).drop (p*2)=I q.kind::I q.n::(o.map I).drop (p*2+2):=by
    rw [List.drop_eq_getElem_cons (by omega),List.drop_eq_getElem_cons (by omega)]
    congr 1
    ·have:=ek; rw [List.getElem?_eq_getElem (by omega)] at this; simp only [List.getElem_map]; rw [Option.some.inj this]
    ·congr 1
     have:=en; rw [List.getElem?_eq_getElem (by omega)] at this; simp only [List.getElem_map]; rw [Option.some.inj this]
   have l1:∀ HH:Hp,HH.get H.n=some (.cells (o.map I) true)→ldA true 2 HH (.ptr H.n (p*2))=some (.agg [I q.kind,I q.n]):=by
    intro HH hh
    rw [ld_ptr,hh,ldO_cells,ed]
    rfl
   have l2:ldA false 1 ((H.new (.cells (List.replicate 16 (I 0)) true)).set H.n (some (.cells (o.map I) true))) (.ip ((encST ⟨q.prop,q.kind,q.n,true⟩).drop 0))=some (I (p:Int)):=by rw [← hp]; rfl
   have l3:ldA true 2 ((H.new (.cells (List.replicate 16 (I 0)) true)).set H.n (some (.cells (o.map I) true))) (.ip ((encST ⟨q.prop,q.kind,q.n,true⟩).drop 1))=some (.agg [I q.kind,I q.n]):=rfl
   simp only [s1,bnd_some,sh_ip,l2,i1,l1 _ (show ((H.new (.cells (List.replicate 16 (I 0)) true)).set H.n (some (.cells (o.map I) true))).get H.n=_ by rw [hp_get_set,if_pos rfl]),l3]
   have e1:eqAggR [.int .i64,.int .i64] .neq (.agg [I q.kind,I q.n]) (.agg [I q.kind,I q.n])=some (Bo false):=by simp [eqAggR,isAggA,AV.cells,eqC,tfB]
   simp only [e1,bnd_some,ifB_lit,Bool.false_eq_true,if_false,b_add]
   rw [wr_succ (by omega)]
   exact ih (i+1) _ _ _ (by omega) (by omega)
 have fin:(∀ r ∈ m,∀ s ∈ r.sets,s.imp=false)→∀ (y12 y13 y15 y16:AV),y12=I (m.length:Int)→law15_CascadeLast.L0 σ K (nds L) (rls m) (.ptr 0 0) (domT L d) y12 y13 y15 y16 H0:=by
  intro hni y12 y13 y15 y16 hy
  subst hy
  refine law15_CascadeLast.L0_step ?_
  simp only [len_rls,bnd_some,b_lss,Int.lt_irrefl,decide_false,ifB_lit,Bool.false_eq_true,if_false]
  rw [hH0]
  iterate 9 refine bnd_of rfl ?_
  simp only [allocK_eq]
  refine st_ld2 (K:=fun x H14=>bnd (bldSlR [.slice none 0 0,.slice none 0 0] 2 1 H14 [(0,2,x)]) fun p16=>bnd (appR false 2 48 p16.2 p16.1 (rls m)) fun p17=>law15_CascadeLast.L2 σ K (nds L) (rls m) (.ptr 0 0) (domT L d) (I (m.length:Int)) y13 p17.1 (I 0) p17.2) rfl rfl ?_
  refine bnd_of rfl ?_
  refine app_lit (id:=5) (row:=[.sl 2 0 1 1 (some 1),.sl 3 0 4 1 (some 1)]) (ex:=true) (Nat.le_of_ble_eq_true (by kernel_rfl)) (by kernel_rfl) (by kernel_rfl) rfl (frzR_ok [skSls 1,.sl 4 [.same,.same,.same,.same]] _ (encRL ⟨[sl0],[⟨q.prop,q.kind,q.n,true⟩]⟩) (by kernel_rfl)) (by have:=hF.len; omega) fun x' H' hm' hfz=>?_
  refine last_drop (y5':=.ip (encST ⟨q.prop,q.kind,q.n,true⟩)) (y15':=rls (lastM q m)) ?_ hfz ?_
  ·refine Fz.mono hm' (frzS_ok (.ptr [.same,.same,.same,.same]) _ _ (by kernel_rfl))
  ·exact L2 hni _ 0 _ _ _ rfl (Nat.zero_le _)
 have LL:∀ (f k:Nat) (y13 y15 y16:AV),m.length - k=f→k≤m.length→(∀ r ∈ m.take k,∀ s ∈ r.sets,s.imp=false)→law15_CascadeLast.L0 σ K (nds L) (rls m) (.ptr 0 0) (domT L d) (I (k:Int)) y13 y15 y16 H0:=by
  intro f
  induction f with
  | zero =>
   intro k y13 y15 y16 hf hk hni
   have:k=m.length:=by omega
   subst this
   rw [List.take_length] at hni
   exact fin hni _ _ _ _ rfl
  | succ f ih =>
   intro k y13 y15 y16 hf hk hni
   have hlt:k<m.length:=by omega
   have hlt':(k:Int)<m.length:=by omega
   obtain ⟨r,hr⟩:=get_lt hlt
   have hix:ixaSl 2 (rls m) (I (k:Int))=some (.ip (encRL r)):=ix_map hr
   have f1:ldL false 1 ((encRL r).drop 1)=some (.imm 4 (r.sets.map encST)):=rfl
   refine law15_CascadeLast.L0_step ?_
   simp only [len_rls,bnd_some,b_lss,hlt',decide_true,ifB_lit,if_true]
   have hrs:=(hws r (List.mem_of_getElem? hr)).2
   have LJ:∀ (g j:Nat) (y15 y16:AV),r.sets.length - j=g→j≤r.sets.length→(∀ s ∈ r.sets.take j,s.imp=false)→law15_CascadeLast.L1 σ K (nds L) (rls m) (.ptr 0 0) (domT L d) (I (k:Int)) (I (j:Int)) y15 y16 H0:=by
    intro g
    induction g with
    | zero =>
     intro j y15 y16 hg' hj hni2
     have:j=r.sets.length:=by omega
     subst this
     rw [List.take_length] at hni2
     refine law15_CascadeLast.L1_step ?_
     simp only [hix,bnd_some,sh_ip,ld_ip,f1,len_imm,List.length_map,b_lss,Int.lt_irrefl,decide_false,ifB_lit,Bool.false_eq_true,if_false,b_add]
     rw [wr_succ (by omega)]
     refine ih (k+1) _ _ _ (by omega) (by omega) fun r' hr'=>?_
     rw [List.take_add_one,hr] at hr'
     rcases List.mem_append.1 hr' with h | h
     ·exact hni r' h
     ·simp at h; subst h; exact hni2
    | succ g ihg =>
     intro j y15 y16 hg' hj hni2
     have hjl:j<r.sets.length:=by omega
     have hjl':(j:Int)<r.sets.length:=by omega
     obtain ⟨s,hs⟩:=get_lt hjl
     have hix2:ixaSl 4 (.imm 4 (r.sets.map encST)) (I (j:Int))=some (.ip (encST s)):=ix_map hs
     have l3:ldL false 1 ((encST s).drop 3)=some (Bo s.imp):=rfl
     refine law15_CascadeLast.L1_step ?_
     simp only [hix,bnd_some,sh_ip,ld_ip,f1,len_imm,List.length_map,b_lss,hjl',decide_true,ifB_lit,if_true,hix2,l3]
     cases hsi:s.imp with
     | true=>simp only [if_true]; exact hK _
     | false =>
      simp only [Bool.false_eq_true,if_false,b_add,bnd_some]
      rw [wr_succ (by omega)]
      refine ihg (j+1) _ _ (by omega) (by omega) fun s' hs'=>?_
      rw [List.take_add_one,hs] at hs'
      rcases List.mem_append.1 hs' with h | h
      ·exact hni2 s' h
      ·simp at h; subst h; exact hsi
   exact LJ _ 0 _ _ rfl (Nat.zero_le _) (by simp)
 exact LL _ 0 _ _ _ rfl (Nat.zero_le _) (by simp)
end
theorem v_set {x:AV} (h:ShV tiT.get T_api_Set x):∃ s:ST,x=.agg (encST s):=by
 obtain ⟨ys,e,hs⟩:=v_agg T_api_Set_is h
 obtain ⟨p,y1,e1,w1,h2⟩:=d_int (d_struct T_api_Set_is hs)
 obtain ⟨k,y2,e2,w2,h3⟩:=d_int (d_struct T_api_Value_is h2)
 obtain ⟨n,y3,e3,w3,h4⟩:=d_int h3
 obtain ⟨b,y4,e4,h5⟩:=d_bool h4
 rw [sh_nil h5] at e4
 exact ⟨⟨p,k,n,b⟩,by rw [e,e1,e2,e3,e4]; rfl⟩
theorem CascadeLast_walk {H:Type} {enc:TypeId × Value→H} (W:World) (hsh:W.ShapedOpen Tryz.prog) {v0 v1 v2:Value} {r:Reach} {b0 base:Nat} {spare:Nat→Bool} {held:Bool} {d0 d1 d2:DataW H} {p0 p1 p2:List MemPlace}
  (e0:Value.okWide Tryz.prog W r b0 T_sl_api_Node v0) (h0:DataW.Trod enc Tryz.prog W base spare held T_sl_api_Node v0 d0 p0) (w0:∀ n ∈ d0.weights Tryz.prog T_sl_api_Node,n≤reachBytes)
  (e1:Value.okWide Tryz.prog W r b0 T_sl_api_Rule v1) (h1:DataW.Trod enc Tryz.prog W base spare held T_sl_api_Rule v1 d1 p1) (w1:∀ n ∈ d1.weights Tryz.prog T_sl_api_Rule,n≤reachBytes)
  (e2:Value.okWide Tryz.prog W r b0 T_api_Set v2) (h2:DataW.Trod enc Tryz.prog W base spare held T_api_Set v2 d2 p2) (w2:∀ n ∈ d2.weights Tryz.prog T_api_Set,n≤reachBytes)
  (hk:bulkDs [d0,d1,d2]≤1048576) :
  Calls Tryz.prog n_law15_CascadeLast #[v0,v1,v2] W fun e W'=>e=.returned (.bool true)∧Below W.heap.size W W':=by
 obtain ⟨x0,r0,s0⟩:=read_arg (P:=Tryz.prog) (ti:=tiT.get) (S:=readR) (t:=T_sl_api_Node) (σ:=sigM) tiT_ok readR_closed (inB_mem (by kernel_rfl)) e0 h0 w0
 obtain ⟨x1,r1,s1,k1⟩:=read_argB (P:=Tryz.prog) (ti:=tiT.get) (S:=readR) (t:=T_sl_api_Rule) (σ:=sigM) tiT_ok readR_closed (inB_mem (by kernel_rfl)) e1 h1 w1
 obtain ⟨x2,r2,s2⟩:=read_arg (P:=Tryz.prog) (ti:=tiT.get) (S:=readR) (t:=T_api_Set) (σ:=sigM) tiT_ok readR_closed (inB_mem (by kernel_rfl)) e2 h2 w2
 obtain ⟨a,rfl,ha,_⟩:=v_nodes s0
 obtain ⟨l,rfl,hl⟩:=v_rules s1
 obtain ⟨q,rfl⟩:=v_set s2
 simp only [bulkDs] at hk
 rw [bk_rls] at k1
 obtain ⟨Hf,hg⟩:=CascadeLast_good (hasC sigM_g) ha hl (by show _≤1048576; omega) q
 exact law_of_good (relL3 r0 r1 r2) hg (gMax_ok W hsh sigM_g)
end Go.Proofs.YthdcghnjndhecaaGreat.Ev
