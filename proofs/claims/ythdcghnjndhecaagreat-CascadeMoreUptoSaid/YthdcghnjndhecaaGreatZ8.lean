/- The walks, part 8: the evaluator, the functions, the laws. Conditions: none. -/
import Derived.Shelf.LaysM
import Derived.Shelf.Strings.Search1
import Derived.Shelf.Strings.Search2
import Derived.Shelf.Strings.Search3
import Derived.Shelf.Strings.Shaped
import Derived.JoinedCond
import Derived.SizedLaws
import Derived.Test.YthdcghnjndhecaaGreatZ7
namespace Go.Proofs.YthdcghnjndhecaaGreat.Ev
open Go.Shelf Go.Proofs
def laysM144_ren:Ren :=
{
 f:=fun x =>
  match x with
  | 144=>196
  | 143=>200
  | 219=>203
  | 217=>204
  | 225=>205
  | 224=>206
  | 267=>207
  | 266=>208
  | 314=>209
  | n=>n,
 t:=fun x =>
  match x with
  | 9=>9
  | 4=>4
  | 3=>3
  | 5=>5
  | 46=>183
  | 146=>259
  | 51=>178
  | n=>n,
 g:=fun x =>
  match x with
  | 1=>0
  | n=>n }
theorem laysM144:LaysM.n144 Tryz.prog laysM144_ren :=
{ mixed:=by kernel_rfl,f143:=Eq.trans Tryz.func200 (congrArg some (Eq.refl (Body.n143 laysM144_ren))),
  f144:=Eq.trans Tryz.func196 (congrArg some (Eq.refl (Body.n144 laysM144_ren))),
  f217:=Eq.trans Tryz.func204 (congrArg some (Eq.refl (Body.n217 laysM144_ren))),
  f219:=Eq.trans Tryz.func203 (congrArg some (Eq.refl (Body.n219 laysM144_ren))),
  f224:=Eq.trans Tryz.func206 (congrArg some (Eq.refl (Body.n224 laysM144_ren))),
  f225:=Eq.trans Tryz.func205 (congrArg some (Eq.refl (Body.n225 laysM144_ren))),
  f266:=Eq.trans Tryz.func208 (congrArg some (Eq.refl (Body.n266 laysM144_ren))),
  f267:=Eq.trans Tryz.func207 (congrArg some (Eq.refl (Body.n267 laysM144_ren))),
  f314:=Eq.trans Tryz.func209 (congrArg some (Eq.refl (Body.n314 laysM144_ren))),t3:=Tryz.underlying3,
  a3:=Tryz.isAgg3,z3:=Tryz.sizeOf3,v3:=Tryz.zeroValue3,t4:=Tryz.underlying4,a4:=Tryz.isAgg4,
  z4:=Tryz.sizeOf4,v4:=Tryz.zeroValue4,t5:=Tryz.underlying5,a5:=Tryz.isAgg5,z5:=Tryz.sizeOf5,
  v5:=Tryz.zeroValue5,t9:=Tryz.underlying9,a9:=Tryz.isAgg9,z9:=Tryz.sizeOf9,v9:=Tryz.zeroValue9,
  t46:=Tryz.underlying183,a46:=Tryz.isAgg183,z46:=Tryz.sizeOf183,v46:=Tryz.zeroValue183,
  t51:=Tryz.underlying178,a51:=Tryz.isAgg178,z51:=Tryz.sizeOf178,v51:=Tryz.zeroValue178,
  t146:=Tryz.underlying259,a146:=Tryz.isAgg259,z146:=Tryz.sizeOf259,v146:=Tryz.zeroValue259,
  g1:=by kernel_rfl,i3:=by kernel_rfl,
  i4:=by kernel_rfl,i5:=by kernel_rfl,
  i9:=by kernel_rfl,
  i46:=by kernel_rfl,
  i51:=by kernel_rfl,
  i146:=by kernel_rfl,
  m1:=by kernel_rfl,
  s1_3:=fun w h=>Go.Proofs.cell_of_shapedOpen_int h (zero:=#[Go.Value.int Go.IntKind.i64 0]) (t:=3) (of_decide_eq_true (by kernel_rfl)) (by kernel_rfl) rfl (by kernel_rfl) (by kernel_rfl) Tryz.underlying3 }
def gMax:Nat:=laysM144_ren.g 1
theorem hasC {σ:Sig} (hg:σ.g=some gMax):HasC σ:=by
 intro s t H hs
 refine ⟨⟨_,Tryz.func196,by kernel_rfl,by kernel_rfl⟩,fun B w0 E w vs hσ hst hx=>?_⟩
 obtain ⟨_,m,hm⟩:=hst.glNow gMax (by rw [hσ]; exact hg)
 have hl:=hx.len
 obtain ⟨v0,v1,rfl⟩:∃ v0 v1,vs=#[v0,v1]:=by
  obtain ⟨l⟩:=vs
  match l,hl with
  | [a,b],_=>exact ⟨a,b,rfl⟩
 have r0:=hx.at_ 0 _ v0 rfl (by simp)
 have r1:=hx.at_ 1 _ v1 rfl (by simp)
 cases r0
 cases r1
 refine (Any.strings_Contains (ρ:=laysM144_ren) { laysM144 with } s t m w hs hm).mono fun e w' he=>?_
 obtain ⟨rfl,rfl⟩:=he
 exact ⟨E,_,rfl,.refl E,hst,.lit _⟩
theorem gMax_ok (W:World) (h:W.ShapedOpen Tryz.prog) {σ:Sig} (hg:σ.g=some gMax):∀ g,σ.g=some g→∃ m:Int,W.cell? ⟨g,0,none⟩=some (.int .i64 m):=by
 intro g hg'
 rw [hg] at hg'
 cases hg'
 exact laysM144.s1_3 W h
end Go.Proofs.YthdcghnjndhecaaGreat.Ev
namespace Go.Proofs.YthdcghnjndhecaaGreat.Ev
section
variable {H:Type} {enc:TypeId × Value→H}
theorem returnsInHanded_of_cond_shaped {a:Assume} {C:Checked} {os:Os} {f:FuncId} {fn:Func} {s:OpenSpec} {k:(H:Type)→List (DataW H)→Bool} (hk:s.cond=some k) {F:Stop.Interp} {conds:List PathCond} {apart fresh handsOn again:Bool}
  (own:ownKnob C.prog.godebug=none) (started:os.Started) (noInit:C.prog.inits.idxOf? f=none) (hfn:C.prog.funcs[f]?=some fn)
  (witness:∃ (w:World) (tape:Tape) (i:Input),w.os=os∧(w.forCall tape i).Shaped C.prog∧i.vars=[]∧Input.okWide C.prog (w.forCall tape i) .any w.heap.size f i ∧
   s.pre6 enc C.prog fn conds apart (w.forCall tape i).memory i.args∧a.holds C.prog (lone (Frame.enter C.prog f i.args .normal) [] (w.forCall tape i)))
  (contract:∀ (W:World) (base:Nat) (args:Array Value) (ds gs:List (DataW H)) (before:List MemPlace),
   (∀ (j:Nat) t v,fn.params[j]?=some t→args[j]?=some v→Value.okWide C.prog W .any base t v) →
   DataW.Whole enc C.prog fn.params.toList s.vars apart W args.toList ds gs before →
   conds.all (PathCond.test C.prog ⟨fn.params.toList,ds,s.bare.plain.varTypes C.prog,gs⟩)=true→k H (ds++gs)=true →
   (DataW.weightsEach C.prog (fn.params.toList++s.bare.plain.varTypes C.prog) (ds++gs)).all (·≤reachBytes)=true →
   W.ShapedOpen C.prog →
   a.holds C.prog (lone (Frame.enter C.prog f args .normal) [] W) →
   Calls C.prog f args W fun e W'=>∃ v,e=.returned v∧(s.at F).post enc C.prog fn apart fresh handsOn again W args v W') :
  ReturnsInHanded a C os f .any (s.pre6 enc C.prog fn conds apart) ((s.at F).post enc C.prog fn apart fresh handsOn again):=by
 refine returnsInHanded_of_calls own started noInit witness ?_
 intro w tape i _ hsh _ hok hpre hholds
 obtain ⟨_,_,_,fn',hfn',_,_,_,_,hval⟩:=hok
 have e:fn'=fn:=Option.some.inj (hfn'.symm.trans hfn)
 subst e
 obtain ⟨ds,gs,before,hw,hc,hkk⟩:=(OpenSpec.pre_some hk conds apart _ _).1 hpre.1
 have hw':=DataW.Whole.of_heap (w':=w.forCall tape i) (by rfl) hw
 refine (contract (w.forCall tape i) w.heap.size i.args ds gs before hval hw' hc hkk (hpre.2.weights hw) hsh hholds).mono fun e W' ⟨v,he,hp⟩=>?_
 subst he
 exact ChangeSpec.post_blind hp
end
end Go.Proofs.YthdcghnjndhecaaGreat.Ev
namespace Go.Proofs.YthdcghnjndhecaaGreat.Ev
open Go.RowKit
set_option linter.unusedVariables false
set_option linter.unusedSimpArgs false
set_option maxRecDepth 100000
variable {σ:Sig}
theorem NdSm.low {n:Nd} (h:NdSm n):SmN (lowN n):=by
 have r:reachBytes=140737488351232:=rfl
 refine ⟨by have:=h.classes; show n.classes.length≤_; omega,by have:=h.attrs; show (n.attrs.map lowPr).length≤_; rw [List.length_map]; omega,fun p hp=>?_⟩
 obtain ⟨q,hq,rfl⟩:=List.mem_map.1 hp
 have:=(h.at' q hq).2
 show q.2.data.size<_
 omega
theorem TreeOk.smN {L:List Nd} {d:List Nat} (h:TreeOk L d):∀ e,e<L.length→SmN (lowN (ndAt L e)):=by
 intro e he
 refine (h.sm _ ?_).low
 unfold ndAt
 rw [List.getD_eq_getElem?_getD,List.getElem?_eq_getElem he]
 exact List.getElem_mem _
theorem TreeOk.mc {L:List Nd} {d:List Nat} (h:TreeOk L d) (hC:HasC σ):McT σ L d:=⟨hC,h.hB,by have:=h.len; omega,h.smN⟩
def sigM:Sig:=⟨fun _=>0,fun _=>false,fun _=>⟨#[]⟩,some gMax⟩
theorem sigM_g:sigM.g=some gMax:=rfl
theorem callK_drop {P:Program} {σ:Sig} {f:Nat} {xs ys:List AV} {H:Hp} {K:AV→Hp→Prop} (hx:FzL H ys xs) (h:callK P σ f xs (Hp.bare H.n) K):callK P σ f ys H K:=by
 obtain ⟨r,H1,hg,hk⟩:=h
 exact ⟨r,H1,Good.conv (Wk.frz (H2:=Hp.bare H.n) (Hd:=H) rfl rfl (fun id k hk=>⟨hk,by simp⟩) (fun id k2 hk=>by simp at hk) hx.t) hg,hk⟩
theorem sls_ws {l:List Sl} (hl:slsWf Lmax l) (hf:FitL 11 l) (hb:bkLL (l.map encSl)≤NB):WsOk l:=by
 have hll:l.length≤bkLL (l.map encSl):=len_bk fun s _=>by rw [bk_sl]; omega
 refine ⟨by have hN:NB=1048576:=rfl; omega,fun s hs=>?_,hl.2,hf⟩
 have h1:=mem_bk (f:=encSl) hs
 have hN:NB=1048576:=rfl
 refine sel_bulk ⟨by show 1≤Lmax; decide,fun s' h=>by rw [List.mem_singleton.1 h]; exact hl.2 s hs⟩ (fun s' h=>by rw [List.mem_singleton.1 h]; exact hf s hs) ?_
 simp only [List.map_cons,List.map_nil,bkLL]
 omega
theorem rls_ws {m:List RL} (hm:rlsWf m) (hF:Fit12 m) (hb:bkLL (m.map encRL)≤NB):∀ r ∈ m,WsOk r.sels∧r.sets.length≤30:=fun r hr =>
 ⟨⟨by have:=hF.sels r hr; omega,fun s hs=>(rules_ok hm hF hb r hr s hs).2.2,fun s hs=>(rules_ok hm hF hb r hr s hs).1,fun s hs=>hF.fit r hr s hs s (by simp)⟩,hF.sets r hr⟩
theorem eq16 {o:List Int} (h:o.length=16):eqAggR (List.replicate 16 (.int .i64)) .neq (.agg (o.map I)) (.agg (o.map I))=some (Bo false):=by
 match o,h with
 | [a0,a1,a2,a3,a4,a5,a6,a7,a8,a9,a10,a11,a12,a13,a14,a15],_=>simp [eqAggR,isAggA,AV.cells,eqC,tfB,List.replicate]
theorem foldl_ok {L:List Nd} {e:Int}:∀ {m:List RL} {s:Wn},s.Ok→(m.foldl (ruleW L e) s).Ok
 | [],s,h=>h
 | r::m,s,h=>by
  rw [List.foldl_cons]
  refine foldl_ok ?_
  unfold ruleW
  split
  ·have:∀ (q:List ST) (s:Wn),s.Ok→(q.foldl (setW (bestW L e r.sels (0,false)).1) s).Ok:=by
    intro q
    induction q with
    | nil=>intro s h; exact h
    | cons x q ih=>intro s h; exact ih _ (setW_ok h)
   exact this _ _ h
  ·exact h
theorem winW_len (L:List Nd) (e:Int) (m:List RL):(winW L e m).o.length=16:=(foldl_ok (s:=wn0) ⟨rfl,rfl,rfl⟩).o
end Go.Proofs.YthdcghnjndhecaaGreat.Ev
namespace Go.Proofs.YthdcghnjndhecaaGreat.Ev
set_option linter.unusedVariables false
set_option linter.unusedSimpArgs false
set_option maxRecDepth 100000
set_option maxHeartbeats 4000000
variable {σ:Sig}
def frzO (k:Sk) (o:Option (AV × Hp)):Option AV:=match o with
 | some (r,H)=>frzS H k r
 | none=>none
theorem good_frz {f:Nat} {xs:List AV} {L d:Nat} {k:Sk} {y:AV} (hx:noIds xs=true) (h:frzO k (evF (CZ σ) fnT.get noOv L d f xs Hp.empty)=some y) (H:Hp):Good Tryz.prog σ f xs H y H:=by
 cases he:evF (CZ σ) fnT.get noOv L d f xs Hp.empty with
 | none=>rw [he] at h; cases h
 | some p =>
  obtain ⟨r,H'⟩:=p
  have hg:=evF_ok (CZ σ) mixed noOv_ok fnT_ok L d f xs Hp.empty r H' he
  rw [he] at h
  exact hg.frzR hx (frzS_ok _ _ _ h) H
theorem Fz.tupL {H:Hp} {xs ys:List AV} (h:FzL H xs ys):Fz H (.tup xs) (.tup ys):=by
 have hget:=h.get
 refine .tup hget.1 fun j x y hx hy=>?_
 obtain ⟨x',hx',hf⟩:=hget.2 j y hy
 rw [hx] at hx'
 cases hx'
 exact hf
def frzOT (ks:List Sk) (o:Option (AV × Hp)):Option (List AV):=match o with
 | some (.tup xs,H)=>frzR H ks xs
 | _=>none
theorem good_frzT {f:Nat} {xs:List AV} {L d:Nat} {ks:List Sk} {ys:List AV} (hx:noIds xs=true) (h:frzOT ks (evF (CZ σ) fnT.get noOv L d f xs Hp.empty)=some ys) (H:Hp):Good Tryz.prog σ f xs H (.tup ys) H:=by
 cases he:evF (CZ σ) fnT.get noOv L d f xs Hp.empty with
 | none=>rw [he] at h; cases h
 | some p =>
  obtain ⟨r,H'⟩:=p
  have hg:=evF_ok (CZ σ) mixed noOv_ok fnT_ok L d f xs Hp.empty r H' he
  rw [he] at h
  cases r<;>first | (cases h; done) | skip
  exact hg.frzR hx (Fz.tupL (frzR_ok _ _ _ h)) H
def byt (l:List Int):AV:=.imm 1 (l.map fun n=>[.lit (.int .u8 n)])
def pts (l:List Int):AV:=.imm 1 (l.map fun n=>[I n])
theorem noId_byt (l:List Int):noId (byt l)=true:=by unfold byt; simp only [noId]; exact noIds_map _ (fun _=>rfl) l
def tk (k:Int) (s:ByteArray) (n:Int):List AV:=[I k,.lit (.string s),I n,Bo false,I 0]
def tks (l:List (Int × ByteArray × Int)):AV:=.imm 5 (l.map fun p=>tk p.1 p.2.1 p.2.2)
def sA:Sl:=[.mk 0 (.mk ⟨#[97]⟩ [] [] [] [])]
def alR:List RL:=[⟨[sA],[⟨4,2,1000,false⟩]⟩,⟨[sA],[⟨4,2,2000,false⟩]⟩]
def alT:List Int:=[97,123,119,105,100,116,104,58,49,112,120,125,97,123,119,105,100,116,104,58,50,112,120,125]
def alP:List (Int × ByteArray × Int):=[(1,⟨#[97]⟩,0)]
def alD (n:Int):List (Int × ByteArray × Int):=[(1,⟨#[119,105,100,116,104]⟩,0),(11,emp,0),(8,⟨#[112,120]⟩,n)]
def alK:List (Int × ByteArray × Int):=alP++(14,emp,0)::alD 1000++(15,emp,0)::alP++(14,emp,0)::alD 2000++[(15,emp,0)]
def skT:Sk:=.sl 5 [.same,.same,.same,.same,.same]
theorem ev_prep (H:Hp):Good Tryz.prog σ n_ref1_Prepare [byt alT] H (pts alT) H :=
 good_frz (k:=.sl 1 [.same]) (L:=1000) (d:=60) rfl (by kernel_rfl) H
theorem ev_tok (H:Hp):Good Tryz.prog σ n_ref1_Tokens [pts alT] H (tks alK) H :=
 good_frz (k:=skT) (L:=1000) (d:=60) rfl (by kernel_rfl) H
theorem ev_rul (H:Hp):Good Tryz.prog σ n_ref1_Rules [tks alK] H (.imm 2 [[tks alP,tks (alD 1000)],[tks alP,tks (alD 2000)]]) H :=
 good_frz (k:=.sl 2 [skT,skT]) (L:=1000) (d:=60) rfl (by kernel_rfl) H
theorem ev_sel (H:Hp):Good Tryz.prog σ n_ref1_Selectors [tks alP] H (.tup [sls [sA],Bo true]) H :=
 good_frzT (ks:=[skSls 1,.same]) (L:=1000) (d:=60) rfl (by kernel_rfl) H
theorem ev_dec1 (H:Hp):Good Tryz.prog σ n_ref1_Decls [tks (alD 1000)] H (.imm 3 [[.lit (.string ⟨#[119,105,100,116,104]⟩),tks [(8,⟨#[112,120]⟩,1000)],Bo false]]) H :=
 good_frz (k:=.sl 3 [.same,skT,.same]) (L:=1000) (d:=60) rfl (by kernel_rfl) H
theorem ev_dec2 (H:Hp):Good Tryz.prog σ n_ref1_Decls [tks (alD 2000)] H (.imm 3 [[.lit (.string ⟨#[119,105,100,116,104]⟩),tks [(8,⟨#[112,120]⟩,2000)],Bo false]]) H :=
 good_frz (k:=.sl 3 [.same,skT,.same]) (L:=1000) (d:=60) rfl (by kernel_rfl) H
theorem ev_set1 (H:Hp):Good Tryz.prog σ n_ref1_Sets [.imm 3 [[.lit (.string ⟨#[119,105,100,116,104]⟩),tks [(8,⟨#[112,120]⟩,1000)],Bo false]]] H (.imm 4 [encST ⟨4,2,1000,false⟩]) H :=
 good_frz (k:=.sl 4 [.same,.same,.same,.same]) (L:=1000) (d:=60) rfl (by kernel_rfl) H
theorem ev_set2 (H:Hp):Good Tryz.prog σ n_ref1_Sets [.imm 3 [[.lit (.string ⟨#[119,105,100,116,104]⟩),tks [(8,⟨#[112,120]⟩,2000)],Bo false]]] H (.imm 4 [encST ⟨4,2,2000,false⟩]) H :=
 good_frz (k:=.sl 4 [.same,.same,.same,.same]) (L:=1000) (d:=60) rfl (by kernel_rfl) H
theorem sheet_al (H:Hp):Good Tryz.prog σ n_ref1_Sheet [byt alT] H (rls alR) H:=by
 suffices h:∃ r H1,Good Tryz.prog σ n_ref1_Sheet [byt alT] Hp.empty r H1∧Fz H1 r (rls alR) by
  obtain ⟨r,H1,hg,hf⟩:=h
  exact hg.frzR (by simp [noIds,noId_byt]) hf H
 refine ref1_Sheet.run ?_
 refine bnd_of rfl ?_
 refine bnd_of rfl ?_
 simp only [ifB_lit,Bool.false_eq_true,if_false]
 refine callK_of (ev_prep _) (callK_of (ev_tok _) (callK_of (ev_rul _) ?_))
 refine ref1_Sheet.L0_step ?_
 iterate 2 refine bnd_of rfl ?_
 simp only [ifB_lit,if_true]
 iterate 3 refine bnd_of rfl ?_
 refine callK_of (ev_sel _) ?_
 iterate 2 refine bnd_of rfl ?_
 simp only [ifB_lit,if_true]
 iterate 3 refine bnd_of rfl ?_
 refine callK_of (ev_dec1 _) (callK_of (ev_set1 _) ?_)
 iterate 3 refine bnd_of rfl ?_
 refine ref1_Sheet.J1_step ?_
 refine bnd_of rfl ?_
 refine ref1_Sheet.L0_step ?_
 iterate 2 refine bnd_of rfl ?_
 simp only [ifB_lit,if_true]
 iterate 3 refine bnd_of rfl ?_
 refine callK_of (ev_sel _) ?_
 iterate 2 refine bnd_of rfl ?_
 simp only [ifB_lit,if_true]
 iterate 3 refine bnd_of rfl ?_
 refine callK_of (ev_dec2 _) (callK_of (ev_set2 _) ?_)
 iterate 3 refine bnd_of rfl ?_
 refine ref1_Sheet.J1_step ?_
 refine bnd_of rfl ?_
 refine ref1_Sheet.L0_step ?_
 iterate 2 refine bnd_of rfl ?_
 simp only [ifB_lit,Bool.false_eq_true,if_false]
 exact frzS_ok (.sl 2 [.same,.same]) _ _ (by kernel_rfl)
end Go.Proofs.YthdcghnjndhecaaGreat.Ev
namespace Go.Proofs.YthdcghnjndhecaaGreat.Ev
set_option linter.unusedVariables false
set_option linter.unusedSimpArgs false
set_option maxRecDepth 100000
variable {σ:Sig}
def alL:List Nd:=[⟨-1,⟨#[97]⟩,emp,[],[]⟩]
theorem alB:Built alL alL.length [0]:=Built.first (by decide) rfl
theorem alW:∀ n ∈ alL,NdWf n:=by
 intro n hn
 rw [List.mem_singleton.1 hn]
 exact ⟨by unfold i64; decide,by decide,by decide,by decide,by intro p hp; cases hp⟩
theorem alSm:∀ e,e<alL.length→SmN (lowN (ndAt alL e)):=by
 intro e he
 have:e=0:=by simp [alL] at he; omega
 subst this
 exact ⟨by decide,by decide,by intro p hp; cases hp⟩
theorem alM (hC:HasC σ):McT σ alL [0]:=⟨hC,alB,by decide,alSm⟩
theorem sA_wf:slsWf Lmax [sA]:=by
 refine ⟨by decide,fun s hs=>?_⟩
 rw [List.mem_singleton.1 hs]
 refine ⟨by decide,fun p hp=>?_⟩
 rw [List.mem_singleton.1 hp,Pt.wf_iff]
 exact ⟨by unfold i64; decide,by decide,⟨by decide,fun s h=>by cases h⟩,⟨by decide,fun s h=>by cases h⟩,by decide,(fun s h=>by cases h),by decide,fun q hq=>by cases hq⟩
theorem sA_fit:FitL 11 [sA]:=by
 intro s hs
 rw [List.mem_singleton.1 hs]
 refine ⟨by decide,fun p hp=>?_⟩
 rw [List.mem_singleton.1 hp]
 exact ⟨by unfold FitC; decide,fun q hq=>by cases hq⟩
theorem alR_ws:∀ r ∈ alR,WsOk r.sels∧r.sets.length≤30:=by
 have h:WsOk [sA]:=sls_ws sA_wf sA_fit (by decide)
 intro r hr
 simp only [alR,List.mem_cons,List.not_mem_nil,or_false] at hr
 rcases hr with rfl | rfl<;>exact ⟨h,by decide⟩
theorem al_win:(winW alL 0 alR).o=[0,0,0,0,0,0,0,0,2,2000,0,0,0,0,0,0]:=by kernel_rfl
theorem alive15 (hC:HasC σ) (H:Hp):Good Tryz.prog σ n_law15_alive [] H (Bo true) H:=by
 refine good_by (fun K hK=>law15_alive.run ?_) rfl rfl H
 refine bnd_of rfl ?_
 refine bnd_of rfl ?_
 refine callK_drop (xs:=[byt alT]) (.cons (frzS_ok (.sl 1 [.same]) _ _ (by kernel_rfl)) .nil) ?_
 refine callK_of (sheet_al _) ?_
 refine bnd_of rfl ?_
 refine bnd_of rfl ?_
 refine callK_of (Good.drop (fun H=>domNew_ok alB alW (by decide) H) (.cons (frzS_ok skNds _ _ (by kernel_rfl)) .nil)) ?_
 simp only [x_tup,List.getElem?_cons_zero,List.getElem?_cons_succ,bnd_some]
 refine callK_of (CWinners_ok (alM hC) alR_ws (by decide) 0 _) ?_
 rw [al_win]
 simp only [allocK_eq]
 iterate 5 refine bnd_of rfl ?_
 exact hK _
end Go.Proofs.YthdcghnjndhecaaGreat.Ev
namespace Go.Proofs.YthdcghnjndhecaaGreat.Ev
open Go.RowKit
set_option linter.unusedVariables false
set_option linter.unusedSimpArgs false
set_option maxRecDepth 100000
variable {σ:Sig}
section
end
end Go.Proofs.YthdcghnjndhecaaGreat.Ev
namespace Go.Proofs.YthdcghnjndhecaaGreat.Ev
set_option linter.unusedVariables false
set_option linter.unusedSimpArgs false
set_option maxRecDepth 100000
variable {σ:Sig}
def anyW (L:List Nd) (e:Int) (l:List Sl):Bool:=l.any fun s=>selB L 11 s e
section
attribute [local irreducible] ref9_Tree_Any.L0
theorem RAnyS_ok {L:List Nd} {d:List Nat} (M:McT σ L d) {l:List Sl} (hl:WsOk l) (e:Int) (H:Hp):Good Tryz.prog σ n_ref9_Tree_Any [refT L d,I e,sls l] H (Bo (anyW L e l)) H:=by
 refine good_by (fun K hK=>ref9_Tree_Any.run ?_) (by simp [noIds,noId,noId_refT,noId_sls]) rfl H
 have hlen:=hl.len
 have L0:∀ (f k:Nat) (H:Hp),l.length - k=f→k≤l.length→(∀ H,K (Bo (anyW L e (l.drop k))) H)→ref9_Tree_Any.L0 σ K (refT L d) (I e) (sls l) (I (k:Int)) H:=by
  intro f
  induction f with
  | zero =>
   intro k H hf hk hK
   have:k=l.length:=by omega
   subst this
   refine ref9_Tree_Any.L0_step ?_
   simp only [len_sls,bnd_some,b_lss,Int.lt_irrefl,decide_false,ifB_lit,Bool.false_eq_true,if_false]
   simpa [anyW] using hK H
  | succ f ih =>
   intro k H hf hk hK
   have hlt:k<l.length:=by omega
   have hlt':(k:Int)<l.length:=by omega
   obtain ⟨s,hs⟩:=get_lt hlt
   have hsm:=List.mem_of_getElem? hs
   have hix:ixaSl 1 (sls l) (I (k:Int))=some (.ip (encSl s)):=ix_map hs
   have ha:anyW L e (l.drop k)=(selB L 11 s e||anyW L e (l.drop (k+1))):=by unfold anyW; rw [drop_get hs,List.any_cons]
   rw [ha] at hK
   refine ref9_Tree_Any.L0_step ?_
   simp only [len_sls,bnd_some,b_lss,hlt',decide_true,ifB_lit,if_true,hix,ld_ip,ldL_sl]
   refine callK_of (rTopSel_ok M (f:=10) (hl.ok s hsm).1 (hl.ok s hsm).2 _ _) ?_
   simp only [ifB_lit]
   cases hb:selB L 11 s e with
   | true=>rw [hb] at hK; simpa using hK H
   | false =>
    rw [hb] at hK
    simp only [Bool.false_eq_true,if_false,b_add,bnd_some]
    rw [wr_succ (by omega)]
    exact ih (k+1) H (by omega) (by omega) (by simpa using hK)
 exact L0 _ 0 _ rfl (Nat.zero_le _) (by simpa using hK)
end
theorem best_snd {L:List Nd} {e:Int}:∀ {l:List Sl} {a:Int × Bool},(bestW L e l a).2=(a.2||anyW L e l)
 | [],a=>by simp [bestW,anyW]
 | s::r,a=>by
  rw [bestW,best_snd]
  unfold anyW
  rw [List.any_cons]
  cases selB L 11 s e<;>simp
end Go.Proofs.YthdcghnjndhecaaGreat.Ev
namespace Go.Proofs.YthdcghnjndhecaaGreat.Ev
open Go.RowKit
set_option linter.unusedVariables false
set_option linter.unusedSimpArgs false
set_option maxRecDepth 100000
variable {σ:Sig}
def moreM (l:List RL) (x:RL) (k:Nat):List RL:=l.take k++x::l.drop k
theorem more_win {L:List Nd} {e:Int} {l:List RL} {x:RL} {k:Nat} (h:anyW L e x.sels=false∨x.sets=[]):winW L e (moreM l x k)=winW L e l:=by
 have hx:∀ s,ruleW L e s x=s:=by
  intro s
  unfold ruleW
  rw [best_snd,Bool.false_or]
  rcases h with h | h
  ·rw [h]; rfl
  ·rw [h]; simp
 unfold winW moreM
 rw [List.foldl_append,List.foldl_cons,hx,← List.foldl_append,List.take_append_drop]
theorem more_mem {l:List RL} {x:RL} {k:Nat} {r:RL} (h:r ∈ l):r ∈ moreM l x k:=by
 rw [← List.take_append_drop k l] at h
 unfold moreM
 rcases List.mem_append.1 h with h | h
 ·exact List.mem_append.2 (.inl h)
 ·exact List.mem_append.2 (.inr (List.mem_cons.2 (.inr h)))
theorem more_of {l:List RL} {x:RL} {k:Nat} {r:RL} (h:r ∈ moreM l x k):r=x∨r ∈ l:=by
 unfold moreM at h
 rcases List.mem_append.1 h with h | h
 ·exact .inr (List.mem_of_mem_take h)
 ·rcases List.mem_cons.1 h with h | h
  ·exact .inl h
  ·exact .inr (List.mem_of_mem_drop h)
theorem more_wf {l:List RL} {x:RL} {k:Nat} (hl:rlsWf l) (hx:RlWf x) (hn:l.length≤29):rlsWf (moreM l x k):=by
 refine ⟨?_,fun r hr=>?_⟩
 ·have:(moreM l x k).length≤30:=by unfold moreM; simp only [List.length_append,List.length_cons,List.length_take,List.length_drop]; omega
  exact Nat.le_trans this (by decide)
 ·rcases more_of hr with rfl | hr
  ·exact hx
  ·exact hl.2 r hr
theorem bkLL_app:∀ (a b:List (List AV)),bkLL (a++b)=bkLL a+bkLL b
 | [],b=>by simp [bkLL]
 | x::a,b=>by rw [List.cons_append,bkLL,bkLL,bkLL_app a b]; omega
theorem more_bk (l:List RL) (x:RL) (k:Nat):bkLL ((moreM l x k).map encRL)=bkLL (l.map encRL)+bkL (encRL x):=by
 have h:bkLL (l.map encRL)=bkLL ((l.take k).map encRL)+bkLL ((l.drop k).map encRL):=by
  rw [← bkLL_app,← List.map_append,List.take_append_drop]
 unfold moreM
 rw [List.map_append,List.map_cons,bkLL_app,bkLL,h]
 omega
theorem sl_take {l:List RL} {k:Nat} (h:k≤l.length):slSl 2 (rls l) none (some (I (k:Int))) none=some (rls (l.take k)):=by
 simp [slSl,intO,intA,slSl0,rls,boundsA,boundA,beqN,h,List.map_take]
theorem sl_drop {l:List RL} {k:Nat} (h:k≤l.length):slSl 2 (rls l) (some (I (k:Int))) none none=some (rls (l.drop k)):=by
 simp [slSl,intO,intA,slSl0,rls,boundsA,boundA,beqN,h,List.map_drop]
 rw [List.take_of_length_le (by simp)]
theorem noIdss_rls (l:List RL):noIdss (l.map encRL)=true:=noIds_map encRL (fun r=>by simp only [encRL,noIds,noId,noId_sls,Bool.true_and,Bool.and_true]; exact noIds_map encST (fun _=>rfl) r.sets) l
theorem rls_one (l:List RL):(l.map encRL).flatten.all AV.one=true:=by
 rw [List.all_eq_true]
 intro x hx
 obtain ⟨r,hr,hx⟩:=List.mem_flatten.1 hx
 obtain ⟨q,_,rfl⟩:=List.mem_map.1 hr
 simp only [encRL,List.mem_cons,List.not_mem_nil,or_false] at hx
 rcases hx with rfl | rfl<;>rfl
theorem rls_sz (l:List RL):∀ r ∈ l.map encRL,r.length=2:=by
 intro r hr
 obtain ⟨q,_,rfl⟩:=List.mem_map.1 hr
 rfl
theorem src_rls {H:Hp} (l:List RL):srcA H 2 (rls l)=some ((l.map encRL).length,(l.map encRL).flatten):=src_imm
section
attribute [local irreducible] law15_CascadeMore.L0
theorem more_drop {K:AV→Hp→Prop} {y0 y1 y6 y6' y10 y10' y12 y13 y15:AV} {H:Hp} (h6:Fz H y6 y6') (h10:Fz H y10 y10') (h:law15_CascadeMore.L0 σ K y0 y1 y6' y10' y12 y13 y15 (Hp.bare H.n)):law15_CascadeMore.L0 σ K y0 y1 y6 y10 y12 y13 y15 H :=
 by unfold law15_CascadeMore.L0 at h ⊢; exact fun js=>LoopP.drop (.same (.same (.same (.same (.same (.same (.fz h6 (.same (.same (.same (.fz h10 (FzTr _)))))))))))) (h js)
theorem CascadeMore_good (hC:HasC σ) {L:List Nd} (hW:∀ n ∈ L,NdWf n) {l:List RL} (hl:rlsWf l) {x:RL} (hx:RlWf x) (hb:bkLL (l.map encRL)+bkL (encRL x)≤NB) (k:Int):∃ Hf,Good Tryz.prog σ n_law15_CascadeMore [nds L,rls l,.agg (encRL x),I k] Hp.empty (Bo true) Hf:=by
 have hxn:noIds (encRL x)=true:=by simp only [encRL,noIds,noId,noId_sls,Bool.true_and,Bool.and_true]; exact noIds_map encST (fun _=>rfl) x.sets
 refine ⟨Hp.empty,good_by (fun K hK=>law15_CascadeMore.run ?_) (by simp [noIds,noId,hxn]) rfl _⟩
 simp only [boxK_agg]
 have e0:Hp.empty.n=0:=rfl
 rw [e0]
 refine callK_of (alive15 hC _) ?_
 obtain ⟨H0,hH0⟩:∃ H0,H0=Hp.empty.new (.cells (encRL x) true):=⟨_,rfl⟩
 have g0:H0.get 0=some (.cells (encRL x) true):=by rw [hH0]; simp [Hp.empty]
 have n0:H0.n=1:=by rw [hH0]; rfl
 rw [← hH0]
 simp only [len_rls,bnd_some,b_gtr,b_lss,ifB_lit,decide_eq_true_eq]
 split
 ·exact hK _
 rename_i hk0
 split
 ·exact hK _
 rename_i hkl
 split
 ·exact hK _
 rename_i h29
 obtain ⟨j,rfl⟩:∃ j:Nat,k=(j:Int):=⟨k.toNat,by omega⟩
 have hj:j≤l.length:=by omega
 simp only [sl_take hj,sl_drop hj,bnd_some]
 refine bnd_app Gs.nil rfl (src_rls _) (rls_sz _) (rls_one _) (by simp; omega) (by simp; omega) fun x1 H1 g1 f1=>?_
 have g10:H1.get 0=some (.cells (encRL x) true):=by rw [f1.same 0 (by omega) (fun h=>h)]; exact g0
 have no1:¬ own x1 0:=fun h=>by rcases f1.mine 0 h with h | h; exact h; omega
 have n1:1≤H1.n:=by have:=f1.grow; omega
 have l1:ldA true 2 H1 (.ptr 0 0)=some (.agg (encRL x)):=by rw [ld_ptr,g10]; rfl
 rw [List.nil_append] at g1
 simp only [kp_ptr,g10,g0,true_and,l1,bnd_some]
 rw [bld_one (z:=[.slice none 0 0,.slice none 0 0]) (sz:=2) (x:=.agg (encRL x)) rfl rfl,bnd_some]
 obtain ⟨H2,hH2⟩:∃ H2,H2=H1.new (.cells (AV.agg (encRL x)).cells true):=⟨_,rfl⟩
 have g20:H2.get 0=some (.cells (encRL x) true):=by
  have:(0:Nat)≠H1.n:=by omega
  rw [hH2]; simp [this,g10]
 have g2:Gs 2 H2 x1 ((l.take j).map encRL):=g1.keep (fun i hi=>by
  have:=g1.lt hi
  have:i≠H1.n:=by omega
  rw [hH2]; simp [this]) (by rw [hH2]; simp)
 have s2:srcA H2 2 (.sl H1.n 0 2 1 (some 1))=some (([encRL x]:List (List AV)).length,([encRL x]:List (List AV)).flatten):=by rw [hH2]; exact src_sl1 (ex:=true) (by simp) rfl
 have n2:1≤H2.n:=by rw [hH2]; simp
 rw [← hH2]
 simp only [g20,true_and]
 refine bnd_app g2 rfl s2 (fun r hr=>by rw [List.mem_singleton.1 hr]; rfl) (rls_one [x]) (by simp; omega) (by simp; omega) fun x3 H3 g3 f3=>?_
 have g30:H3.get 0=some (.cells (encRL x) true):=by rw [f3.same 0 (by omega) no1]; exact g20
 have no3:¬ own x3 0:=fun h=>by rcases f3.mine 0 h with h | h; exact no1 h; omega
 have n3:1≤H3.n:=by have:=f3.grow; omega
 have kpI:∀ (A:Prop) (HA HB:Hp),kpK (rls l,none) HA HB A=A:=fun A HA HB=>rfl
 simp only [kpI]
 refine bnd_app g3 rfl (src_rls _) (rls_sz _) (rls_one _) (by simp; omega) (by simp; omega) fun x4 H4 g4 f4=>?_
 have g40:H4.get 0=some (.cells (encRL x) true):=by rw [f4.same 0 (by omega) no3]; exact g30
 have hrows:(l.take j).map encRL++[encRL x]++(l.drop j).map encRL=(moreM l x j).map encRL:=by unfold moreM; simp
 rw [hrows] at g4
 have fz4:Fz H4 x4 (rls (moreM l x j)):=g4.fz (noIdss_rls _)
 have hm:=more_wf (k:=j) hl hx (by omega:l.length≤29)
 obtain ⟨much,hd,hfit⟩:=Dear12_ok (σ:=σ) (moreM l x j) hm
 refine callK_of ((hd Hp.empty).frzA (.cons fz4 .nil) rfl) ?_
 rcases trees_ok (σ:=σ) L hW with hg | ⟨d,hT,hg⟩
 ·refine callK_of (hg _) ?_
  simp only [x_tup,List.getElem?_cons_zero,List.getElem?_cons_succ,bnd_some,u_not,ifB_lit,Bool.not_true,Bool.not_false,Bool.false_eq_true,if_true,if_false]
  cases much<;>simp only [Bool.false_eq_true,if_true,if_false]<;>exact hK _
 refine callK_of (hg _) ?_
 simp only [x_tup,List.getElem?_cons_zero,List.getElem?_cons_succ,bnd_some,u_not,ifB_lit,Bool.not_true,Bool.not_false,Bool.false_eq_true,if_true,if_false]
 cases hmu:much with
 | true=>simp only [if_true]; exact hK _
 | false =>
 simp only [Bool.false_eq_true,if_false]
 have hF:=hfit hmu
 have M:=hT.mc hC
 have hl40:=hT.len
 have hws:=rls_ws hm hF (by rw [more_bk]; exact hb)
 have hwl:∀ r ∈ l,WsOk r.sels∧r.sets.length≤30:=fun r hr=>hws r (more_mem hr)
 have hwx:=(hws x (by unfold moreM; simp)).1
 have hml:(moreM l x j).length≤60:=by have:=hF.len; omega
 refine more_drop (y6':=.ip (encRL x)) (Fz.ptr (off:=0) (fun i=>(encRL x).getD i .any) g40 (fun i y hy=>?_) (fun i y hy=>?_)) fz4 ?_
 ·rw [Nat.zero_add,List.getD_eq_getElem?_getD,hy]; rfl
 ·rw [List.getD_eq_getElem?_getD,hy]; exact .refl (noIds_get hxn i y hy)
 have L0:∀ (f i:Nat) (H:Hp),L.length - i=f→i≤L.length→law15_CascadeMore.L0 σ K (nds L) (rls l) (.ip (encRL x)) (rls (moreM l x j)) (domT L d) (refT L d) (I (i:Int)) H:=by
  intro f
  induction f with
  | zero =>
   intro i H hf hi
   have:i=L.length:=by omega
   subst this
   refine law15_CascadeMore.L0_step ?_
   simp only [len_nds,bnd_some,b_lss,Int.lt_irrefl,decide_false,ifB_lit,Bool.false_eq_true,if_false]
   exact hK _
  | succ f ih =>
   intro i H hf hi
   have hlt:(i:Int)<(L.length:Int):=by omega
   have f0:ldL false 1 ((encRL x).drop 0)=some (sls x.sels):=rfl
   have f1:ldL false 1 ((encRL x).drop 1)=some (.imm 4 (x.sets.map encST)):=rfl
   refine law15_CascadeMore.L0_step ?_
   simp only [len_nds,bnd_some,b_lss,hlt,decide_true,ifB_lit,if_true,sh_ip,ld_ip,f0,f1]
   refine callK_of (RAnyS_ok M hwx _ _) ?_
   simp only [u_not,bnd_some,ifB_lit]
   have go:(anyW L (i:Int) x.sels=false∨x.sets=[])→∀ HH:Hp,callK Tryz.prog σ n_cascade_Winners [domT L d,I (i:Int),rls (moreM l x j)] HH fun x8 H9=>callK Tryz.prog σ n_cascade_Winners [domT L d,I (i:Int),rls l] H9 fun x10 H11=>bnd (eqAggR (List.replicate 16 (.int .i64)) .neq x8 x10) fun x12=>ifB x12 (K (Bo false) H11) (bnd (binR .add (I (i:Int)) (I 1)) fun x13=>law15_CascadeMore.L0 σ K (nds L) (rls l) (.ip (encRL x)) (rls (moreM l x j)) (domT L d) (refT L d) x13 H11):=by
    intro h HH
    refine callK_of (CWinners_ok M hws hml _ _) (callK_of (CWinners_ok M hwl (by omega) _ _) ?_)
    rw [more_win h]
    simp only [eq16 (winW_len _ _ _),bnd_some,ifB_lit,Bool.false_eq_true,if_false,b_add]
    rw [wr_succ (by omega)]
    exact ih (i+1) _ (by omega) (by omega)
   cases ha:anyW L (i:Int) x.sels with
   | false=>simp only [Bool.not_false,if_true]; exact go (.inl ha) _
   | true =>
    simp only [Bool.not_true,Bool.false_eq_true,if_false,len_imm,List.length_map,b_eql,bnd_some,ifB_lit,decide_eq_true_eq]
    split
    ·rename_i h; exact go (.inr (List.length_eq_zero_iff.1 (by omega))) _
    ·simp only [b_add,bnd_some]
     rw [wr_succ (by omega)]
     exact ih (i+1) _ (by omega) (by omega)
 exact L0 _ 0 _ rfl (Nat.zero_le _)
end
theorem v_rule {x:AV} (h:ShV tiT.get T_api_Rule x):∃ r:RL,x=.agg (encRL r)∧RlWf r:=by
 obtain ⟨ys,e,hs⟩:=v_agg T_api_Rule_is h
 obtain ⟨s,y1,e1,w1,h2⟩:=d_sels (d_struct T_api_Rule_is hs)
 obtain ⟨t,y2,e2,w2,h3⟩:=d_sets h2
 rw [sh_nil h3] at e2
 exact ⟨⟨s,t⟩,by rw [e,e1,e2]; rfl,w1,w2.1,w2.2⟩
theorem CascadeMore_walk {H:Type} {enc:TypeId × Value→H} (W:World) (hsh:W.ShapedOpen Tryz.prog) {v0 v1 v2 v3:Value} {r:Reach} {b0 base:Nat} {spare:Nat→Bool} {held:Bool} {d0 d1 d2 d3:DataW H} {p0 p1 p2 p3:List MemPlace}
  (e0:Value.okWide Tryz.prog W r b0 T_sl_api_Node v0) (h0:DataW.Trod enc Tryz.prog W base spare held T_sl_api_Node v0 d0 p0) (w0:∀ n ∈ d0.weights Tryz.prog T_sl_api_Node,n≤reachBytes)
  (e1:Value.okWide Tryz.prog W r b0 T_sl_api_Rule v1) (h1:DataW.Trod enc Tryz.prog W base spare held T_sl_api_Rule v1 d1 p1) (w1:∀ n ∈ d1.weights Tryz.prog T_sl_api_Rule,n≤reachBytes)
  (e2:Value.okWide Tryz.prog W r b0 T_api_Rule v2) (h2:DataW.Trod enc Tryz.prog W base spare held T_api_Rule v2 d2 p2) (w2:∀ n ∈ d2.weights Tryz.prog T_api_Rule,n≤reachBytes)
  (e3:Value.okWide Tryz.prog W r b0 T_int v3) (h3:DataW.Trod enc Tryz.prog W base spare held T_int v3 d3 p3) (w3:∀ n ∈ d3.weights Tryz.prog T_int,n≤reachBytes)
  (hk:bulkDs [d0,d1,d2,d3]≤1048576) :
  Calls Tryz.prog n_law15_CascadeMore #[v0,v1,v2,v3] W fun e W'=>e=.returned (.bool true)∧Below W.heap.size W W':=by
 obtain ⟨x0,r0,s0⟩:=read_arg (P:=Tryz.prog) (ti:=tiT.get) (S:=readR) (t:=T_sl_api_Node) (σ:=sigM) tiT_ok readR_closed (inB_mem (by kernel_rfl)) e0 h0 w0
 obtain ⟨x1,r1,s1,k1⟩:=read_argB (P:=Tryz.prog) (ti:=tiT.get) (S:=readR) (t:=T_sl_api_Rule) (σ:=sigM) tiT_ok readR_closed (inB_mem (by kernel_rfl)) e1 h1 w1
 obtain ⟨x2,r2,s2,k2⟩:=read_argB (P:=Tryz.prog) (ti:=tiT.get) (S:=readR) (t:=T_api_Rule) (σ:=sigM) tiT_ok readR_closed (inB_mem (by kernel_rfl)) e2 h2 w2
 obtain ⟨x3,r3,s3⟩:=read_arg (P:=Tryz.prog) (ti:=tiT.get) (S:=readR) (t:=T_int) (σ:=sigM) tiT_ok readR_closed (inB_mem (by kernel_rfl)) e3 h3 w3
 obtain ⟨a,rfl,ha,_⟩:=v_nodes s0
 obtain ⟨l,rfl,hl⟩:=v_rules s1
 obtain ⟨x,rfl,hx⟩:=v_rule s2
 obtain ⟨k,rfl,_⟩:=v_int s3
 simp only [bulkDs] at hk
 rw [bk_rls] at k1
 have k2':bkL (encRL x)≤bulkD d2:=by simpa [bk] using k2
 obtain ⟨Hf,hg⟩:=CascadeMore_good (hasC sigM_g) ha hl hx (by show _≤1048576; omega) k
 exact law_of_good (relL4 r0 r1 r2 r3) hg (gMax_ok W hsh sigM_g)
end Go.Proofs.YthdcghnjndhecaaGreat.Ev
