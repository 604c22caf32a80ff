/- The walks, part 6: the evaluator, the functions, the laws. Conditions: none. -/
import Derived.Shelf.LaysM
import Derived.Shelf.Strings.Search1
import Derived.Shelf.Strings.Search2
import Derived.Shelf.Strings.Search3
import Derived.Shelf.Strings.Shaped
import Derived.JoinedCond
import Derived.SizedLaws
import Derived.Test.YthdcghnjndhecaaGreatZ5
namespace Go.Proofs.YthdcghnjndhecaaGreat.Ev
open Go.Shelf Go.Proofs
def laysM144_ren:Ren :=
{
 f:=fun x =>
  match x with
  | 144=>196
  | 143=>200
  | 219=>203
  | 217=>204
  | 225=>205
  | 224=>206
  | 267=>207
  | 266=>208
  | 314=>209
  | n=>n,
 t:=fun x =>
  match x with
  | 9=>9
  | 4=>4
  | 3=>3
  | 5=>5
  | 46=>183
  | 146=>259
  | 51=>178
  | n=>n,
 g:=fun x =>
  match x with
  | 1=>0
  | n=>n }
theorem laysM144:LaysM.n144 Tryz.prog laysM144_ren :=
{ mixed:=by kernel_rfl,f143:=Eq.trans Tryz.func200 (congrArg some (Eq.refl (Body.n143 laysM144_ren))),
  f144:=Eq.trans Tryz.func196 (congrArg some (Eq.refl (Body.n144 laysM144_ren))),
  f217:=Eq.trans Tryz.func204 (congrArg some (Eq.refl (Body.n217 laysM144_ren))),
  f219:=Eq.trans Tryz.func203 (congrArg some (Eq.refl (Body.n219 laysM144_ren))),
  f224:=Eq.trans Tryz.func206 (congrArg some (Eq.refl (Body.n224 laysM144_ren))),
  f225:=Eq.trans Tryz.func205 (congrArg some (Eq.refl (Body.n225 laysM144_ren))),
  f266:=Eq.trans Tryz.func208 (congrArg some (Eq.refl (Body.n266 laysM144_ren))),
  f267:=Eq.trans Tryz.func207 (congrArg some (Eq.refl (Body.n267 laysM144_ren))),
  f314:=Eq.trans Tryz.func209 (congrArg some (Eq.refl (Body.n314 laysM144_ren))),t3:=Tryz.underlying3,
  a3:=Tryz.isAgg3,z3:=Tryz.sizeOf3,v3:=Tryz.zeroValue3,t4:=Tryz.underlying4,a4:=Tryz.isAgg4,
  z4:=Tryz.sizeOf4,v4:=Tryz.zeroValue4,t5:=Tryz.underlying5,a5:=Tryz.isAgg5,z5:=Tryz.sizeOf5,
  v5:=Tryz.zeroValue5,t9:=Tryz.underlying9,a9:=Tryz.isAgg9,z9:=Tryz.sizeOf9,v9:=Tryz.zeroValue9,
  t46:=Tryz.underlying183,a46:=Tryz.isAgg183,z46:=Tryz.sizeOf183,v46:=Tryz.zeroValue183,
  t51:=Tryz.underlying178,a51:=Tryz.isAgg178,z51:=Tryz.sizeOf178,v51:=Tryz.zeroValue178,
  t146:=Tryz.underlying259,a146:=Tryz.isAgg259,z146:=Tryz.sizeOf259,v146:=Tryz.zeroValue259,
  g1:=by kernel_rfl,i3:=by kernel_rfl,
  i4:=by kernel_rfl,i5:=by kernel_rfl,
  i9:=by kernel_rfl,
  i46:=by kernel_rfl,
  i51:=by kernel_rfl,
  i146:=by kernel_rfl,
  m1:=by kernel_rfl,
  s1_3:=fun w h=>Go.Proofs.cell_of_shapedOpen_int h (zero:=#[Go.Value.int Go.IntKind.i64 0]) (t:=3) (of_decide_eq_true (by kernel_rfl)) (by kernel_rfl) rfl (by kernel_rfl) (by kernel_rfl) Tryz.underlying3 }
def gMax:Nat:=laysM144_ren.g 1
theorem hasC {σ:Sig} (hg:σ.g=some gMax):HasC σ:=by
 intro s t H hs
 refine ⟨⟨_,Tryz.func196,by kernel_rfl,by kernel_rfl⟩,fun B w0 E w vs hσ hst hx=>?_⟩
 obtain ⟨_,m,hm⟩:=hst.glNow gMax (by rw [hσ]; exact hg)
 have hl:=hx.len
 obtain ⟨v0,v1,rfl⟩:∃ v0 v1,vs=#[v0,v1]:=by
  obtain ⟨l⟩:=vs
  match l,hl with
  | [a,b],_=>exact ⟨a,b,rfl⟩
 have r0:=hx.at_ 0 _ v0 rfl (by simp)
 have r1:=hx.at_ 1 _ v1 rfl (by simp)
 cases r0
 cases r1
 refine (Any.strings_Contains (ρ:=laysM144_ren) { laysM144 with } s t m w hs hm).mono fun e w' he=>?_
 obtain ⟨rfl,rfl⟩:=he
 exact ⟨E,_,rfl,.refl E,hst,.lit _⟩
theorem gMax_ok (W:World) (h:W.ShapedOpen Tryz.prog) {σ:Sig} (hg:σ.g=some gMax):∀ g,σ.g=some g→∃ m:Int,W.cell? ⟨g,0,none⟩=some (.int .i64 m):=by
 intro g hg'
 rw [hg] at hg'
 cases hg'
 exact laysM144.s1_3 W h
end Go.Proofs.YthdcghnjndhecaaGreat.Ev
namespace Go.Proofs.YthdcghnjndhecaaGreat.Ev
section
variable {H:Type} {enc:TypeId × Value→H}
end
end Go.Proofs.YthdcghnjndhecaaGreat.Ev
namespace Go.Proofs.YthdcghnjndhecaaGreat.Ev
open Go.RowKit
set_option linter.unusedVariables false
set_option linter.unusedSimpArgs false
set_option maxRecDepth 100000
variable {σ:Sig}
theorem NdSm.low {n:Nd} (h:NdSm n):SmN (lowN n):=by
 have r:reachBytes=140737488351232:=rfl
 refine ⟨by have:=h.classes; show n.classes.length≤_; omega,by have:=h.attrs; show (n.attrs.map lowPr).length≤_; rw [List.length_map]; omega,fun p hp=>?_⟩
 obtain ⟨q,hq,rfl⟩:=List.mem_map.1 hp
 have:=(h.at' q hq).2
 show q.2.data.size<_
 omega
def sigM:Sig:=⟨fun _=>0,fun _=>false,fun _=>⟨#[]⟩,some gMax⟩
theorem sigM_g:sigM.g=some gMax:=rfl
theorem callK_drop {P:Program} {σ:Sig} {f:Nat} {xs ys:List AV} {H:Hp} {K:AV→Hp→Prop} (hx:FzL H ys xs) (h:callK P σ f xs (Hp.bare H.n) K):callK P σ f ys H K:=by
 obtain ⟨r,H1,hg,hk⟩:=h
 exact ⟨r,H1,Good.conv (Wk.frz (H2:=Hp.bare H.n) (Hd:=H) rfl rfl (fun id k hk=>⟨hk,by simp⟩) (fun id k2 hk=>by simp at hk) hx.t) hg,hk⟩
theorem sls_ws {l:List Sl} (hl:slsWf Lmax l) (hf:FitL 11 l) (hb:bkLL (l.map encSl)≤NB):WsOk l:=by
 have hll:l.length≤bkLL (l.map encSl):=len_bk fun s _=>by rw [bk_sl]; omega
 refine ⟨by have hN:NB=1048576:=rfl; omega,fun s hs=>?_,hl.2,hf⟩
 have h1:=mem_bk (f:=encSl) hs
 have hN:NB=1048576:=rfl
 refine sel_bulk ⟨by show 1≤Lmax; decide,fun s' h=>by rw [List.mem_singleton.1 h]; exact hl.2 s hs⟩ (fun s' h=>by rw [List.mem_singleton.1 h]; exact hf s hs) ?_
 simp only [List.map_cons,List.map_nil,bkLL]
 omega
theorem foldl_ok {L:List Nd} {e:Int}:∀ {m:List RL} {s:Wn},s.Ok→(m.foldl (ruleW L e) s).Ok
 | [],s,h=>h
 | r::m,s,h=>by
  rw [List.foldl_cons]
  refine foldl_ok ?_
  unfold ruleW
  split
  ·have:∀ (q:List ST) (s:Wn),s.Ok→(q.foldl (setW (bestW L e r.sels (0,false)).1) s).Ok:=by
    intro q
    induction q with
    | nil=>intro s h; exact h
    | cons x q ih=>intro s h; exact ih _ (setW_ok h)
   exact this _ _ h
  ·exact h
theorem winW_len (L:List Nd) (e:Int) (m:List RL):(winW L e m).o.length=16:=(foldl_ok (s:=wn0) ⟨rfl,rfl,rfl⟩).o
end Go.Proofs.YthdcghnjndhecaaGreat.Ev
namespace Go.Proofs.YthdcghnjndhecaaGreat.Ev
set_option linter.unusedVariables false
set_option linter.unusedSimpArgs false
set_option maxRecDepth 100000
set_option maxHeartbeats 4000000
variable {σ:Sig}
def frzO (k:Sk) (o:Option (AV × Hp)):Option AV:=match o with
 | some (r,H)=>frzS H k r
 | none=>none
theorem good_frz {f:Nat} {xs:List AV} {L d:Nat} {k:Sk} {y:AV} (hx:noIds xs=true) (h:frzO k (evF (CX σ [] known_nil) fnT.get noOv L d f xs Hp.empty)=some y) (H:Hp):Good Tryz.prog σ f xs H y H:=by
 cases he:evF (CX σ [] known_nil) fnT.get noOv L d f xs Hp.empty with
 | none=>rw [he] at h; cases h
 | some p =>
  obtain ⟨r,H'⟩:=p
  have hg:=evF_ok (CX σ [] known_nil) mixed noOv_ok fnT_ok L d f xs Hp.empty r H' he
  rw [he] at h
  exact hg.frzR hx (frzS_ok _ _ _ h) H
theorem Fz.tupL {H:Hp} {xs ys:List AV} (h:FzL H xs ys):Fz H (.tup xs) (.tup ys):=by
 have hget:=h.get
 refine .tup hget.1 fun j x y hx hy=>?_
 obtain ⟨x',hx',hf⟩:=hget.2 j y hy
 rw [hx] at hx'
 cases hx'
 exact hf
def frzOT (ks:List Sk) (o:Option (AV × Hp)):Option (List AV):=match o with
 | some (.tup xs,H)=>frzR H ks xs
 | _=>none
theorem good_frzT {f:Nat} {xs:List AV} {L d:Nat} {ks:List Sk} {ys:List AV} (hx:noIds xs=true) (h:frzOT ks (evF (CX σ [] known_nil) fnT.get noOv L d f xs Hp.empty)=some ys) (H:Hp):Good Tryz.prog σ f xs H (.tup ys) H:=by
 cases he:evF (CX σ [] known_nil) fnT.get noOv L d f xs Hp.empty with
 | none=>rw [he] at h; cases h
 | some p =>
  obtain ⟨r,H'⟩:=p
  have hg:=evF_ok (CX σ [] known_nil) mixed noOv_ok fnT_ok L d f xs Hp.empty r H' he
  rw [he] at h
  cases r<;>first | (cases h; done) | skip
  exact hg.frzR hx (Fz.tupL (frzR_ok _ _ _ h)) H
def byt (l:List Int):AV:=.imm 1 (l.map fun n=>[.lit (.int .u8 n)])
def pts (l:List Int):AV:=.imm 1 (l.map fun n=>[I n])
theorem noId_byt (l:List Int):noId (byt l)=true:=by unfold byt; simp only [noId]; exact noIds_map _ (fun _=>rfl) l
def tk (k:Int) (s:ByteArray) (n:Int):List AV:=[I k,.lit (.string s),I n,Bo false,I 0]
def tks (l:List (Int × ByteArray × Int)):AV:=.imm 5 (l.map fun p=>tk p.1 p.2.1 p.2.2)
def sA:Sl:=[.mk 0 (.mk ⟨#[97]⟩ [] [] [] [])]
def alR:List RL:=[⟨[sA],[⟨4,2,1000,false⟩]⟩,⟨[sA],[⟨4,2,2000,false⟩]⟩]
def alT:List Int:=[97,123,119,105,100,116,104,58,49,112,120,125,97,123,119,105,100,116,104,58,50,112,120,125]
def alP:List (Int × ByteArray × Int):=[(1,⟨#[97]⟩,0)]
def alD (n:Int):List (Int × ByteArray × Int):=[(1,⟨#[119,105,100,116,104]⟩,0),(11,emp,0),(8,⟨#[112,120]⟩,n)]
def alK:List (Int × ByteArray × Int):=alP++(14,emp,0)::alD 1000++(15,emp,0)::alP++(14,emp,0)::alD 2000++[(15,emp,0)]
def skT:Sk:=.sl 5 [.same,.same,.same,.same,.same]
theorem ev_prep (H:Hp):Good Tryz.prog σ n_ref1_Prepare [byt alT] H (pts alT) H :=
 good_frz (k:=.sl 1 [.same]) (L:=1000) (d:=60) rfl (by kernel_rfl) H
theorem ev_tok (H:Hp):Good Tryz.prog σ n_ref1_Tokens [pts alT] H (tks alK) H :=
 good_frz (k:=skT) (L:=1000) (d:=60) rfl (by kernel_rfl) H
theorem ev_rul (H:Hp):Good Tryz.prog σ n_ref1_Rules [tks alK] H (.imm 2 [[tks alP,tks (alD 1000)],[tks alP,tks (alD 2000)]]) H :=
 good_frz (k:=.sl 2 [skT,skT]) (L:=1000) (d:=60) rfl (by kernel_rfl) H
theorem ev_sel (H:Hp):Good Tryz.prog σ n_ref1_Selectors [tks alP] H (.tup [sls [sA],Bo true]) H :=
 good_frzT (ks:=[skSls 1,.same]) (L:=1000) (d:=60) rfl (by kernel_rfl) H
theorem ev_dec1 (H:Hp):Good Tryz.prog σ n_ref1_Decls [tks (alD 1000)] H (.imm 3 [[.lit (.string ⟨#[119,105,100,116,104]⟩),tks [(8,⟨#[112,120]⟩,1000)],Bo false]]) H :=
 good_frz (k:=.sl 3 [.same,skT,.same]) (L:=1000) (d:=60) rfl (by kernel_rfl) H
theorem ev_dec2 (H:Hp):Good Tryz.prog σ n_ref1_Decls [tks (alD 2000)] H (.imm 3 [[.lit (.string ⟨#[119,105,100,116,104]⟩),tks [(8,⟨#[112,120]⟩,2000)],Bo false]]) H :=
 good_frz (k:=.sl 3 [.same,skT,.same]) (L:=1000) (d:=60) rfl (by kernel_rfl) H
theorem ev_set1 (H:Hp):Good Tryz.prog σ n_ref1_Sets [.imm 3 [[.lit (.string ⟨#[119,105,100,116,104]⟩),tks [(8,⟨#[112,120]⟩,1000)],Bo false]]] H (.imm 4 [encST ⟨4,2,1000,false⟩]) H :=
 good_frz (k:=.sl 4 [.same,.same,.same,.same]) (L:=1000) (d:=60) rfl (by kernel_rfl) H
theorem ev_set2 (H:Hp):Good Tryz.prog σ n_ref1_Sets [.imm 3 [[.lit (.string ⟨#[119,105,100,116,104]⟩),tks [(8,⟨#[112,120]⟩,2000)],Bo false]]] H (.imm 4 [encST ⟨4,2,2000,false⟩]) H :=
 good_frz (k:=.sl 4 [.same,.same,.same,.same]) (L:=1000) (d:=60) rfl (by kernel_rfl) H
theorem sheet_al (H:Hp):Good Tryz.prog σ n_ref1_Sheet [byt alT] H (rls alR) H:=by
 suffices h:∃ r H1,Good Tryz.prog σ n_ref1_Sheet [byt alT] Hp.empty r H1∧Fz H1 r (rls alR) by
  obtain ⟨r,H1,hg,hf⟩:=h
  exact hg.frzR (by simp [noIds,noId_byt]) hf H
 refine ref1_Sheet.run ?_
 refine bnd_of rfl ?_
 refine bnd_of rfl ?_
 simp only [ifB_lit,Bool.false_eq_true,if_false]
 refine callK_of (ev_prep _) (callK_of (ev_tok _) (callK_of (ev_rul _) ?_))
 refine ref1_Sheet.L0_step ?_
 iterate 2 refine bnd_of rfl ?_
 simp only [ifB_lit,if_true]
 iterate 3 refine bnd_of rfl ?_
 refine callK_of (ev_sel _) ?_
 iterate 2 refine bnd_of rfl ?_
 simp only [ifB_lit,if_true]
 iterate 3 refine bnd_of rfl ?_
 refine callK_of (ev_dec1 _) (callK_of (ev_set1 _) ?_)
 iterate 3 refine bnd_of rfl ?_
 refine ref1_Sheet.J1_step ?_
 refine bnd_of rfl ?_
 refine ref1_Sheet.L0_step ?_
 iterate 2 refine bnd_of rfl ?_
 simp only [ifB_lit,if_true]
 iterate 3 refine bnd_of rfl ?_
 refine callK_of (ev_sel _) ?_
 iterate 2 refine bnd_of rfl ?_
 simp only [ifB_lit,if_true]
 iterate 3 refine bnd_of rfl ?_
 refine callK_of (ev_dec2 _) (callK_of (ev_set2 _) ?_)
 iterate 3 refine bnd_of rfl ?_
 refine ref1_Sheet.J1_step ?_
 refine bnd_of rfl ?_
 refine ref1_Sheet.L0_step ?_
 iterate 2 refine bnd_of rfl ?_
 simp only [ifB_lit,Bool.false_eq_true,if_false]
 exact frzS_ok (.sl 2 [.same,.same]) _ _ (by kernel_rfl)
end Go.Proofs.YthdcghnjndhecaaGreat.Ev
namespace Go.Proofs.YthdcghnjndhecaaGreat.Ev
set_option linter.unusedVariables false
set_option linter.unusedSimpArgs false
set_option maxRecDepth 100000
variable {σ:Sig}
def alL:List Nd:=[⟨-1,⟨#[97]⟩,emp,[],[]⟩]
theorem alB:Built alL alL.length [0]:=Built.first (by decide) rfl
theorem alW:∀ n ∈ alL,NdWf n:=by
 intro n hn
 rw [List.mem_singleton.1 hn]
 exact ⟨by unfold i64; decide,by decide,by decide,by decide,by intro p hp; cases hp⟩
theorem alSm:∀ e,e<alL.length→SmN (lowN (ndAt alL e)):=by
 intro e he
 have:e=0:=by simp [alL] at he; omega
 subst this
 exact ⟨by decide,by decide,by intro p hp; cases hp⟩
theorem alM (hC:HasC σ):McT σ alL [0]:=⟨hC,alB,by decide,alSm⟩
theorem sA_wf:slsWf Lmax [sA]:=by
 refine ⟨by decide,fun s hs=>?_⟩
 rw [List.mem_singleton.1 hs]
 refine ⟨by decide,fun p hp=>?_⟩
 rw [List.mem_singleton.1 hp,Pt.wf_iff]
 exact ⟨by unfold i64; decide,by decide,⟨by decide,fun s h=>by cases h⟩,⟨by decide,fun s h=>by cases h⟩,by decide,(fun s h=>by cases h),by decide,fun q hq=>by cases hq⟩
theorem sA_fit:FitL 11 [sA]:=by
 intro s hs
 rw [List.mem_singleton.1 hs]
 refine ⟨by decide,fun p hp=>?_⟩
 rw [List.mem_singleton.1 hp]
 exact ⟨by unfold FitC; decide,fun q hq=>by cases hq⟩
theorem alR_ws:∀ r ∈ alR,WsOk r.sels∧r.sets.length≤30:=by
 have h:WsOk [sA]:=sls_ws sA_wf sA_fit (by decide)
 intro r hr
 simp only [alR,List.mem_cons,List.not_mem_nil,or_false] at hr
 rcases hr with rfl | rfl<;>exact ⟨h,by decide⟩
theorem al_win:(winW alL 0 alR).o=[0,0,0,0,0,0,0,0,2,2000,0,0,0,0,0,0]:=by kernel_rfl
theorem alive15 (hC:HasC σ) (H:Hp):Good Tryz.prog σ n_law15_alive [] H (Bo true) H:=by
 refine good_by (fun K hK=>law15_alive.run ?_) rfl rfl H
 refine bnd_of rfl ?_
 refine bnd_of rfl ?_
 refine callK_drop (xs:=[byt alT]) (.cons (frzS_ok (.sl 1 [.same]) _ _ (by kernel_rfl)) .nil) ?_
 refine callK_of (sheet_al _) ?_
 refine bnd_of rfl ?_
 refine bnd_of rfl ?_
 refine callK_of (Good.drop (fun H=>domNew_ok alB alW (by decide) H) (.cons (frzS_ok skNds _ _ (by kernel_rfl)) .nil)) ?_
 simp only [x_tup,List.getElem?_cons_zero,List.getElem?_cons_succ,bnd_some]
 refine callK_of (CWinners_ok (alM hC) alR_ws (by decide) 0 _) ?_
 rw [al_win]
 simp only [allocK_eq]
 iterate 5 refine bnd_of rfl ?_
 exact hK _
end Go.Proofs.YthdcghnjndhecaaGreat.Ev
namespace Go.Proofs.YthdcghnjndhecaaGreat.Ev
open Go.RowKit
set_option linter.unusedVariables false
set_option linter.unusedSimpArgs false
set_option maxRecDepth 100000
variable {σ:Sig}
section
end
end Go.Proofs.YthdcghnjndhecaaGreat.Ev
namespace Go.Proofs.YthdcghnjndhecaaGreat.Ev
open Go.RowKit
set_option linter.unusedVariables false
set_option linter.unusedSimpArgs false
set_option maxRecDepth 100000
variable {σ:Sig}
structure Top (p:Nat) (k n:Int) (s:Wn):Prop where
 ok:s.Ok
 t:s.t.getD p false=true
 w:s.w.getD p 0=1073741824
 k:s.o.getD (p*2) 0=k
 n:s.o.getD (p*2+1) 0=n
theorem getD_set_ne {α:Type} {l:List α} {i j:Nat} {x d:α} (h:i≠j):(l.set i x).getD j d=l.getD j d:=by
 simp only [List.getD_eq_getElem?_getD,List.getElem?_set_ne h]
theorem getD_set_eq {α:Type} {l:List α} {i:Nat} {x d:α} (h:i<l.length):(l.set i x).getD i d=x:=by
 simp only [List.getD_eq_getElem?_getD,List.getElem?_set_self h,Option.getD_some]
theorem Top.set {p:Nat} {k n w:Int} {s:Wn} {q:ST} (h:Top p k n s) (hi:q.imp=false) (hw:w≤16777215):Top p k n (setW w s q):=by
 have hok:=setW_ok (w:=w) (q:=q) h.ok
 unfold setW at hok ⊢
 rw [hi] at hok ⊢
 simp only [Bool.false_eq_true,if_false] at hok ⊢
 split at hok
 ·rename_i h1
  rw [if_pos h1]; exact h
 rename_i h1
 rw [if_neg h1]
 split at hok
 ·rename_i h2
  rw [if_pos h2]; exact h
 rename_i h2
 rw [if_neg h2]
 have hne:q.prop.toNat≠p:=by
  intro e
  rw [e,h.t,h.w] at h2
  exact h2 ⟨rfl,by omega⟩
 refine ⟨hok,?_,?_,?_,?_⟩
 ·simp only [getD_set_ne hne]; exact h.t
 ·simp only [getD_set_ne hne]; exact h.w
 ·simp only [getD_set_ne (show q.prop.toNat*2+1≠p*2 by omega),getD_set_ne (show q.prop.toNat*2≠p*2 by omega)]; exact h.k
 ·simp only [getD_set_ne (show q.prop.toNat*2+1≠p*2+1 by omega),getD_set_ne (show q.prop.toNat*2≠p*2+1 by omega)]; exact h.n
theorem Fz.mono {H H':Hp} (hm:∀ id k,H.get id=some k→H'.get id=some k) {x y:AV} (h:Fz H x y):Fz H' x y:=by
 induction h with
 | refl h=>exact .refl h
 | nil=>exact .nil
 | se=>exact .se
 | emp=>exact .emp
 | sl val hg hl hsz hc hf ih=>exact .sl val (hm _ _ hg) hl hsz hc ih
 | ptr val hg hc hf ih=>exact .ptr val (hm _ _ hg) hc ih
 | agg hl hf ih=>exact .agg hl ih
 | tup hl hf ih=>exact .tup hl ih
theorem FzL.mono {H H':Hp} (hm:∀ id k,H.get id=some k→H'.get id=some k) {xs ys:List AV} (h:FzL H xs ys):FzL H' xs ys:=by
 induction h with
 | nil=>exact .nil
 | cons h hs ih=>exact .cons (h.mono hm) ih
section
end
theorem v_set {x:AV} (h:ShV tiT.get T_api_Set x):∃ s:ST,x=.agg (encST s):=by
 obtain ⟨ys,e,hs⟩:=v_agg T_api_Set_is h
 obtain ⟨p,y1,e1,w1,h2⟩:=d_int (d_struct T_api_Set_is hs)
 obtain ⟨k,y2,e2,w2,h3⟩:=d_int (d_struct T_api_Value_is h2)
 obtain ⟨n,y3,e3,w3,h4⟩:=d_int h3
 obtain ⟨b,y4,e4,h5⟩:=d_bool h4
 rw [sh_nil h5] at e4
 exact ⟨⟨p,k,n,b⟩,by rw [e,e1,e2,e3,e4]; rfl⟩
end Go.Proofs.YthdcghnjndhecaaGreat.Ev
namespace Go.Proofs.YthdcghnjndhecaaGreat.Ev
set_option linter.unusedVariables false
set_option linter.unusedSimpArgs false
set_option maxRecDepth 100000
variable {σ:Sig}
section
end
end Go.Proofs.YthdcghnjndhecaaGreat.Ev
namespace Go.Proofs.YthdcghnjndhecaaGreat.Ev
open Go.RowKit
set_option linter.unusedVariables false
set_option linter.unusedSimpArgs false
set_option maxRecDepth 100000
variable {σ:Sig}
def setO (p:Nat) (qs:List ST):Bool:=qs.any fun q=>decide (q.prop=(p:Int))
def fndO (p:Nat) (a b:Int) (qs:List ST):Bool:=qs.any fun q=>decide (q.prop=(p:Int))&&(decide (q.kind=a)&&decide (q.n=b))
structure Of1 (p:Nat) (s:Wn) (Q:List ST):Prop where
 ok:s.Ok
 t:s.t.getD p false=setO p Q
 yes:setO p Q=true→fndO p (s.o.getD (p*2) 0) (s.o.getD (p*2+1) 0) Q=true
 no:setO p Q=false→s.o.getD (p*2) 0=0∧s.o.getD (p*2+1) 0=0
theorem setO_app {p:Nat} {Q:List ST} {q:ST}:setO p (Q++[q])=(setO p Q||decide (q.prop=(p:Int))):=by simp [setO]
theorem fndO_app {p:Nat} {a b:Int} {Q:List ST} {q:ST}:fndO p a b (Q++[q])=(fndO p a b Q||(decide (q.prop=(p:Int))&&(decide (q.kind=a)&&decide (q.n=b)))):=by simp [fndO]
theorem Of1.set {p:Nat} (hp:p<8) {s:Wn} {Q:List ST} {w:Int} {q:ST} (h:Of1 p s Q):Of1 p (setW w s q) (Q++[q]):=by
 have hok:=setW_ok (w:=w) (q:=q) h.ok
 unfold setW at hok ⊢
 generalize (if q.imp=true then w+1073741824 else w)=x at hok ⊢
 split
 ·rename_i h1
  have hne:¬ q.prop=(p:Int):=by omega
  have e1:setO p (Q++[q])=setO p Q:=by rw [setO_app,decide_eq_false hne,Bool.or_false]
  have e2:∀ a b,fndO p a b (Q++[q])=fndO p a b Q:=fun a b=>by rw [fndO_app,decide_eq_false hne,Bool.false_and,Bool.or_false]
  exact ⟨h.ok,by rw [e1]; exact h.t,by rw [e1,e2]; exact h.yes,by rw [e1]; exact h.no⟩
 rename_i h1
 split
 ·rename_i h2
  by_cases he:q.prop=(p:Int)
  ·have ht:s.t.getD p false=true:=by have:=h2.1; rw [he,Int.toNat_natCast] at this; exact this
   have hs:setO p Q=true:=by rw [← h.t]; exact ht
   have e1:setO p (Q++[q])=true:=by rw [setO_app,hs,Bool.true_or]
   exact ⟨h.ok,by rw [e1]; exact ht,fun _=>by rw [fndO_app,h.yes hs,Bool.true_or],fun hn=>by rw [e1] at hn; cases hn⟩
  ·have e1:setO p (Q++[q])=setO p Q:=by rw [setO_app,decide_eq_false he,Bool.or_false]
   have e2:∀ a b,fndO p a b (Q++[q])=fndO p a b Q:=fun a b=>by rw [fndO_app,decide_eq_false he,Bool.false_and,Bool.or_false]
   exact ⟨h.ok,by rw [e1]; exact h.t,by rw [e1,e2]; exact h.yes,by rw [e1]; exact h.no⟩
 ·rename_i h2
  rw [if_neg h1,if_neg h2] at hok
  have ho:=h.ok.o
  have hw:=h.ok.w
  have ht:=h.ok.t
  by_cases he:q.prop=(p:Int)
  ·have en:q.prop.toNat=p:=by rw [he,Int.toNat_natCast]
   rw [en] at hok ⊢
   have e1:setO p (Q++[q])=true:=by rw [setO_app,decide_eq_true he,Bool.or_true]
   have o1:((s.o.set (p*2) q.kind).set (p*2+1) q.n).getD (p*2) 0=q.kind:=by rw [getD_set_ne (by omega),getD_set_eq (by omega)]
   have o2:((s.o.set (p*2) q.kind).set (p*2+1) q.n).getD (p*2+1) 0=q.n:=getD_set_eq (by rw [List.length_set]; omega)
   refine ⟨hok,?_,fun _=>?_,fun hn=>by rw [e1] at hn; cases hn⟩
   ·rw [e1]; exact getD_set_eq (by omega)
   ·show fndO p (((s.o.set (p*2) q.kind).set (p*2+1) q.n).getD (p*2) 0) (((s.o.set (p*2) q.kind).set (p*2+1) q.n).getD (p*2+1) 0) _=true
    rw [o1,o2,fndO_app,decide_eq_true he,decide_eq_true rfl,decide_eq_true rfl]; simp
  ·have en:q.prop.toNat≠p:=by omega
   have e1:setO p (Q++[q])=setO p Q:=by rw [setO_app,decide_eq_false he,Bool.or_false]
   have e2:∀ a b,fndO p a b (Q++[q])=fndO p a b Q:=fun a b=>by rw [fndO_app,decide_eq_false he,Bool.false_and,Bool.or_false]
   have o1:((s.o.set (q.prop.toNat*2) q.kind).set (q.prop.toNat*2+1) q.n).getD (p*2) 0=s.o.getD (p*2) 0:=by rw [getD_set_ne (by omega),getD_set_ne (by omega)]
   have o2:((s.o.set (q.prop.toNat*2) q.kind).set (q.prop.toNat*2+1) q.n).getD (p*2+1) 0=s.o.getD (p*2+1) 0:=by rw [getD_set_ne (by omega),getD_set_ne (by omega)]
   refine ⟨hok,?_,fun hy=>?_,fun hn=>?_⟩
   ·rw [e1]; show (s.t.set _ _).getD p false=_; rw [getD_set_ne en]; exact h.t
   ·show fndO p (((s.o.set (q.prop.toNat*2) q.kind).set (q.prop.toNat*2+1) q.n).getD (p*2) 0) (((s.o.set (q.prop.toNat*2) q.kind).set (q.prop.toNat*2+1) q.n).getD (p*2+1) 0) _=true
    rw [o1,o2,e2]; rw [e1] at hy; exact h.yes hy
   ·show ((s.o.set (q.prop.toNat*2) q.kind).set (q.prop.toNat*2+1) q.n).getD (p*2) 0=0∧((s.o.set (q.prop.toNat*2) q.kind).set (q.prop.toNat*2+1) q.n).getD (p*2+1) 0=0
    rw [o1,o2]; rw [e1] at hn; exact h.no hn
theorem Of1.sets {p:Nat} (hp:p<8) {w:Int}:∀ (qs:List ST) {s:Wn} {Q:List ST},Of1 p s Q→Of1 p (qs.foldl (setW w) s) (Q++qs)
 | [],s,Q,h=>by simpa using h
 | q::qs,s,Q,h=>by
  rw [List.foldl_cons,show Q++q::qs=(Q++[q])++qs by simp]
  exact Of1.sets hp qs (h.set hp)
theorem eq2 (a b c d:Int):eqAggR [.int .i64,.int .i64] .eql (.agg [I a,I b]) (.agg [I c,I d])=some (Bo (decide (a=c)&&decide (b=d))):=by
 by_cases h1:a=c<;>by_cases h2:b=d<;>simp [eqAggR,isAggA,AV.cells,eqC,tfB,h1,h2]
theorem ld_win {H:Hp} {b p:Nat} {o:List Int} (hg:H.get b=some (.cells (o.map I) true)) (ho:o.length=16) (hp:p<8):ldA true 2 H (.ptr b (p*2))=some (.agg [I (o.getD (p*2) 0),I (o.getD (p*2+1) 0)]):=by
 have hol:(o.map I).length=16:=by rw [List.length_map]; exact ho
 have ed:(o.map I).drop (p*2)=I (o.getD (p*2) 0)::I (o.getD (p*2+1) 0)::(o.map I).drop (p*2+2):=by
  rw [List.drop_eq_getElem_cons (by omega),List.drop_eq_getElem_cons (by omega)]
  simp only [List.getElem_map,List.getD_eq_getElem?_getD,List.getElem?_eq_getElem (show p*2<o.length by omega),List.getElem?_eq_getElem (show p*2+1<o.length by omega),Option.getD_some]
 rw [ld_ptr,hg,ldO_cells,ed]
 rfl
section
end
end Go.Proofs.YthdcghnjndhecaaGreat.Ev
namespace Go.Proofs.YthdcghnjndhecaaGreat.Ev
open Go.RowKit
set_option linter.unusedVariables false
set_option linter.unusedSimpArgs false
set_option maxRecDepth 100000
set_option maxHeartbeats 4000000
variable {σ:Sig}
def sX:Sl:=[.mk 0 (.mk ⟨#[120]⟩ [] [] [] [])]
def sI:Sl:=[.mk 0 (.mk ⟨#[]⟩ [⟨#[105]⟩] [] [] [])]
theorem callK_last {P:Program} {f:Nat} {xs ys:List AV} {H:Hp} {cs:List AV} {ex:Bool} {K:AV→Hp→Prop} (hx:FzT ((Hp.bare (H.n+1)).set H.n (some (.cells cs ex))) ys xs) (h:callK P σ f xs ((H.new (.cells cs ex)).set H.n none) K):callK P σ f ys (H.new (.cells cs ex)) K:=by
 obtain ⟨r,H1,hg,hk⟩:=h
 have hd0:∀ j,((Hp.bare (H.n+1)).set H.n (some (.cells cs ex))).get j=if j=H.n then some (.cells cs ex) else none:=fun j=>by
  rw [hp_get_set]
  split
  ·rfl
  ·simp
 refine ⟨r,H1,Good.conv (Wk.frz (Hd:=(Hp.bare (H.n+1)).set H.n (some (.cells cs ex))) (by simp) (by simp) (fun id k hk=>?_) (fun id k2 hk=>?_) hx) hg,hk⟩
 ·rw [hd0] at hk
  split at hk
  ·rename_i e
   subst e
   exact ⟨by simpa using hk,by simp⟩
  ·cases hk
 ·rw [hp_get_set] at hk
  split at hk
  ·cases hk
  ·exact ⟨k2,hk,.refl _ _⟩
theorem sels_x (H:Hp):Good Tryz.prog σ n_law15_sels [.lit (.string ⟨#[120]⟩)] H (sls [sX]) H :=
 good_frz (k:=skSls 1) (L:=1000) (d:=60) rfl (by kernel_rfl) H
theorem sels_i (H:Hp):Good Tryz.prog σ n_law15_sels [.lit (.string ⟨#[35,105]⟩)] H (sls [sI]) H :=
 good_frz (k:=skSls 1) (L:=1000) (d:=60) rfl (by kernel_rfl) H
def orL:List Nd:=[⟨-1,⟨#[120]⟩,⟨#[105]⟩,[],[]⟩]
theorem orB:Built orL orL.length [0]:=Built.first (by decide) rfl
theorem orW:∀ n ∈ orL,NdWf n:=by
 intro n hn
 rw [List.mem_singleton.1 hn]
 exact ⟨by unfold i64; decide,by decide,by decide,by decide,by intro p hp; cases hp⟩
theorem orSm:∀ e,e<orL.length→SmN (lowN (ndAt orL e)):=by
 intro e he
 have:e=0:=by simp [orL] at he; omega
 subst this
 exact ⟨by decide,by decide,by intro p hp; cases hp⟩
theorem orM (hC:HasC σ):McT σ orL [0]:=⟨hC,orB,by decide,orSm⟩
theorem sX_ws:WsOk [sX]:=by
 refine sls_ws ⟨by decide,fun s hs=>?_⟩ (fun s hs=>?_) (by decide)
 ·rw [List.mem_singleton.1 hs]
  refine ⟨by decide,fun p hp=>?_⟩
  rw [List.mem_singleton.1 hp,Pt.wf_iff]
  exact ⟨by unfold i64; decide,by decide,⟨by decide,fun s h=>by cases h⟩,⟨by decide,fun s h=>by cases h⟩,by decide,(fun s h=>by cases h),by decide,fun q hq=>by cases hq⟩
 ·rw [List.mem_singleton.1 hs]
  refine ⟨by decide,fun p hp=>?_⟩
  rw [List.mem_singleton.1 hp]
  exact ⟨by unfold FitC; decide,fun q hq=>by cases hq⟩
theorem sI_ws:WsOk [sI]:=by
 refine sls_ws ⟨by decide,fun s hs=>?_⟩ (fun s hs=>?_) (by decide)
 ·rw [List.mem_singleton.1 hs]
  refine ⟨by decide,fun p hp=>?_⟩
  rw [List.mem_singleton.1 hp,Pt.wf_iff]
  exact ⟨by unfold i64; decide,by decide,⟨by decide,fun s h=>by rw [List.mem_singleton.1 h]; decide⟩,⟨by decide,fun s h=>by cases h⟩,by decide,(fun s h=>by cases h),by decide,fun q hq=>by cases hq⟩
 ·rw [List.mem_singleton.1 hs]
  refine ⟨by decide,fun p hp=>?_⟩
  rw [List.mem_singleton.1 hp]
  exact ⟨by unfold FitC; decide,fun q hq=>by cases hq⟩
theorem set2 {o:List Int} (ho:o.length=16) {p:Nat} (hp:p<8) (k n:Int):((o.set (p*2) k).set (p*2+1) n).getD (p*2) 0=k∧((o.set (p*2) k).set (p*2+1) n).getD (p*2+1) 0=n :=
 ⟨by rw [getD_set_ne (by omega),getD_set_eq (by omega)],by rw [getD_set_eq (by rw [List.length_set]; omega)]⟩
theorem two_win {p:Nat} (hp:p<8) {w1 w2:Int} {a b:ST} (ha:a.prop=(p:Int)) (hb:b.prop=(p:Int)) :
  (setW w2 (setW w1 wn0 a) b).o.getD (p*2) 0=(if (if b.imp then w2+1073741824 else w2)<(if a.imp then w1+1073741824 else w1) then a.kind else b.kind) ∧
  (setW w2 (setW w1 wn0 a) b).o.getD (p*2+1) 0=(if (if b.imp then w2+1073741824 else w2)<(if a.imp then w1+1073741824 else w1) then a.n else b.n)∧(setW w2 (setW w1 wn0 a) b).Ok:=by
 have hok1:=setW_ok (w:=w1) (q:=a) (show wn0.Ok from ⟨rfl,rfl,rfl⟩)
 have hok2:=setW_ok (w:=w2) (q:=b) hok1
 have e1:setW w1 wn0 a=⟨(wn0.o.set (p*2) a.kind).set (p*2+1) a.n,wn0.w.set p (if a.imp then w1+1073741824 else w1),wn0.t.set p true⟩:=by
  unfold setW
  have h2:wn0.t.getD p false=false:=by
   unfold wn0
   simp only [List.getD_eq_getElem?_getD,List.getElem?_replicate]
   rw [if_pos hp]; rfl
  rw [ha,Int.toNat_natCast,if_neg (by omega),if_neg (by rw [h2]; simp)]
 have l1:wn0.t.length=8:=rfl
 have l2:wn0.w.length=8:=rfl
 have l3:wn0.o.length=16:=rfl
 refine ⟨?_,?_,hok2⟩
 all_goals
  rw [e1]
  unfold setW
  simp only [hb,Int.toNat_natCast]
  rw [if_neg (show ¬ ((p:Int)<0∨8≤(p:Int)) by omega),getD_set_eq (by omega),getD_set_eq (by omega)]
  simp only [true_and]
  generalize (if b.imp=true then w2+1073741824 else w2)=x2
  generalize (if a.imp=true then w1+1073741824 else w1)=x1
  split
  ·first
    | exact (set2 l3 hp a.kind a.n).1
    | exact (set2 l3 hp a.kind a.n).2
  ·have l4:((wn0.o.set (p*2) a.kind).set (p*2+1) a.n).length=16:=by rw [List.length_set,List.length_set]; exact l3
   first
    | exact (set2 l4 hp b.kind b.n).1
    | exact (set2 l4 hp b.kind b.n).2
theorem mk_rule {H:Hp} {y:Nat} {q:ST} {s:Sl} {K:AV→Hp→Prop} (hy:H.get y=some (.cells (encST q) true))
  (h:∀ H',(∀ j,j<H.n→H'.get j=H.get j)→H'.n=H.n+2→H'.get H.n=some (.cells (encST q) true)→H'.get (H.n+1)=some (.cells [sls [s],.sl H.n 0 4 1 (some 1)] true)→K (.ptr (H.n+1) 0) H') :
  bnd (ldA true 4 H (.ptr y 0)) fun x9=>bnd (bldSlR [.int .i64 0,.int .i64 0,.int .i64 0,.bool false] 4 1 H [(0,4,x9)]) fun p10=>bnd (bldR [.lit (.slice none 0 0),.lit (.slice none 0 0)] [(0,1,sls [s]),(1,1,p10.1)]) fun l11=>allocK [.lit (.slice none 0 0),.lit (.slice none 0 0)] p10.2 fun x12 H13=>bnd (stA 2 H13 x12 (.agg l11)) fun H14=>K x12 H14:=by
 have l1:ldA true 4 H (.ptr y 0)=some (.agg (encST q)):=by rw [ld_ptr,hy]; rfl
 rw [l1,bnd_some,bld_one (z:=[.int .i64 0,.int .i64 0,.int .i64 0,.bool false]) (sz:=4) (x:=.agg (encST q)) rfl rfl,bnd_some]
 have e1:bldR [.lit (.slice none 0 0),.lit (.slice none 0 0)] [(0,1,sls [s]),(1,1,.sl H.n 0 4 1 (some 1))]=some [sls [s],.sl H.n 0 4 1 (some 1)]:=rfl
 rw [e1,bnd_some,allocK_eq]
 have hn:(H.new (.cells (AV.agg (encST q)).cells true)).n=H.n+1:=by simp
 have s1:stA 2 ((H.new (.cells (AV.agg (encST q)).cells true)).new (.cells [.lit (.slice none 0 0),.lit (.slice none 0 0)] true)) (.ptr (H.new (.cells (AV.agg (encST q)).cells true)).n 0) (.agg [sls [s],.sl H.n 0 4 1 (some 1)])=some (((H.new (.cells (AV.agg (encST q)).cells true)).new (.cells [.lit (.slice none 0 0),.lit (.slice none 0 0)] true)).set (H.n+1) (some (.cells [sls [s],.sl H.n 0 4 1 (some 1)] true))):=by
  rw [st_agg,hp_get_new,if_pos rfl,if_pos (by simp),stO_cells,if_pos ⟨by simp,rfl⟩,overlay_all (by simp),hn]
 rw [s1,bnd_some,hn]
 refine h _ (fun j hj=>?_) (by simp) ?_ (by simp)
 ·have a:j≠H.n:=by omega
  have b:j≠H.n+1:=by omega
  simp [a,b]
 ·have a:H.n≠H.n+1:=by omega
  simp [a]
theorem Fz.two {H:Hp} {id:Nat} {cap:Option Nat} {A1 B1 A2 B2 C1 D1 C2 D2:AV} {ex:Bool} (hg:H.get id=some (.cells [A1,B1,A2,B2] ex)) (h1:Fz H A1 C1) (h2:Fz H B1 D1) (h3:Fz H A2 C2) (h4:Fz H B2 D2):Fz H (.sl id 0 2 2 cap) (.imm 2 [[C1,D1],[C2,D2]]):=by
 refine .sl (fun i j=>([A1,B1,A2,B2][i*2+j]?).getD A1) hg rfl (fun i row h=>?_) (fun i row j y h hj=>?_) (fun i row j y h hj=>?_)
 ·rcases i with _ | _ | i
  ·cases h; rfl
  ·cases h; rfl
  ·simp at h
 ·rcases i with _ | _ | i
  ·cases h
   rcases j with _ | _ | j
   ·rfl
   ·rfl
   ·simp at hj
  ·cases h
   rcases j with _ | _ | j
   ·rfl
   ·rfl
   ·simp at hj
  ·simp at h
 ·rcases i with _ | _ | i
  ·cases h
   rcases j with _ | _ | j
   ·cases hj; exact h1
   ·cases hj; exact h2
   ·simp at hj
  ·cases h
   rcases j with _ | _ | j
   ·cases hj; exact h3
   ·cases hj; exact h4
   ·simp at hj
  ·simp at h
theorem wt_x:bestW orL 0 [sX] (0,false)=(1,true):=by kernel_rfl
theorem wt_i:bestW orL 0 [sI] (0,false)=(65536,true):=by kernel_rfl
def orR (ids turned:Bool) (a b:ST):List RL:=if turned then [⟨[sX],[b]⟩,⟨[if ids then sI else sX],[a]⟩] else [⟨[if ids then sI else sX],[a]⟩,⟨[sX],[b]⟩]
def orC (ids turned:Bool) (a b:ST):Bool:=(a.imp&&!b.imp)||(a.imp == b.imp&&(ids||turned))
theorem win_two {s s':Sl} {q q':ST} {w w':Int} (h:bestW orL 0 [s] (0,false)=(w,true)) (h':bestW orL 0 [s'] (0,false)=(w',true)):winW orL 0 [⟨[s],[q]⟩,⟨[s'],[q']⟩]=setW w' (setW w wn0 q) q':=by
 unfold winW
 simp only [List.foldl_cons,List.foldl_nil,ruleW,h,h',if_true]
theorem order_law {p:Nat} (hp:p<8) (ids turned:Bool) {a b:ST} (ha:a.prop=(p:Int)) (hb:b.prop=(p:Int)) :
  (winW orL 0 (orR ids turned a b)).o.getD (p*2) 0=(if orC ids turned a b=true then a.kind else b.kind)∧(winW orL 0 (orR ids turned a b)).o.getD (p*2+1) 0=(if orC ids turned a b=true then a.n else b.n):=by
 have h1:∃ w:Int,bestW orL 0 [if ids then sI else sX] (0,false)=(w,true)∧w=if ids then 65536 else 1:=by
  cases ids
  ·exact ⟨1,wt_x,rfl⟩
  ·exact ⟨65536,wt_i,rfl⟩
 obtain ⟨w,hw,hwi⟩:=h1
 unfold orR orC
 cases turned
 ·rw [if_neg (by decide),win_two hw wt_x]
  obtain ⟨e1,e2,_⟩:=two_win hp (w1:=w) (w2:=1) ha hb
  rw [e1,e2,hwi]
  cases a.imp<;>cases b.imp<;>cases ids<;>simp
 ·rw [if_pos rfl,win_two wt_x hw]
  obtain ⟨e1,e2,_⟩:=two_win hp (w1:=1) (w2:=w) hb ha
  rw [e1,e2,hwi]
  cases a.imp<;>cases b.imp<;>cases ids<;>simp
section
attribute [local irreducible] law15_CascadeOrder.J0 law15_CascadeOrder.J1 law15_CascadeOrder.J2 law15_CascadeOrder.J3
theorem order_J2 {K:AV→Hp→Prop} (hK:∀ H,K (Bo true) H) {H:Hp} {p bw bv:Nat} (hp:p<8) {a:ST} (ha:a.prop=(p:Int)) {o:List Int} (ho:o.length=16) {k n:Int} {C:Bool} {y2 y3 y5 y10 y11 y13 y17:AV} (g0:H.get 0=some (.cells (encST a) true)) (gw:H.get bw=some (.cells (o.map I) true)) (gv:H.get bv=some (.cells [I k,I n] true)) (n0:bv≠0) (nw:bv≠bw)
  (h1:o.getD (p*2) 0=if C=true then a.kind else k) (h2:o.getD (p*2+1) 0=if C=true then a.n else n):law15_CascadeOrder.J2 σ K y2 y3 (.ptr 0 0) y5 y10 y11 y13 y17 (.ptr bw 0) (.ptr bv 0) (Bo C) H:=by
 have J3:∀ (H:Hp) (k n:Int) (y67:AV),H.get 0=some (.cells (encST a) true)→H.get bw=some (.cells (o.map I) true)→H.get bv=some (.cells [I k,I n] true)→o.getD (p*2) 0=k→o.getD (p*2+1) 0=n→law15_CascadeOrder.J3 σ K y2 y3 (.ptr 0 0) y5 y10 y11 y13 y17 (.ptr bw 0) (.ptr bv 0) y67 H:=by
  intro H k n y67 g0 gw gv h1 h2
  refine law15_CascadeOrder.J3_step ?_
  have l0:ldA false 1 H (.ptr 0 (0+0))=some (I (p:Int)):=by rw [ld_ptr,g0,← ha]; rfl
  have i1:ixaArr 8 2 (.ptr bw 0) (I (p:Int))=some (.ptr bw (p*2)):=by rw [ixArrN hp]; simp
  have lw:=ld_win gw ho hp
  rw [h1,h2] at lw
  have lv:ldA true 2 H (.ptr bv 0)=some (.agg [I k,I n]):=by rw [ld_ptr,gv]; rfl
  simp only [sh_ptr,bnd_some,l0,i1,lw,lv,eq2,decide_true,Bool.and_self]
  exact hK _
 refine law15_CascadeOrder.J2_step ?_
 simp only [ifB_lit]
 cases C with
 | false =>
  simp only [Bool.false_eq_true,if_false] at h1 h2 ⊢
  exact J3 H k n _ g0 gw gv h1 h2
 | true =>
  simp only [if_true] at h1 h2 ⊢
  have l1:ldA true 2 H (.ptr 0 (0+1))=some (.agg [I a.kind,I a.n]):=by rw [ld_ptr,g0]; rfl
  have s1:stA 2 H (.ptr bv 0) (.agg [I a.kind,I a.n])=some (H.set bv (some (.cells [I a.kind,I a.n] true))):=by
   rw [st_agg,gv,if_pos (by simp),stO_cells,if_pos ⟨by simp,rfl⟩,overlay_all (by simp)]
  simp only [sh_ptr,bnd_some,l1,s1]
  exact J3 _ a.kind a.n _ (by simp [Ne.symm n0,g0]) (by simp [Ne.symm nw,gw]) (by simp) h1 h2
theorem order_J1 (hC:HasC σ) {K:AV→Hp→Prop} (hK:∀ H,K (Bo true) H) {H:Hp} {p:Nat} (hp:p<8) (ids turned:Bool) {a b:ST} (ha:a.prop=(p:Int)) (hb:b.prop=(p:Int)) {y10 y11 y17 y18 y19 y67:AV} (hn:2≤H.n) (g0:H.get 0=some (.cells (encST a) true)) (g1:H.get 1=some (.cells (encST b) true)) (hf:Fz H y17 (rls (orR ids turned a b))) :
  law15_CascadeOrder.J1 σ K (Bo ids) (Bo turned) (.ptr 0 0) (.ptr 1 0) y10 y11 (domT orL [0]) y17 y18 y19 y67 H:=by
 have hws:∀ r ∈ orR ids turned a b,WsOk r.sels∧r.sets.length≤30:=by
  have hs1:WsOk [if ids then sI else sX]:=by
   cases ids
   ·exact sX_ws
   ·exact sI_ws
  intro r hr
  unfold orR at hr
  cases turned<;>simp at hr<;>rcases hr with rfl | rfl<;>first | exact ⟨hs1,by simp⟩ | exact ⟨sX_ws,by simp⟩
 have hlen:(orR ids turned a b).length≤60:=by unfold orR; cases turned<;>simp
 obtain ⟨h1,h2⟩:=order_law hp ids turned ha hb
 have hwo:=winW_len orL 0 (orR ids turned a b)
 have hw:=CWinners_ok (orM hC) hws hlen 0 Hp.empty
 generalize (winW orL 0 (orR ids turned a b)).o=o at h1 h2 hwo hw
 have hpl:plainV (.agg (o.map I))=true:=by
  simp only [plainV]
  clear hw h1 h2 hwo
  induction o with
  | nil=>rfl
  | cons x o ih=>simp only [List.map_cons,plainVs,ih,Bool.and_true]; rfl
 refine law15_CascadeOrder.J1_step ?_
 refine callK_of (hw.frzA (.cons (.refl (noId_domT _ _)) (.cons (.refl rfl) (.cons hf .nil))) hpl) ?_
 have hol:(o.map I).length=16:=by rw [List.length_map]; exact hwo
 have hall1:(o.map I).all AV.one=true:=by rw [List.all_eq_true]; intro x hx; obtain ⟨v,_,rfl⟩:=List.mem_map.1 hx; rfl
 have s1:stA 16 (H.new (.cells (List.replicate 16 (I 0)) true)) (.ptr H.n 0) (.agg (o.map I))=some ((H.new (.cells (List.replicate 16 (I 0)) true)).set H.n (some (.cells (o.map I) true))):=by
  rw [st_agg,hp_get_new,if_pos rfl,if_pos hol,stO_cells,if_pos ⟨by rw [hol]; simp,hall1⟩,overlay_all (by rw [hol]; simp)]
 simp only [allocK_eq,s1,bnd_some,sh_ptr]
 obtain ⟨H1,hH1⟩:∃ H1,H1=(H.new (.cells (List.replicate 16 (I 0)) true)).set H.n (some (.cells (o.map I) true)):=⟨_,rfl⟩
 have k0:(0:Nat)≠H.n:=by omega
 have k1:(1:Nat)≠H.n:=by omega
 have g10:H1.get 0=some (.cells (encST a) true):=by rw [hH1]; simp [k0,g0]
 have g11:H1.get 1=some (.cells (encST b) true):=by rw [hH1]; simp [k1,g1]
 have g1w:H1.get H.n=some (.cells (o.map I) true):=by rw [hH1]; simp
 have n1:H1.n=H.n+1:=by rw [hH1]; simp
 rw [← hH1]
 generalize H.n=bw at *
 have l1:ldA true 2 H1 (.ptr 1 (0+1))=some (.agg [I b.kind,I b.n]):=by rw [ld_ptr,g11]; rfl
 have s2:stA 2 (H1.new (.cells [I 0,I 0] true)) (.ptr H1.n 0) (.agg [I b.kind,I b.n])=some ((H1.new (.cells [I 0,I 0] true)).set H1.n (some (.cells [I b.kind,I b.n] true))):=by
  rw [st_agg,hp_get_new,if_pos rfl,if_pos (by simp),stO_cells,if_pos ⟨by simp,rfl⟩,overlay_all (by simp)]
 simp only [l1,s2,bnd_some]
 obtain ⟨H2,hH2⟩:∃ H2,H2=(H1.new (.cells [I 0,I 0] true)).set H1.n (some (.cells [I b.kind,I b.n] true)):=⟨_,rfl⟩
 have q0:(0:Nat)≠H1.n:=by omega
 have q1:(1:Nat)≠H1.n:=by omega
 have qw:bw≠H1.n:=by omega
 have g20:H2.get 0=some (.cells (encST a) true):=by rw [hH2]; simp [q0,g10]
 have g21:H2.get 1=some (.cells (encST b) true):=by rw [hH2]; simp [q1,g11]
 have g2w:H2.get bw=some (.cells (o.map I) true):=by rw [hH2]; simp [qw,g1w]
 have g2v:H2.get H1.n=some (.cells [I b.kind,I b.n] true):=by rw [hH2]; simp
 rw [← hH2]
 have la:ldA false 1 H2 (.ptr 0 (0+3))=some (Bo a.imp):=by rw [ld_ptr,g20]; rfl
 have lb:ldA false 1 H2 (.ptr 1 (0+3))=some (Bo b.imp):=by rw [ld_ptr,g21]; rfl
 have J:=fun C (h1:o.getD (p*2) 0=if C=true then a.kind else b.kind) (h2:o.getD (p*2+1) 0=if C=true then a.n else b.n)=>order_J2 (σ:=σ) (y2:=Bo ids) (y3:=Bo turned) (y5:=.ptr 1 0) (y10:=y10) (y11:=y11) (y13:=domT orL [0]) (y17:=y17) hK hp ha hwo g20 g2w g2v (Ne.symm q0) (Ne.symm qw) (C:=C) h1 h2
 simp only [la,lb,bnd_some,ifB_lit,u_not,e_bool]
 unfold orC at h1 h2
 cases hai:a.imp<;>cases hbi:b.imp<;>cases ids<;>cases turned<;>simp only [hai,hbi] at h1 h2 ⊢<;>simp at h1 h2 ⊢<;>first | exact J true (by simpa using h1) (by simpa using h2) | exact J false (by simpa using h1) (by simpa using h2)
theorem order_J0 (hC:HasC σ) {K:AV→Hp→Prop} (hK:∀ H,K (Bo true) H) {p:Nat} (hp:p<8) (ids turned:Bool) {a b:ST} (ha:a.prop=(p:Int)) (hb:b.prop=(p:Int)) {H:Hp} (n0:2≤H.n) (g0:H.get 0=some (.cells (encST a) true)) (g1:H.get 1=some (.cells (encST b) true)) {y13 y17 y18 y19 y67:AV} :
  law15_CascadeOrder.J0 σ K (Bo ids) (Bo turned) (.ptr 0 0) (.ptr 1 0) (if ids then Sx ⟨#[35,105]⟩ else Sx ⟨#[120]⟩) (Sx ⟨#[120]⟩) y13 y17 y18 y19 y67 H:=by
 obtain ⟨Y,hY⟩:∃ Y,Y=if ids then Sx ⟨#[35,105]⟩ else Sx ⟨#[120]⟩:=⟨_,rfl⟩
 rw [← hY]
 have fin:∀ (y17:AV) (H:Hp),2≤H.n→H.get 0=some (.cells (encST a) true)→H.get 1=some (.cells (encST b) true)→Fz H y17 (rls (orR ids turned a b))→law15_CascadeOrder.J1 σ K (Bo ids) (Bo turned) (.ptr 0 0) (.ptr 1 0) Y (Sx ⟨#[120]⟩) (domT orL [0]) y17 y18 y19 y67 H :=
  fun y17 H hn h0 h1 hf=>order_J1 hC hK hp ids turned ha hb hn h0 h1 hf
 obtain ⟨s1,h1,es⟩:∃ s1:Sl,(∀ H,Good Tryz.prog σ n_law15_sels [Y] H (sls [s1]) H)∧s1=if ids then sI else sX:=by
  rw [hY]
  cases ids
  ·exact ⟨sX,sels_x,rfl⟩
  ·exact ⟨sI,sels_i,rfl⟩
 have rest:∀ H3:Hp,2≤H3.n→H3.get 0=some (.cells (encST a) true)→H3.get 1=some (.cells (encST b) true)→callQ Tryz.prog σ n_law15_sels [Y] H3 fun x7 H8=>bnd (ldA true 4 H8 (.ptr 0 0)) fun x9=>bnd (bldSlR [.int .i64 0,.int .i64 0,.int .i64 0,.bool false] 4 1 H8 [(0,4,x9)]) fun p10=>bnd (bldR [.lit (.slice none 0 0),.lit (.slice none 0 0)] [(0,1,x7),(1,1,p10.1)]) fun l11=>allocK [.lit (.slice none 0 0),.lit (.slice none 0 0)] p10.2 fun x12 H13=>bnd (stA 2 H13 x12 (.agg l11)) fun H14=>callQ Tryz.prog σ n_law15_sels [(Sx ⟨#[120]⟩)] H14 fun x15 H16=>bnd (ldA true 4 H16 (.ptr 1 0)) fun x17=>bnd (bldSlR [.int .i64 0,.int .i64 0,.int .i64 0,.bool false] 4 1 H16 [(0,4,x17)]) fun p18=>bnd (bldR [.lit (.slice none 0 0),.lit (.slice none 0 0)] [(0,1,x15),(1,1,p18.1)]) fun l19=>allocK [.lit (.slice none 0 0),.lit (.slice none 0 0)] p18.2 fun x20 H21=>bnd (stA 2 H21 x20 (.agg l19)) fun H22=>bnd (ldA true 2 H22 x12) fun x23=>bnd (ldA true 2 H22 x20) fun x24=>bnd (bldSlR [.slice none 0 0,.slice none 0 0] 2 2 H22 [(0,2,x23),(2,2,x24)]) fun p25=>ifB (Bo turned) (bnd (ldA true 2 p25.2 x20) fun x26=>bnd (ldA true 2 p25.2 x12) fun x27=>bnd (bldSlR [.slice none 0 0,.slice none 0 0] 2 2 p25.2 [(0,2,x26),(2,2,x27)]) fun p28=>law15_CascadeOrder.J1 σ K (Bo ids) (Bo turned) (.ptr 0 0) (.ptr 1 0) Y (Sx ⟨#[120]⟩) (domT orL [0]) p28.1 y18 y19 y67 p28.2) (law15_CascadeOrder.J1 σ K (Bo ids) (Bo turned) (.ptr 0 0) (.ptr 1 0) Y (Sx ⟨#[120]⟩) (domT orL [0]) p25.1 y18 y19 y67 p25.2):=by
  intro H3 n3 g0 g1
  refine ⟨_,h1,?_⟩
  refine mk_rule g0 fun H4 f4 n4 q4 r4=>?_
  refine ⟨_,sels_x,?_⟩
  have g14:H4.get 1=some (.cells (encST b) true):=by rw [f4 1 (by omega)]; exact g1
  refine mk_rule g14 fun H5 f5 n5 q5 r5=>?_
  have r45:H5.get (H3.n+1)=some (.cells [sls [s1],.sl H3.n 0 4 1 (some 1)] true):=by rw [f5 _ (by omega)]; exact r4
  have q45:H5.get H3.n=some (.cells (encST a) true):=by rw [f5 _ (by omega)]; exact q4
  have l1:ldA true 2 H5 (.ptr (H3.n+1) 0)=some (.agg [sls [s1],.sl H3.n 0 4 1 (some 1)]):=by rw [ld_ptr,r45]; rfl
  have l2:ldA true 2 H5 (.ptr (H4.n+1) 0)=some (.agg [sls [sX],.sl H4.n 0 4 1 (some 1)]):=by rw [ld_ptr,r5]; rfl
  have bl:∀ (H:Hp) (A B C D:AV),bldSlR [.slice none 0 0,.slice none 0 0] 2 2 H [(0,2,.agg [A,B]),(2,2,.agg [C,D])]=some (.sl H.n 0 2 2 (some 2),H.new (.cells [A,B,C,D] true)):=fun _ _ _ _ _=>rfl
  rw [l1,bnd_some,l2,bnd_some,bl,bnd_some]
  obtain ⟨H6,hH6⟩:∃ H6,H6=H5.new (.cells [sls [s1],.sl H3.n 0 4 1 (some 1),sls [sX],.sl H4.n 0 4 1 (some 1)] true):=⟨_,rfl⟩
  have n6:H6.n=H5.n+1:=by rw [hH6]; rfl
  have f6:∀ j,j<H5.n→H6.get j=H5.get j:=fun j hj=>by rw [hH6,hp_get_new,if_neg (by omega)]
  have c6:H6.get H5.n=some (.cells [sls [s1],.sl H3.n 0 4 1 (some 1),sls [sX],.sl H4.n 0 4 1 (some 1)] true):=by rw [hH6,hp_get_new,if_pos rfl]
  show ifB (Bo turned) (bnd (ldA true 2 (H5.new _) _) _) (law15_CascadeOrder.J1 σ K (Bo ids) (Bo turned) (.ptr 0 0) (.ptr 1 0) Y (Sx ⟨#[120]⟩) (domT orL [0]) (.sl H5.n 0 2 2 (some 2)) y18 y19 y67 (H5.new _))
  rw [← hH6]
  clear hH6
  have gA:∀ H:Hp,(∀ j,j<H5.n→H.get j=H5.get j)→H.get 0=some (.cells (encST a) true)∧H.get 1=some (.cells (encST b) true):=fun H h=>by
   rw [h 0 (by omega),h 1 (by omega),f5 0 (by omega),f5 1 (by omega),f4 0 (by omega)]
   exact ⟨g0,g14⟩
  have z1:∀ H:Hp,(∀ j,j<H5.n→H.get j=H5.get j)→Fz H (.sl H3.n 0 4 1 (some 1)) (.imm 4 ([a].map encST)):=fun H h=>.sl1 (by rw [h _ (by omega)]; exact q45) (.refl rfl) rfl
  have z2:∀ H:Hp,(∀ j,j<H5.n→H.get j=H5.get j)→Fz H (.sl H4.n 0 4 1 (some 1)) (.imm 4 ([b].map encST)):=fun H h=>.sl1 (by rw [h _ (by omega)]; exact q5) (.refl rfl) rfl
  rw [ifB_lit]
  cases turned with
  | true =>
   rw [if_pos rfl]
   have l26:ldA true 2 H6 (.ptr (H4.n+1) 0)=some (.agg [sls [sX],.sl H4.n 0 4 1 (some 1)]):=by rw [ld_ptr,f6 _ (by omega),r5]; rfl
   have l16:ldA true 2 H6 (.ptr (H3.n+1) 0)=some (.agg [sls [s1],.sl H3.n 0 4 1 (some 1)]):=by rw [ld_ptr,f6 _ (by omega),r45]; rfl
   show bnd (ldA true 2 H6 (.ptr (H4.n+1) 0)) _
   rw [l26,bnd_some,l16,bnd_some,bl,bnd_some]
   have f7:∀ j,j<H5.n→(H6.new (.cells [sls [sX],.sl H4.n 0 4 1 (some 1),sls [s1],.sl H3.n 0 4 1 (some 1)] true)).get j=H5.get j:=fun j hj=>by rw [hp_get_new,if_neg (by omega)]; exact f6 j hj
   refine fin _ _ (by simp; omega) (gA _ f7).1 (gA _ f7).2 ?_
   unfold orR
   rw [if_pos rfl,← es]
   exact Fz.two (by rw [hp_get_new,if_pos rfl]) (.refl (noId_sls _)) (z2 _ f7) (.refl (noId_sls _)) (z1 _ f7)
  | false =>
   rw [if_neg (by decide)]
   refine fin _ _ (by omega) (gA _ f6).1 (gA _ f6).2 ?_
   unfold orR
   rw [if_neg (by decide),← es]
   exact Fz.two c6 (.refl (noId_sls _)) (z1 _ f6) (.refl (noId_sls _)) (z2 _ f6)
 refine law15_CascadeOrder.J0_step ?_
 refine bnd_of rfl ?_
 refine bnd_of rfl ?_
 refine callK_last (xs:=[nds orL]) (.fz (.sl1 (cs:=[I (-1),Sx ⟨#[120]⟩,Sx ⟨#[105]⟩,.lit (.slice none 0 0),.lit (.slice none 0 0)]) (row:=encNd ⟨-1,⟨#[120]⟩,⟨#[105]⟩,[],[]⟩) (by rw [hp_get_set,if_pos rfl]; rfl) (.cons (.refl rfl) (.cons (.refl rfl) (.cons (.refl rfl) (.cons .nil (.cons .nil .nil))))) rfl) .nil) ?_
 refine callK_of (domNew_ok orB orW (by decide) _) ?_
 simp only [x_tup,List.getElem?_cons_zero,List.getElem?_cons_succ,bnd_some]
 exact rest _ (by simp; omega) (by rw [hp_get_set,if_neg (by omega),hp_get_new,if_neg (by omega)]; exact g0) (by rw [hp_get_set,if_neg (by omega),hp_get_new,if_neg (by omega)]; exact g1)
theorem CascadeOrder_good (hC:HasC σ) (a b:ST) (ids turned:Bool):∃ Hf,Good Tryz.prog σ n_law15_CascadeOrder [.agg (encST a),.agg (encST b),Bo ids,Bo turned] Hp.empty (Bo true) Hf:=by
 refine ⟨Hp.empty,good_by (fun K hK=>law15_CascadeOrder.run ?_) (by simp [noIds,noId,encST]) rfl _⟩
 simp only [boxK_agg]
 have e0:Hp.empty.n=0:=rfl
 have e1:(Hp.empty.new (.cells (encST a) true)).n=1:=rfl
 rw [e0,e1]
 obtain ⟨H2,hH2⟩:∃ H2,H2=(Hp.empty.new (.cells (encST a) true)).new (.cells (encST b) true):=⟨_,rfl⟩
 have n2:H2.n=2:=by rw [hH2]; rfl
 have g0:H2.get 0=some (.cells (encST a) true):=by rw [hH2]; simp [Hp.empty]
 have g1:H2.get 1=some (.cells (encST b) true):=by rw [hH2]; simp [Hp.empty]
 rw [← hH2]
 clear hH2
 refine callK_of (alive15 hC _) ?_
 have la:ldA false 1 H2 (.ptr 0 (0+0))=some (I a.prop):=by rw [ld_ptr,g0]; rfl
 simp only [u_not,bnd_some,ifB_lit,Bool.not_true,Bool.false_eq_true,if_false,sh_ptr,la,b_lss,b_gtr,decide_eq_true_eq]
 by_cases h1:a.prop<0
 ·rw [if_pos h1]; exact hK _
 rw [if_neg h1]
 by_cases h2:7<a.prop
 ·rw [if_pos h2]; exact hK _
 rw [if_neg h2]
 obtain ⟨p,hp⟩:∃ p:Nat,a.prop=p:=⟨a.prop.toNat,by omega⟩
 have st:stA 1 H2 (.ptr 1 (0+0)) (I a.prop)=some (H2.set 1 (some (.cells (encST ⟨a.prop,b.kind,b.n,b.imp⟩) true))):=st_one g1 rfl rfl rfl (by simp [encST])
 rw [st,bnd_some]
 have key:=order_J0 (σ:=σ) hC hK (p:=p) (by omega) ids turned (a:=a) (b:=⟨a.prop,b.kind,b.n,b.imp⟩) hp hp (H:=H2.set 1 (some (.cells (encST ⟨a.prop,b.kind,b.n,b.imp⟩) true))) (by simp; omega) (by rw [hp_get_set,if_neg (by decide)]; exact g0) (by rw [hp_get_set,if_pos rfl]) (y13:=.lit undef) (y17:=.lit undef) (y18:=.lit undef) (y19:=.lit undef) (y67:=.lit undef)
 cases ids with
 | true=>simpa using key
 | false=>simpa using key
end
def readO:List Nat:=readR++[T_bool]
theorem readO_closed:closedB tiT.get readO=true:=by kernel_rfl
theorem CascadeOrder_walk {H:Type} {enc:TypeId × Value→H} (W:World) (hsh:W.ShapedOpen Tryz.prog) {v0 v1 v2 v3:Value} {r:Reach} {b0 base:Nat} {spare:Nat→Bool} {held:Bool} {d0 d1 d2 d3:DataW H} {p0 p1 p2 p3:List MemPlace}
  (e0:Value.okWide Tryz.prog W r b0 T_api_Set v0) (h0:DataW.Trod enc Tryz.prog W base spare held T_api_Set v0 d0 p0) (w0:∀ n ∈ d0.weights Tryz.prog T_api_Set,n≤reachBytes)
  (e1:Value.okWide Tryz.prog W r b0 T_api_Set v1) (h1:DataW.Trod enc Tryz.prog W base spare held T_api_Set v1 d1 p1) (w1:∀ n ∈ d1.weights Tryz.prog T_api_Set,n≤reachBytes)
  (e2:Value.okWide Tryz.prog W r b0 T_bool v2) (h2:DataW.Trod enc Tryz.prog W base spare held T_bool v2 d2 p2) (w2:∀ n ∈ d2.weights Tryz.prog T_bool,n≤reachBytes)
  (e3:Value.okWide Tryz.prog W r b0 T_bool v3) (h3:DataW.Trod enc Tryz.prog W base spare held T_bool v3 d3 p3) (w3:∀ n ∈ d3.weights Tryz.prog T_bool,n≤reachBytes) :
  Calls Tryz.prog n_law15_CascadeOrder #[v0,v1,v2,v3] W fun e W'=>e=.returned (.bool true)∧Below W.heap.size W W':=by
 obtain ⟨x0,r0,s0⟩:=read_arg (P:=Tryz.prog) (ti:=tiT.get) (S:=readO) (t:=T_api_Set) (σ:=sigM) tiT_ok readO_closed (inB_mem (by kernel_rfl)) e0 h0 w0
 obtain ⟨x1,r1,s1⟩:=read_arg (P:=Tryz.prog) (ti:=tiT.get) (S:=readO) (t:=T_api_Set) (σ:=sigM) tiT_ok readO_closed (inB_mem (by kernel_rfl)) e1 h1 w1
 obtain ⟨x2,r2,s2⟩:=read_arg (P:=Tryz.prog) (ti:=tiT.get) (S:=readO) (t:=T_bool) (σ:=sigM) tiT_ok readO_closed (inB_mem (by kernel_rfl)) e2 h2 w2
 obtain ⟨x3,r3,s3⟩:=read_arg (P:=Tryz.prog) (ti:=tiT.get) (S:=readO) (t:=T_bool) (σ:=sigM) tiT_ok readO_closed (inB_mem (by kernel_rfl)) e3 h3 w3
 obtain ⟨a,rfl⟩:=v_set s0
 obtain ⟨b,rfl⟩:=v_set s1
 obtain ⟨i,rfl⟩:=v_bool s2
 obtain ⟨t,rfl⟩:=v_bool s3
 obtain ⟨Hf,hg⟩:=CascadeOrder_good (hasC sigM_g) a b i t
 exact law_of_good (relL4 r0 r1 r2 r3) hg (gMax_ok W hsh sigM_g)
end Go.Proofs.YthdcghnjndhecaaGreat.Ev
