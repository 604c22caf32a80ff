/- The walks, part 6: the evaluator, the functions, the laws. Conditions: none. -/
import Derived.Test.YtegioimlblnajaaGreatZ5
namespace Go.Proofs.YtegioimlblnajaaGreat.Ev
set_option linter.unusedVariables false
set_option linter.unusedSimpArgs false
variable {σ:Sig} {P:Pm} {rl sl:AV} {G:MG} {M M':MS} {H H':Hp} {tg tg':Nat→Tg} {K:AV→Hp→Prop}
theorem uI (h:Ok P rl sl G M H tg) (hK:K (Bo (decide (M.left=0))) H):af Tryz.prog σ ay [.ptr G.m 0] H K:=by
 obtain ⟨st,of,la,b,_⟩:=h.m.e
 refine eh.run (aa rfl (aa rfl (aa (b.cell rfl) ?_)))
 rw [gj,ae]; exact hK
theorem LR (h:Ok P rl sl G M H tg) (w:Int) (hK:K (Bo (decide (0≤w)&&decide (w<P.W))) H):af Tryz.prog σ cZ [.ptr G.m 0,I w] H K:=by
 obtain ⟨st,of,la,b,_⟩:=h.m.e
 have hlen:=h.wi.len
 rw [List.length_map,List.length_range] at hlen
 refine fq.run ?_
 rw [iH,ae,aj]
 rcases Int.lt_or_le w 0 with h0 | h0
 ·rw [if_neg (by simpa using h0)]
  rw [show decide (0≤w)=false from decide_eq_false (by omega)] at hK
  exact hK
 ·rw [if_pos (by simpa using h0)]
  rw [show decide (0≤w)=true from decide_eq_true h0,Bool.true_and] at hK
  refine aa rfl (aa rfl (aa (b.cell rfl) (aa hlen ?_)))
  rw [dn,ae]; exact hK
theorem KO (h:Ok P rl sl G M H tg) (w:Int) (hK:K (I (if 0≤w∧w<P.W then ((M.ws w.toNat).mode:Int) else -1)) H):af Tryz.prog σ aB [.ptr G.m 0,I w] H K:=by
 refine fR.run (LR h w ?_)
 rw [g9,ae,aj]
 by_cases hc:0≤w∧w<P.W
 ·rw [if_pos hc] at hK
  obtain ⟨n,rfl⟩:∃ k:Nat,w=k:=⟨w.toNat,by omega⟩
  rw [if_neg (by simp; omega)]
  obtain ⟨st,of,la,b,_⟩:=h.m.e
  obtain ⟨id,off,e1,e2⟩:=h.wp (i:=n) (by omega)
  obtain ⟨sk,bw,_⟩:=(h.w n (by omega)).e
  exact aa rfl (aa rfl (aa (b.cell rfl) (aa e1 (aa e2 (aa rfl (aa rfl (aa (bw.cell rfl) hK)))))))
 ·rw [if_neg hc] at hK
  rw [if_pos (by simp; omega)]
  exact hK
def NA (s:S):Int:=if 0<s.bot - s.top then s.bot - s.top else 0
def uw (P:Pm) (M:MS) (w:Int):Int:=if 0≤w∧w<P.W then NA (M.ws w.toNat).dq+(M.ws w.toNat).stk.length else 0
theorem tw (h:Ok P rl sl G M H tg) (w:Int) (hb:∀ i:Nat,w=i→i<P.W→sm (M.ws i).dq.top∧sm (M.ws i).dq.bot∧(M.ws i).stk.length≤1000000) (hK:K (I (uw P M w)) H):af Tryz.prog σ av [.ptr G.m 0,I w] H K:=by
 refine eF.run (LR h w ?_)
 rw [g9,ae,aj]
 unfold uw at hK
 by_cases hc:0≤w∧w<P.W
 ·rw [if_pos hc] at hK
  obtain ⟨n,rfl⟩:∃ k:Nat,w=k:=⟨w.toNat,by omega⟩
  rw [if_neg (by simp; omega)]
  obtain ⟨st,of,la,b,_⟩:=h.m.e
  obtain ⟨id,off,e1,e2⟩:=h.wp (i:=n) (by omega)
  obtain ⟨sk,bw,rs⟩:=(h.w n (by omega)).e
  obtain ⟨⟨t1,t2⟩,⟨b1,b2⟩,hs⟩:=hb n rfl (by omega)
  refine aa rfl (aa rfl (aa (b.cell rfl) (aa e1 (aa e2 (aa rfl (aa rfl (aa (bw.cell rfl) ?_)))))))
  refine Nk (h.d n (by omega)).d (fe (by omega) (by omega)) ?_
  have hlen:=rs.len
  unfold dt at hlen
  rw [List.length_map] at hlen
  refine aa rfl (aa rfl ⟨rfl,aa (b.cell rfl) (aa e1 ?_)⟩)
  rw [iS]
  refine ⟨rfl,aa e2 (aa rfl (aa rfl (aa rfl ⟨rfl,aa (bw.cell rfl) (aa hlen ?_)⟩)))⟩
  rw [gp,ae]
  rw [Int.toNat_natCast] at hK
  have:wr .i64 ((if 0<(M.ws n).dq.bot - (M.ws n).dq.top then (M.ws n).dq.bot - (M.ws n).dq.top else 0)+((M.ws n).stk.length:Int))=NA (M.ws n).dq+(M.ws n).stk.length:=by
   unfold NA
   split<;>exact fe (by omega) (by omega)
  rw [this]
  exact hK
 ·rw [if_neg hc] at hK
  rw [if_pos (by simp; omega)]
  exact hK
def nR (M:MS) (e:Int):Int:=if 0≤e∧e<M.of.length then ofI M e else -1
theorem vn (h:Ok P rl sl G M H tg) (e:Int) (hK:K (I (nR M e)) H):af Tryz.prog σ ax [.ptr G.m 0,I e] H K:=by
 refine eY.run ?_
 rw [dn,ae,aj]
 unfold nR at hK
 rcases Int.lt_or_le e 0 with h0 | h0
 ·rw [if_pos (by simpa using h0)]
  rw [if_neg (by omega)] at hK
  exact hK
 ·rw [if_neg (by simpa using h0)]
  obtain ⟨st,of,la,b,r1,r2,_⟩:=h.m.e
  have hlen:=r2.len
  unfold dt at hlen
  rw [List.length_map] at hlen
  refine aa rfl (aa rfl (aa (b.cell rfl) (aa hlen ?_)))
  rw [iH,ae,aj]
  by_cases h1:(M.of.length:Int)≤e
  ·rw [if_pos (by simpa using h1)]
   rw [if_neg (by omega)] at hK
   exact hK
  ·rw [if_neg (by simpa using h1)]
   rw [if_pos (by omega)] at hK
   obtain ⟨n,rfl⟩:∃ k:Nat,e=k:=⟨e.toNat,by omega⟩
   obtain ⟨of',id,off,e1,_,e2,e3,_⟩:=lj h (e:=n) (by omega)
   exact aa rfl (aa rfl (aa e1 (aa e2 (aa e3 hK))))
def qB (M:MS) (e:Int):Bool:=decide (0≤e)&&(decide (e<M.pub.length)&&M.pub.getD e.toNat false)
theorem wK (h:Ok P rl sl G M H tg) (e:Int) (hK:K (Bo (qB M e)) H):af Tryz.prog σ ao [.ptr G.m 0,I e] H K:=by
 refine dQ.run ?_
 rw [iH,ae,aj]
 unfold qB at hK
 rcases Int.lt_or_le e 0 with h0 | h0
 ·rw [if_neg (by simpa using h0)]
  rw [show decide (0≤e)=false from decide_eq_false (by omega)] at hK
  exact hK
 ·rw [if_pos (by simpa using h0)]
  rw [show decide (0≤e)=true from decide_eq_true h0,Bool.true_and] at hK
  obtain ⟨st,of,la,b,r1,r2,r3,_⟩:=h.m.e
  refine aa rfl (aa rfl (aa (b.cell rfl) (aa rfl ?_)))
  rw [dn,ae,aj]
  by_cases h1:e<M.pub.length
  ·rw [if_pos (by simpa using h1)]
   rw [show decide (e<(M.pub.length:Int))=true from decide_eq_true h1,Bool.true_and] at hK
   obtain ⟨n,rfl⟩:∃ k:Nat,e=k:=⟨e.toNat,by omega⟩
   have ix:aC 1 (.sl G.pb 0 1 M.pub.length (some M.pub.length)) (I (n:Int))=some (.ptr G.pb n):=by rw [kF (by omega) (by omega)]; simp
   refine aa rfl (aa rfl (aa (b.cell rfl) (aa ix (aa (r3.cell (off:=n) (y:=Bo (M.pub.getD n false)) ?_) hK))))
   rw [List.getElem?_map,List.getElem?_eq_getElem (by omega)]
   simp [List.getD_eq_getElem?_getD,show n<M.pub.length by omega]
  ·rw [if_neg (by simpa using h1)]
   rw [show decide (e<(M.pub.length:Int))=false from decide_eq_false h1,Bool.false_and] at hK
   exact hK
end Go.Proofs.YtegioimlblnajaaGreat.Ev
namespace Go.Proofs.YtegioimlblnajaaGreat.Ev
set_option linter.unusedVariables false
set_option linter.unusedSimpArgs false
variable {σ:Sig} {P:Pm} {rl sl:AV} {G:MG} {M M':MS} {H H':Hp} {tg tg':Nat→Tg} {K:AV→Hp→Prop}
theorem Iv.mono {c c':Int} {s:S} {E:Int} {L:List Int} {fl pu:Option Int} (h:Iv c s E L fl pu) (hc:c≤c'):Iv c' s E L fl pu:=⟨h.hl,h.t0,h.lL,h.ln,by have:=h.en; omega,h.lv,h.ow,h.tv⟩
theorem Iv.s0 (ip:Nat):Iv 0 (s0 ip 16) 0 [] none none :=
 ⟨by simp [Go.Proofs.YtegioimlblnajaaGreat.Ev.s0],by simp [Go.Proofs.YtegioimlblnajaaGreat.Ev.s0],by simp [Go.Proofs.YtegioimlblnajaaGreat.Ev.s0],by simp,Int.le_refl _,fun i hi=>by simp at hi,.idle,fun _ _=>.gone⟩
theorem Iv.beg {c:Int} {s:S} {E:Int} {L:List Int} {pu fl:Option Int} (h:Iv c s E L fl pu) (kind who:Nat) (x:Int) (id:Nat) (hop:s.op (dby kind who)=none) :
  Iv c (put s (dby kind who) ⟨id,x,0,0,false,.fn (dfn kind) []⟩) E L fl (if kind=3 then pu else if kind=2 then none else some x):=by
 by_cases k3:kind=3
 ·have hb:dby kind who=who+1:=if_pos k3
  rw [if_pos k3,hb]
  have hf:dfn kind=bj:=if_pos k3
  rw [hf]
  refine ⟨h.hl,h.t0,h.lL,h.ln,h.en,h.lv,by simpa [put] using h.ow,fun w hw=>?_⟩
  by_cases e:w=who+1
  ·subst e; simp only [put,cq]; exact .s1 rfl rfl
  ·simp only [put,fJ _ _ e]; exact h.tv w hw
 ·have hb:dby kind who=0:=if_neg k3
  rw [hb] at hop ⊢
  have how:=h.ow
  rw [hop] at how
  cases how
  rw [if_neg k3]
  have tv:∀ (q:O) (w:Nat),1≤w→Thp s.top s.bot s.pl ((put s 0 q).op w):=fun q w hw=>by simp only [put,fJ _ _ (show w≠0 by omega)]; exact h.tv w hw
  by_cases k2:kind=2
  ·have hf:dfn kind=bC:=by unfold dfn; rw [if_neg k3,if_pos k2]
   rw [if_pos k2,hf]
   exact ⟨h.hl,h.t0,h.lL,h.ln,h.en,h.lv,by simp only [put,cq]; exact .o1 rfl rfl,tv _⟩
  ·have hf:dfn kind=aN:=by unfold dfn; rw [if_neg k3,if_neg k2]
   rw [if_neg k2,hf]
   exact ⟨h.hl,h.t0,h.lL,h.ln,h.en,h.lv,by simp only [put,cq]; exact Ow.u1 (o:=⟨id,x,0,0,false,.fn aN []⟩) rfl rfl,tv _⟩
theorem K_ {c:Int} {s:S} {E:Int} {o:O} (iv:Iv c s E [] none (some 0)) (ho:s.op 0=some o) :
  ((∃ E',Iv (c+1) (bf s 0).1 E' [] none (some 0))∧∃ o',(bf s 0).1.op 0=some o')∨((∃ E',Iv (c+1) (bf s 0).1 E' [0] none none)∧(bf s 0).1.op 0=none):=by
 obtain ⟨E',L',fl',pu',iv',oc,hs,_⟩:=iv.step ho
 generalize hq:(bf s 0).2=q at oc
 generalize hall:L'++fl'.toList=all' at oc
 generalize hal:[]++(none:Option Int).toList=all at oc
 have hal:all=[]:=hal.symm
 rw [hq] at hs
 have how:=iv'.ow
 cases oc with
 | go hpm =>
  rw [hal] at hpm
  have h0:=hpm.eq_nil
  rw [h0] at hall
  obtain ⟨rfl,hf⟩:=List.append_eq_nil_iff.1 hall
  have:fl'=none:=by cases fl' with
   | none=>rfl
   | some _=>cases hf
  subst this
  refine .inl ⟨⟨E',iv'⟩,?_⟩
  cases hz:(bf s 0).1.op 0 with
  | none=>rw [hz] at hs; simp at hs
  | some o'=>exact ⟨o',rfl⟩
 | full hw hp h16=>rw [hal] at h16; simp at h16
 | push hw hp hpm =>
  cases hp
  have hz:(bf s 0).1.op 0=none:=by
   cases hz:(bf s 0).1.op 0 with
   | none=>rfl
   | some o'=>rw [hz] at hs; simp at hs
  rw [hz] at how
  cases how
  rw [hal] at hpm
  have:L'=[0]:=by
   rw [← hall] at hpm
   simpa using List.perm_singleton.1 hpm
  subst this
  exact .inr ⟨⟨_,iv'⟩,hz⟩
 | none hp2=>exact absurd (hp2 rfl).1 (by simp)
 | take hp2 _=>exact absurd (hp2 rfl) (by simp)
def ws0 (ip:Nat):Wkr:=⟨0,0,0,-1,[],[],s0 ip 16⟩
structure Mk7 (n:Nat) (M:MS) (k:Nat):Prop where
 left:M.left=n
 of:M.of=List.replicate n (-1)
 pub:M.pub=List.replicate n false
 st:M.st=[]
 last:M.last=[]
 ws:∀ i,i<k→∃ ip,M.ws i=ws0 ip
def Pm.at (P:Pm) (k:Nat):Pm:={ P with W:=k }
section
attribute [local irreducible] aG.L0 aG.L1 aG.L2 aG.J3
theorem xU {y2 y9 y41 y42 y54 y55:AV} (h:K (.tup [.ptr G.m 0,I 0]) H):aG.J3 σ K y2 (.ptr G.m 0) y9 y41 y42 y54 y55 H:=aG.J3_step h
theorem L9 {y2 y41 y42 y54 y55:AV} (h0W:0<P.W):∀ (m:Nat) (M:MS) (H:Hp) (tg:Nat→Tg) (c E:Int) (o:O),rk (some o)≤m→Ok P rl sl G M H tg→c+m≤100→Iv c (M.ws 0).dq E [] none (some 0)→(M.ws 0).dq.op 0=some o→(∀ w,1≤w→(M.ws 0).dq.op w=none) →
  (∀ H' tg' s' E',Ok P rl sl G (M.w 0 fun w=>{ w with dq:=s' }) H' tg'→Fm H tg H' tg'→Iv 100 s' E' [0] none none→(∀ w,s'.op w=none)→K (.tup [.ptr G.m 0,I 0]) H')→aG.L2 σ K y2 (.ptr G.m 0) (.ptr (G.dq 0) 0) y41 y42 y54 y55 H:=by
 intro m
 induction m with
 | zero =>
  intro M H tg c E o hr h hc iv ho ht hK
  obtain ⟨g,sf⟩:=iv.sf (by omega) ho
  rw [nf sf.nx] at hr
  have hm:=sf.mem
  simp only [phs,List.mem_cons,List.not_mem_nil,or_false] at hm
  rcases hm with rfl | rfl | rfl | rfl | rfl | rfl | rfl | rfl | rfl | rfl | rfl | rfl | rfl | rfl<;>exact absurd hr (by decide)
 | succ m ih =>
  intro M H tg c E o hr h hc iv ho ht hK
  have hd:=h.d 0 h0W
  refine aG.L2_step (nN hd.d ?_)
  have hb:(decide ((0:Int)≤0)&&(decide ((0:Int)≤64)&&((M.ws 0).dq.op (0:Int).toNat).isSome))=true:=by
   show (true&&(true&&((M.ws 0).dq.op 0).isSome))=true
   rw [ho]; rfl
  rw [hb,aj,if_pos rfl]
  obtain ⟨g,sf⟩:=iv.sf (by omega) ho
  refine xR (w:=0) hd.d (by omega) ho sf fun H1 d1 f1=>?_
  obtain ⟨pd1,fx1⟩:=Fd.fx hd d1 f1 (r_ _ _) fun w o' hw h1=>by
   by_cases e:w=0
   ·subst e; exact (j9 _ 0).2 o' h1
   ·rw [(j9 _ 0).1 w e] at h1; exact ⟨o',h1,rfl⟩
  have h1:=h.toD fx1 pd1
  have hw:((M.w 0 fun w=>{ w with dq:=(bf (M.ws 0).dq 0).1 }).ws 0).dq=(bf (M.ws 0).dq 0).1:=by simp only [MS.w,a_]
  have ht':∀ w,1≤w→(bf (M.ws 0).dq 0).1.op w=none:=fun w hw1=>by rw [(j9 _ 0).1 w (by omega)]; exact ht w hw1
  have hrk:=(iv.step ho)
  obtain ⟨_,_,_,_,_,_,_,hrk⟩:=hrk
  rw [ho] at hrk
  rcases K_ iv ho with ⟨⟨E',iv'⟩,o',ho'⟩ | ⟨⟨E',iv'⟩,ho'⟩
  ·rw [ho'] at hrk
   refine ih _ H1 tg (c+1) E' o' (by omega) h1 (by omega) (by rw [hw]; exact iv') (by rw [hw]; exact ho') (by rw [hw]; exact ht') fun H' tg' s' E'' hok f' i' n'=>hK H' tg' s' E'' ?_ ((fx1.fm (by simp)).trans f') i' n'
   rw [w_w] at hok
   exact hok
  ·refine aG.L2_step (nN pd1.d ?_)
   have hb:(decide ((0:Int)≤0)&&(decide ((0:Int)≤64)&&((bf (M.ws 0).dq 0).1.op (0:Int).toNat).isSome))=false:=by
    show (true&&(true&&((bf (M.ws 0).dq 0).1.op 0).isSome))=false
    rw [ho']; rfl
   rw [hb,aj,if_neg (by decide)]
   refine xU (hK H1 tg _ E' h1 (fx1.fm (by simp)) (iv'.mono (by omega)) fun w=>?_)
   by_cases e:w=0
   ·subst e; exact ho'
   ·exact ht' w (by omega)
theorem PW.to {G':MG} {w:Wkr} {i:Nat} (h:PW G w i H tg) (h1:G'.wk i=G.wk i) (h2:G'.ca i=G.ca i) (h3:G'.dq i=G.dq i):PW G' w i H tg:=by
 obtain ⟨sk,a,b⟩:=h.e
 exact ⟨sk,by rw [h1,h2,h3]; exact a,b⟩
theorem PD.to {G':MG} {s:S} {i:Nat} (h:PD G s i H tg) (h3:G'.dq i=G.dq i):PD G' s i H tg:=⟨by rw [h3]; exact h.d,fun j hj=>by rw [h3] at hj; exact h.t j hj⟩
structure Ini (P:Pm) (n:Nat) (M:MS):Prop where
 left:M.left=n
 of:M.of=List.replicate n (-1)
 pub:M.pub=List.replicate n false
 st:M.st=[]
 last:M.last=[]
 ws:∀ i,i<P.W→(M.ws i).mode=0∧(M.ws i).victim=-1∧(M.ws i).stk=[]∧(M.ws i).ca=[]
 dq:∀ i,i<P.W→(∃ E,Iv 100 (M.ws i).dq E (if i=0∧0<n then [0] else []) none none)∧∀ w,(M.ws i).dq.op w=none
theorem NI {n:Nat} {y9 y41 y42:AV} (hW:1≤P.W∧P.W≤64) (hn:n≤4096) (hK:∀ G M H' tg',Ok P rl sl G M H' tg'→Ini P n M→(∀ j,j<H.n→H'.get j=H.get j)→H.n≤H'.n→(∀ j,j<H.n→tg' j=.fr)→K (.tup [.ptr G.m 0,I 0]) H') :
  ∀ (m k:Nat) (G:MG) (M:MS) (H1:Hp) (tg1:Nat→Tg),P.W - k=m→k≤P.W→Ok (P.at k) rl sl G M H1 tg1→Mk7 n M k→(∀ j,j<H.n→H1.get j=H.get j)→H.n≤H1.n→(∀ j,j<H.n→tg1 j=.fr)→aG.L1 σ K (I P.W) (.ptr G.m 0) y9 y41 y42 (I P.W) (I (k:Int)) H1:=by
 intro m
 induction m with
 | zero =>
  intro k G M H1 tg1 hm hk h mk g1 n1 t1
  have:k=P.W:=by omega
  subst this
  have h:Ok P rl sl G M H1 tg1:=h
  refine aG.L1_step ?_
  rw [dn,ae,aj,if_neg (by simp)]
  obtain ⟨st,of,la,b,_⟩:=h.m.e
  refine aa rfl (aa rfl (aa (b.cell rfl) ?_))
  rw [mk.left,jf,ae,aj]
  have wsi:∀ i,i<P.W→(M.ws i).mode=0∧(M.ws i).victim=-1∧(M.ws i).stk=[]∧(M.ws i).ca=[]:=fun i hi=>by
   obtain ⟨ip,e⟩:=mk.ws i hi
   rw [e]; exact ⟨rfl,rfl,rfl,rfl⟩
  have dqi:∀ i,i<P.W→(∃ E,Iv 90 (M.ws i).dq E [] none none)∧∀ w,(M.ws i).dq.op w=none:=fun i hi=>by
   obtain ⟨ip,e⟩:=mk.ws i hi
   rw [e]; exact ⟨⟨0,(Iv.s0 ip).mono (by decide)⟩,fun _=>rfl⟩
  by_cases h0:0<n
  ·rw [if_pos (by simpa using h0)]
   obtain ⟨id,off,e1,e2⟩:=h.wp (i:=0) (by omega)
   obtain ⟨sk,bw,_⟩:=(h.w 0 (by omega)).e
   refine aa rfl (aa rfl (aa (b.cell rfl) (aa e1 (aa e2 (aa rfl (aa rfl (aa (bw.cell rfl) ?_)))))))
   have pd:=h.d 0 (by omega)
   obtain ⟨⟨E,iv⟩,no⟩:=dqi 0 (by omega)
   refine sJ (w:=0) (g:=aN) pd.d (by omega) (no 0) rfl fun H2 d2 n2 g2=>?_
   have fx:Fg (.d 0) H1 tg1 H2 (up tg1 H1.n (.dq 0)):=⟨by omega,fun j hj=>da _ _ (by omega),fun j hj hne=>g2 j hj fun e=>hne (by rw [pd.t j (.inl e)]; rfl)⟩
   have pd2:PD G (put (M.ws 0).dq 0 ⟨H1.n,0,0,0,false,.fn aN []⟩) 0 H2 (up tg1 H1.n (.dq 0)):=by
    refine ⟨d2,fun j hj=>?_⟩
    by_cases e:j=H1.n
    ·subst e; simp
    ·rw [da _ _ e]
     refine pd.t j ?_
     rcases hj with rfl | rfl | ⟨w,o,hw,h2,rfl⟩
     ·exact .inl rfl
     ·exact .inr (.inl rfl)
     ·by_cases ew:w=0
      ·subst ew
       simp only [put,cq,Option.some.injEq] at h2
       subst h2
       exact absurd rfl e
      ·simp only [put,fJ _ _ ew] at h2
       exact .inr (.inr ⟨w,o,hw,h2,rfl⟩)
   have h2:=h.toD fx pd2
   have e0:((M.w 0 fun w=>{ w with dq:=put (M.ws 0).dq 0 ⟨H1.n,0,0,0,false,.fn aN []⟩ }).ws 0).dq=put (M.ws 0).dq 0 ⟨H1.n,0,0,0,false,.fn aN []⟩:=by simp only [MS.w,a_]
   have ivb:=iv.beg 1 0 0 H1.n (no 0)
   have ivb:Iv 90 (put (M.ws 0).dq 0 ⟨H1.n,0,0,0,false,.fn aN []⟩) E [] none (some 0):=ivb
   refine L9 (P:=P) (G:=G) (by omega) 6 (M.w 0 fun w=>{ w with dq:=put (M.ws 0).dq 0 ⟨H1.n,0,0,0,false,.fn aN []⟩ }) H2 _ 90 E ⟨H1.n,0,0,0,false,.fn aN []⟩ (by rw [nf (g:=aN) (cs:=[]) rfl]; decide) h2 (by omega) (by rw [e0]; exact ivb) (by rw [e0]; simp [put]) (fun w hw1=>by rw [e0]; simp only [put,fJ _ _ (show w≠0 by omega)]; exact no w) fun H3 tg3 s' E' h3 f3 iv3 no3=>?_
   rw [w_w] at h3
   have f23:Fm H1 tg1 H3 tg3:=(fx.fm (by simp)).trans f3
   refine hK G _ H3 tg3 h3 ⟨mk.left,mk.of,mk.pub,mk.st,mk.last,fun i hi=>?_,fun i hi=>?_⟩ (fun j hj=>by rw [f23.get j (by omega) (by rw [t1 j hj]; simp),g1 j hj]) (by have:=f23.n; omega) (fun j hj=>by rw [f23.old j (by omega)]; exact t1 j hj)
   ·by_cases e:i=0
    ·subst e; simp only [MS.w,a_]; exact wsi 0 hi
    ·simp only [MS.w,da _ _ e]; exact wsi i hi
   ·by_cases e:i=0
    ·subst e; simp only [MS.w,a_]; rw [if_pos ⟨trivial,h0⟩]; exact ⟨⟨E',iv3⟩,no3⟩
    ·simp only [MS.w,da _ _ e]; rw [if_neg (fun h=>e h.1)]; obtain ⟨⟨E,a⟩,b⟩:=dqi i hi; exact ⟨⟨E,a.mono (by decide)⟩,b⟩
  ·rw [if_neg (by simpa using h0)]
   refine xU (hK G M H1 tg1 h ⟨mk.left,mk.of,mk.pub,mk.st,mk.last,wsi,fun i hi=>?_⟩ g1 n1 t1)
   rw [if_neg (fun h=>h0 h.2)]
   obtain ⟨⟨E,a⟩,b⟩:=dqi i hi
   exact ⟨⟨E,a.mono (by decide)⟩,b⟩
 | succ m ih =>
  intro k G M H1 tg1 hm hk h mk g1 n1 t1
  obtain ⟨st,of,la,b,r1,r2,r3,r4⟩:=h.m.e
  refine aG.L1_step ?_
  rw [dn,ae,aj,if_pos (by simp; omega)]
  refine aa rfl (aa rfl (aa (b.cell rfl) ?_))
  refine NN (n:=16) (by decide) (by decide) fun H2 d2 n2 g2=>?_
  have fa:Fx (fun _=>False) H1 tg1 H2 (up (up tg1 H1.n (.dq k)) (H1.n+1) (.dq k)):=⟨by omega,fun j hj=>by rw [da _ _ (by omega),da _ _ (by omega)],fun j hj _=>g2 j hj⟩
  have ta:up (up tg1 H1.n (.dq k)) (H1.n+1) (.dq k) H1.n=.dq k∧up (up tg1 H1.n (.dq k)) (H1.n+1) (.dq k) (H1.n+1)=.dq k:=⟨by rw [da _ _ (by omega),a_],a_ _ _ _⟩
  generalize up (up tg1 H1.n (.dq k)) (H1.n+1) (.dq k)=tg2 at fa ta
  have ma:H2.get G.m=H1.get G.m:=g2 _ b.lt
  rw [iS]
  refine ⟨congrArg (caO 1 5) ma,?_⟩
  refine qD.run (aa rfl (aa rfl (aa rfl ?_)))
  show dS (.agg [I 8,.lit (.slice none 0 0)]) _ _
  rw [d4]
  have fb:Fx (fun _=>False) H2 tg2 (H2.new (.cells [I 8,.lit (.slice none 0 0)] true)) (up tg2 H2.n (.ca k)):=.new _ _
  have bb:Bk (H2.new (.cells [I 8,.lit (.slice none 0 0)] true)) (up tg2 H2.n (.ca k)) (.ca k) H2.n [I 8,.lit (.slice none 0 0)]:=.new
  have hca:H2.n<(H2.new (.cells [I 8,.lit (.slice none 0 0)] true)).n:=by simp
  generalize H2.new (.cells [I 8,.lit (.slice none 0 0)] true)=H3 at fb bb hca ⊢
  generalize up tg2 H2.n (.ca k)=tg3 at fb bb
  have mb:H3.get G.m=H2.get G.m:=fb.get _ (by have:=b.lt; omega) fun h=>h
  rw [iS]
  refine ⟨congrArg (caO 1 5) mb,?_⟩
  refine aa rfl ?_
  show dS (.agg [I 0,.ptr (H1.n+1) 0,.ptr H2.n 0,.lit (.slice none 0 0),I 0,I 0,I (-1)]) _ _
  rw [d4]
  have fc:Fx (fun _=>False) H3 tg3 (H3.new (.cells [I 0,.ptr (H1.n+1) 0,.ptr H2.n 0,.lit (.slice none 0 0),I 0,I 0,I (-1)] true)) (up tg3 H3.n (.wk k)):=.new _ _
  have bc:Bk (H3.new (.cells [I 0,.ptr (H1.n+1) 0,.ptr H2.n 0,.lit (.slice none 0 0),I 0,I 0,I (-1)] true)) (up tg3 H3.n (.wk k)) (.wk k) H3.n [I 0,.ptr (H1.n+1) 0,.ptr H2.n 0,.lit (.slice none 0 0),I 0,I 0,I (-1)]:=.new
  generalize H3.new (.cells [I 0,.ptr (H1.n+1) 0,.ptr H2.n 0,.lit (.slice none 0 0),I 0,I 0,I (-1)] true)=H4 at fc bc ⊢
  generalize up tg3 H3.n (.wk k)=tg4 at fc bc
  have mc:H4.get G.m=H3.get G.m:=fc.get _ (by have:=b.lt; omega) fun h=>h
  rw [iS]
  refine ⟨congrArg (caO 1 5) mc,?_⟩
  have f4:Fx (fun _=>False) H1 tg1 H4 tg4:=fa.trans (fb.trans fc)
  have h4:=h.keep f4
  have b4:=b.keep f4 fun h=>h
  have bld:=ku (z:=[.pointer none]) (H:=H4) (x:=.ptr H3.n 0) (sz:=1) rfl rfl
  refine aa bld ?_
  rw [iS]
  refine ⟨by have:=b4.lt; rw [cy,if_neg (by omega)],?_⟩
  have ap:=Rw.app1 (z:=[.pointer none]) (bytes:=8) (y:=.ptr H3.n 0) h4.wi rfl rfl rfl (by simp [Pm.at]; omega) (by simp [Pm.at]; omega) (K:=fun p13=>bnd (stA 1 p13.2 (.ptr G.m 5) p13.1) fun H16=>bnd (ai .add (I (k:Int)) (I 1)) fun x17=>aG.L1 σ K (I P.W) (.ptr G.m 0) y9 y41 y42 (I P.W) x17 H16) (fun x' H5 tg5 r5 f5=>?_)
  ·rw [bld] at ap; exact ap
  have b5:=b4.keep f5 (by simp)
  obtain ⟨H6,s6,b6,f6⟩:=b5.st (off:=5) r5.cells.1 r5.cells.2 r5.one (by simp)
  refine aa s6 ?_
  rw [gp,ae,kr (by omega)]
  have k5:∀ t:Tg,t≠.wi→¬ (fun x=>x=Tg.wi) t:=fun t h=>h
  have k6:∀ t:Tg,t≠.m→¬ (fun x=>x=Tg.m) t:=fun t h=>h
  have fx6:∀ t:Tg,t≠.wi→t≠.m→¬ (fun x=>x=Tg.wi∨x=Tg.m) t:=fun t a b h=>h.elim a b
  have f56:Fx (fun x=>x=Tg.wi∨x=Tg.m) H4 tg4 H6 tg5:=(f5.mono fun _ h=>.inl h).trans (f6.mono fun _ h=>.inr h)
  have d3:PD ⟨G.m,x',G.pb,up G.wk k H3.n,up G.ca k H2.n,up G.dq k (H1.n+1)⟩ (s0 H1.n 16) k H2 tg2:=by
   refine ⟨by show Dq H2 (up G.dq k (H1.n+1) k) _; rw [a_]; exact d2,fun j hj=>?_⟩
   have hj:Own (up G.dq k (H1.n+1) k) (s0 H1.n 16) j:=hj
   rw [a_] at hj
   rcases hj with rfl | rfl | ⟨w,o,hw,h2,rfl⟩
   ·exact ta.2
   ·exact ta.1
   ·cases h2
  have okk:Ok (P.at (k+1)) rl sl ⟨G.m,x',G.pb,up G.wk k H3.n,up G.ca k H2.n,up G.dq k (H1.n+1)⟩ { M with ws:=up M.ws k (ws0 H1.n) } H6 tg5:=by
   refine ⟨?_,?_,fun i hi=>?_,fun i hi=>?_,fun i hi=>?_⟩
   ·exact ⟨st,of,la,b6,((r1.keep f4 fun h=>h).keep f5 (by simp)).keep f6 (by simp),((r2.keep f4 fun h=>h).keep f5 (by simp)).keep f6 (by simp),((r3.keep f4 fun h=>h).keep f5 (by simp)).keep f6 (by simp),((r4.keep f4 fun h=>h).keep f5 (by simp)).keep f6 (by simp)⟩
   ·have:=r5.keep f6 (by simp)
    have e:(List.range (P.at (k+1)).W).map (fun i=>[AV.ptr (up G.wk k H3.n i) 0])=(List.range (P.at k).W).map (fun i=>[AV.ptr (G.wk i) 0])++[(AV.ptr H3.n 0).cells]:=by
     show (List.range (k+1)).map _=(List.range k).map _++_
     rw [List.range_succ,List.map_append]
     congr 1
     ·refine List.map_congr_left fun i hi=>?_
      rw [da _ _ (by have:=List.mem_range.1 hi; omega)]
     ·simp
    show Rw 1 H6 tg5 .wi x' ((List.range (P.at (k+1)).W).map fun i=>[AV.ptr (up G.wk k H3.n i) 0])
    rw [e]; exact this
   ·have hi:i<k+1:=hi
    by_cases e:i=k
    ·subst e
     show PW _ (up M.ws i (ws0 H1.n) i) i H6 tg5
     rw [a_]
     refine ⟨.lit (.slice none 0 0),?_,.nil⟩
     show Bk H6 tg5 (.wk i) (up G.wk i H3.n i) [I ((0:Nat):Int),.ptr (up G.dq i (H1.n+1) i) 0,.ptr (up G.ca i H2.n i) 0,.lit (.slice none 0 0),I 0,I ((0:Nat):Int),I (-1)]
     rw [a_,a_,a_]
     exact bc.keep f56 (fx6 _ (by simp) (by simp))
    ·show PW _ (up M.ws k (ws0 H1.n) i) i H6 tg5
     rw [da _ _ e]
     exact ((h4.w i (by show i<k; omega)).keep f56 fun t ht=>fx6 t (by rintro rfl; simp [Tg.g] at ht) (by rintro rfl; simp [Tg.g] at ht)).to (da _ _ e) (da _ _ e) (da _ _ e)
   ·have hi:i<k+1:=hi
    by_cases e:i=k
    ·subst e
     show Ca H6 tg5 i (up G.ca i H2.n i) (up M.ws i (ws0 H1.n) i).ca
     rw [a_,a_]
     exact ⟨⟨.lit (.slice none 0 0),(bb.keep fc fun h=>h).keep f56 (fx6 _ (by simp) (by simp)),.nil⟩,by simp [ws0]⟩
    ·show Ca H6 tg5 i (up G.ca k H2.n i) (up M.ws k (ws0 H1.n) i).ca
     rw [da _ _ e,da _ _ e]
     exact (h4.c i (by show i<k; omega)).keep f56 (fx6 _ (by simp) (by simp)) (fx6 _ (by simp) (by simp))
   ·have hi:i<k+1:=hi
    by_cases e:i=k
    ·subst e
     show PD _ (up M.ws i (ws0 H1.n) i).dq i H6 tg5
     rw [a_]
     exact (((d3.keep fb fun h=>h).keep fc fun h=>h).keep f56 (fx6 _ (by simp) (by simp)))
    ·show PD _ (up M.ws k (ws0 H1.n) i).dq i H6 tg5
     rw [da _ _ e]
     exact ((h4.d i (by show i<k; omega)).keep f56 (fx6 _ (by simp) (by simp))).to (da _ _ e)
  have f16:∀ j,j<H1.n→j<H.n→H6.get j=H1.get j∧tg5 j=.fr:=fun j hj hjH=>by
   have a1:=f4.get j hj fun h=>h
   have a2:=f4.old j hj
   have a3:=f4.n
   rw [t1 j hjH] at a2
   exact ⟨by rw [f56.get j (by omega) (by rw [a2]; simp),a1],by rw [f56.old j (by omega),a2]⟩
  refine ih (k+1) ⟨G.m,x',G.pb,up G.wk k H3.n,up G.ca k H2.n,up G.dq k (H1.n+1)⟩ { M with ws:=up M.ws k (ws0 H1.n) } H6 tg5 (by omega) (by omega) okk ⟨mk.left,mk.of,mk.pub,mk.st,mk.last,fun i hi=>?_⟩ (fun j hj=>by rw [(f16 j (by omega) hj).1,g1 j hj]) (by have:=f4.n; have:=f56.n; omega) fun j hj=>(f16 j (by omega) hj).2
  by_cases e:i=k
  ·subst e; exact ⟨H1.n,a_ _ _ _⟩
  ·obtain ⟨ip,hip⟩:=mk.ws i (by omega)
   exact ⟨ip,by show up M.ws k _ i=_; rw [da _ _ e]; exact hip⟩
theorem L3 {n:Nat} {y9 y54 y55:AV} (hW:1≤P.W∧P.W≤64) (hn:n≤4096) (hK:∀ G M H' tg',Ok P rl sl G M H' tg'→Ini P n M→(∀ j,j<H.n→H'.get j=H.get j)→H.n≤H'.n→(∀ j,j<H.n→tg' j=.fr)→K (.tup [.ptr G.m 0,I 0]) H') :
  ∀ (m i:Nat) (M:MS) (H1:Hp) (tg1:Nat→Tg),n - i=m→i≤n→Ok (P.at 0) rl sl G M H1 tg1→M.left=n→M.of=List.replicate i (-1)→M.pub=List.replicate n false→M.st=[]→M.last=[]→(∀ j,j<H.n→H1.get j=H.get j)→H.n≤H1.n→(∀ j,j<H.n→tg1 j=.fr)→aG.L0 σ K (I P.W) (.ptr G.m 0) y9 (I n) (I (i:Int)) y54 y55 H1:=by
 intro m
 induction m with
 | zero =>
  intro i M H1 tg1 hm hi h a1 a2 a3 a4 a5 g1 n1 t1
  have:i=n:=by omega
  subst this
  refine aG.L0_step ?_
  rw [dn,ae,aj,if_neg (by simp)]
  exact NI hW hn hK _ 0 G M H1 tg1 rfl (Nat.zero_le _) h ⟨a1,a2,a3,a4,a5,fun i hi=>by omega⟩ g1 n1 t1
 | succ m ih =>
  intro i M H1 tg1 hm hi h a1 a2 a3 a4 a5 g1 n1 t1
  obtain ⟨st,of,la,b,r1,r2,r3,r4⟩:=h.m.e
  refine aG.L0_step ?_
  rw [dn,ae,aj,if_pos (by simp; omega)]
  refine aa rfl (aa rfl (aa (b.cell rfl) ?_))
  have hol:M.of.length=i:=by rw [a2]; simp
  refine Rw.app1 (bytes:=8) (y:=I (-1)) r2 rfl rfl rfl (by simp [dt,hol]; omega) (by simp [dt,hol]; omega) fun x' H2 tg2 r5 f1=>?_
  have b1:=b.keep f1 (by simp)
  obtain ⟨H3,s3,b3,f3⟩:=b1.st (off:=7) r5.cells.1 r5.cells.2 r5.one (by simp)
  refine aa rfl (aa rfl (aa s3 ?_))
  rw [gp,ae,kr (by omega)]
  have f:Fg .m H1 tg1 H3 tg2:=(f1.to rfl).trans (f3.to rfl)
  have h3:Ok (P.at 0) rl sl G { M with of:=M.of++[-1] } H3 tg2:=h.toM f ⟨st,x',la,b3,(r1.keep f1 (by simp)).keep f3 (by simp),(by have:=r5.keep f3 (by simp); simpa [dt] using this),(r3.keep f1 (by simp)).keep f3 (by simp),(r4.keep f1 (by simp)).keep f3 (by simp)⟩ rfl
  have fm:=f.fm (g:=.m) (by simp)
  exact ih (i+1) { M with of:=M.of++[-1] } H3 tg2 (by omega) (by omega) h3 a1 (by show M.of++[-1]=_; rw [a2,List.replicate_succ']) a3 a4 a5 (fun j hj=>by rw [fm.get j (by omega) (by rw [t1 j hj]; simp),g1 j hj]) (by have:=fm.n; omega) fun j hj=>by rw [fm.old j (by omega)]; exact t1 j hj
theorem EL {a:AV} (hW:1≤P.W∧P.W≤64) (hN:P.L.length≤4096) (cp:∀ H,aq Tryz.prog σ fd [a] H rl H) (ls:∀ H,aq Tryz.prog σ fX [rl] H sl H) (c1:rl.cells=[rl]∧rl.isAny=false∧AV.one rl=true) (c2:sl.cells=[sl]∧sl.isAny=false∧AV.one sl=true)
  (hK:∀ G M H' tg',Ok P rl sl G M H' tg'→Ini P P.L.length M→(∀ j,j<H.n→H'.get j=H.get j)→H.n≤H'.n→(∀ j,j<H.n→tg' j=.fr)→K (.tup [.ptr G.m 0,I 0]) H'):af Tryz.prog σ eI [fE P.L P.d,a,I P.W] H K:=by
 refine aG.run ?_
 have e0:dv .eql (fE P.L P.d) (.lit (.pointer none))=some (Bo false):=rfl
 rw [e0,ae,aj,if_neg (by decide),dn,ae,aj,if_neg (by simp; omega),jf,ae,aj,if_neg (by simp; omega)]
 refine bp (cp H) (bp (HD P.L P.d H) (bp (HD P.L P.d H) ?_))
 have e3:nr [.bool false] 1 1 H (I P.L.length) (I P.L.length)=some (.sl H.n 0 1 P.L.length (some P.L.length),H.new (.cells (jW [.bool false] (P.L.length*1)) true)):=by
  have a:(0:Int)≤P.L.length:=by omega
  have b:Nat.ble P.L.length 9223372036854775807=true:=Nat.ble_eq_true_of_le (by omega)
  have c:Nat.ble (1*P.L.length) 281474976710656=true:=Nat.ble_eq_true_of_le (by omega)
  simp only [nr,jE,Int.toNat_natCast,a,Int.le_refl,b,c,decide_true,Bool.and_self,cond_true]
 rw [e3,ae]
 have ez:jW [.bool false] (P.L.length*1)=(List.replicate P.L.length false).map Bo:=by
  unfold jW
  apply List.ext_getElem
  ·simp
  ·intro i h1 h2
   simp [Nat.mod_one]
 have e4:dg [.lit (.pointer none),.lit (.slice none 0 0),.lit (.slice none 0 0),.lit (.slice none 0 0),I 0,.lit (.slice none 0 0),I 0,.lit (.slice none 0 0),.lit (.slice none 0 0),.lit (.slice none 0 0)] [(0,1,fE P.L P.d),(1,1,rl),(6,1,I P.L.length),(8,1,.sl H.n 0 1 P.L.length (some P.L.length))] =
   some [fE P.L P.d,rl,.lit (.slice none 0 0),.lit (.slice none 0 0),I 0,.lit (.slice none 0 0),I P.L.length,.lit (.slice none 0 0),.sl H.n 0 1 P.L.length (some P.L.length),.lit (.slice none 0 0)]:=by
  have hd:(fE P.L P.d).cells=[fE P.L P.d]∧(fE P.L P.d).isAny=false:=⟨rfl,rfl⟩
  simp [dg,c1.1,c1.2.1,hd.1,hd.2,iZ,qY]
 refine aa e4 ?_
 rw [d4]
 obtain ⟨Ha,hHa⟩:∃ Ha,Ha=H.new (.cells (jW [.bool false] (P.L.length*1)) true):=⟨_,rfl⟩
 obtain ⟨Hb,hHb⟩:∃ Hb,Hb=Ha.new (.cells [fE P.L P.d,rl,.lit (.slice none 0 0),.lit (.slice none 0 0),I 0,.lit (.slice none 0 0),I P.L.length,.lit (.slice none 0 0),.sl H.n 0 1 P.L.length (some P.L.length),.lit (.slice none 0 0)] true):=⟨_,rfl⟩
 show bnd _ _
 have na:Ha.n=H.n+1:=by rw [hHa]; simp
 have fa:Fx (fun _=>False) H (fun _=>.fr) Ha (up (fun _=>.fr) H.n .pub):=by rw [hHa]; exact .new _ _
 have fb:Fx (fun _=>False) Ha (up (fun _=>.fr) H.n .pub) Hb (up (up (fun _=>.fr) H.n .pub) Ha.n .m):=by rw [hHb]; exact .new _ _
 have ba:Bk Ha (up (fun _=>.fr) H.n .pub) .pub H.n ((List.replicate P.L.length false).map Bo):=by rw [hHa,ez]; exact .new
 have bb:Bk Hb (up (up (fun _=>.fr) H.n .pub) Ha.n .m) .m Ha.n [fE P.L P.d,rl,.lit (.slice none 0 0),.lit (.slice none 0 0),I 0,.lit (.slice none 0 0),I P.L.length,.lit (.slice none 0 0),.sl H.n 0 1 P.L.length (some P.L.length),.lit (.slice none 0 0)]:=by rw [hHb]; exact .new
 rw [← hHa,← hHb]
 have fab:=fa.trans fb
 have ba2:=ba.keep fb fun h=>h
 clear hHa hHb e4 e3 ez
 generalize up (up (fun _=>Tg.fr) H.n .pub) Ha.n .m=tgb at fab bb ba2
 refine aa rfl (aa rfl (aa (bb.cell rfl) (bp (ls Hb) ?_)))
 obtain ⟨Hc,sc,bc,fc⟩:=bb.st (off:=2) c2.1 c2.2.1 c2.2.2 (by simp)
 refine aa rfl (aa rfl (aa sc (aa rfl (aa rfl (aa (bc.cell rfl) ?_)))))
 refine L3 (G:=⟨Ha.n,.lit (.slice none 0 0),H.n,fun _=>0,fun _=>0,fun _=>0⟩) (n:=P.L.length) hW hN hK _ 0 ⟨P.L.length,[],List.replicate P.L.length false,[],[],fun _=>ws0 0⟩ Hc tgb rfl (Nat.zero_le _) ⟨⟨.lit (.slice none 0 0),.lit (.slice none 0 0),.lit (.slice none 0 0),?_,.nil,.nil,ba2.keep fc (by simp),.nil⟩,.nil,fun i hi=>absurd hi (Nat.not_lt_zero i),fun i hi=>absurd hi (Nat.not_lt_zero i),fun i hi=>absurd hi (Nat.not_lt_zero i)⟩ rfl rfl rfl rfl rfl (fun j hj=>?_) ?_ fun j hj=>fab.old j hj
 ·show Bk Hc tgb .m Ha.n [fE P.L P.d,rl,sl,.lit (.slice none 0 0),I 0,.lit (.slice none 0 0),I P.L.length,.lit (.slice none 0 0),.sl H.n 0 1 (List.replicate P.L.length false).length (some (List.replicate P.L.length false).length),.lit (.slice none 0 0)]
  rw [List.length_replicate]
  exact bc
 ·rw [fc.get j (by have:=fab.n; omega) (by rw [fab.old j hj]; simp),fab.get j hj fun h=>h]
 ·have:=fab.n; have:=fc.n; omega
theorem Fo (a b:AV) {K:AV→Hp→Prop} (h:K (.tup [.lit (.pointer none),I 1]) H):af Tryz.prog σ eI [.lit (.pointer none),a,b] H K:=by
 refine aG.run ?_
 rw [LF,ae,aj,if_pos rfl]
 exact h
theorem FM (a:AV) {w:Int} (hw:w<1∨64<w) {K:AV→Hp→Prop} (h:K (.tup [.lit (.pointer none),I 1]) H):af Tryz.prog σ eI [fE P.L P.d,a,I w] H K:=by
 refine aG.run ?_
 have e0:dv .eql (fE P.L P.d) (.lit (.pointer none))=some (Bo false):=rfl
 rw [e0,ae,aj,if_neg (by decide),dn,ae,aj]
 by_cases h1:w<1
 ·rw [if_pos (by simpa using h1)]; exact h
 ·rw [if_neg (by simpa using h1),jf,ae,aj,if_pos (by simp; omega)]; exact h
end
end Go.Proofs.YtegioimlblnajaaGreat.Ev
namespace Go.Proofs.YtegioimlblnajaaGreat.Ev
set_option linter.unusedVariables false
set_option linter.unusedSimpArgs false
variable {σ:Sig}
def lT (s:ByteArray):Bool:=decide (60<(s.data.size:Int))
def pI (p:ByteArray × ByteArray):Bool:=lT p.1||decide (100<(p.2.data.size:Int))
def GF (n:Nd):Bool:=decide (8<(n.classes.length:Int))||(decide (8<(n.attrs.length:Int))||(lT n.tag||(lT n.id||(n.classes.any lT||n.attrs.any pI))))
def u0 (L:List Nd):Bool:=if 40<L.length then (if L.length≤4096 then true else decide (4100<L.length)) else decide (4100<L.length)
def kY (L:List Nd) (m:Nat):Bool:=((L.drop m).take (100 - m)).any GF||u0 L
structure Jv (n:Nd):Prop where
 classes:n.classes.length≤8
 attrs:n.attrs.length≤8
 tag:n.tag.data.size≤60
 id:n.id.data.size≤60
 cl:∀ s ∈ n.classes,s.data.size≤60
 at':∀ p ∈ n.attrs,p.1.data.size≤60∧p.2.data.size≤100
theorem Jv.of {n:Nd} (h:GF n=false):Jv n:=by
 unfold GF pI lT at h
 simp only [Bool.or_eq_false_iff,decide_eq_false_iff_not,List.any_eq_false,Bool.or_eq_true,decide_eq_true_eq,not_or] at h
 obtain ⟨h1,h2,h3,h4,h5,h6⟩:=h
 exact ⟨by omega,by omega,by omega,by omega,fun s hs=>by have:=h5 s hs; omega,fun p hp=>by have:=h6 p hp; omega⟩
theorem vR {L:List Nd} {m:Nat} {n:Nd} (h:L[m]?=some n) (hm:m<100):kY L m=(GF n||kY L (m+1)):=by
 unfold kY
 obtain ⟨j,hj⟩:∃ j,100 - m=j+1:=⟨99 - m,by omega⟩
 rw [ig h,hj,List.take_succ_cons,List.any_cons,Bool.or_assoc,show 100 - (m+1)=j by omega]
section
attribute [local irreducible] aA.L0 aA.L1 aA.L2
theorem Mc {L:List Nd} {m:Nat} {n:Nd} (hn:L[m]?=some n) (hm:m<100) {K:AV→Hp→Prop} {y4:AV} (hl:n.attrs.length≤8)
  (h0:∀ H y4 y5,(∀ H,K (Bo (kY L (m+1))) H)→aA.L0 σ K (nds L) (I ((m+1:Nat):Int)) y4 y5 H):∀ (f k:Nat) (H:Hp),n.attrs.length - k=f→k≤n.attrs.length→(∀ H,K (Bo ((n.attrs.drop k).any pI||kY L (m+1))) H) →
  aA.L2 σ K (nds L) (I (m:Int)) y4 (I (k:Int)) H:=by
 have hix:aC 5 (nds L) (I (m:Int))=some (.ip (bD n)):=eU hn
 intro f
 induction f with
 | zero =>
  intro k H hf hk hK
  have:k=n.attrs.length:=by omega
  subst this
  refine aA.L2_step ?_
  have hw:wr .i64 ((m:Int)+1)=((m+1:Nat):Int):=ga (by omega)
  simp only [hix,ae,qi,nb,oN,lA,List.length_map,dn,Int.lt_irrefl,decide_false,aj,Bool.false_eq_true,if_false,gp,hw]
  refine h0 _ _ _ ?_
  simpa using hK
 | succ f ih =>
  intro k H hf hk hK
  have hlt:k<n.attrs.length:=by omega
  obtain ⟨p,hp⟩:=k_ hlt
  rw [ig hp,List.any_cons] at hK
  have hlt':(k:Int)<n.attrs.length:=by omega
  have hixp:aC 2 (.imm 2 (n.attrs.map cD)) (I (k:Int))=some (.ip (cD p)):=eU hp
  have hw:wr .i64 ((k:Int)+1)=((k+1:Nat):Int):=ga (by omega)
  refine aA.L2_step ?_
  simp only [hix,ae,qi,nb,oN,lA,List.length_map,dn,hlt',decide_true,aj,if_true,hixp,List.drop_zero,Gn,vj,qt,jf,decide_eq_true_eq,gp,hw]
  split
  ·rename_i h
   have:pI p=true:=by unfold pI lT; rw [decide_eq_true h,Bool.true_or]
   rw [this] at hK
   simpa using hK H
  rename_i h1
  split
  ·rename_i h
   have:pI p=true:=by unfold pI; rw [decide_eq_true h,Bool.or_true]
   rw [this] at hK
   simpa using hK H
  ·rename_i h
   have:pI p=false:=by unfold pI lT; rw [decide_eq_false h,decide_eq_false h1]; rfl
   rw [this] at hK
   exact ih (k+1) H (by omega) (by omega) (by simpa using hK)
theorem NY {L:List Nd} {m:Nat} {n:Nd} (hn:L[m]?=some n) (hm:m<100) {K:AV→Hp→Prop} {y5:AV} (hl:n.attrs.length≤8) (hl2:n.classes.length≤8)
  (h0:∀ H y4 y5,(∀ H,K (Bo (kY L (m+1))) H)→aA.L0 σ K (nds L) (I ((m+1:Nat):Int)) y4 y5 H):∀ (f k:Nat) (H:Hp),n.classes.length - k=f→k≤n.classes.length→(∀ H,K (Bo ((n.classes.drop k).any lT||(n.attrs.any pI||kY L (m+1)))) H) →
  aA.L1 σ K (nds L) (I (m:Int)) (I (k:Int)) y5 H:=by
 have hix:aC 5 (nds L) (I (m:Int))=some (.ip (bD n)):=eU hn
 intro f
 induction f with
 | zero =>
  intro k H hf hk hK
  have:k=n.classes.length:=by omega
  subst this
  refine aA.L1_step ?_
  simp only [hix,ae,qi,nb,n0,nV,dn,Int.lt_irrefl,decide_false,aj,Bool.false_eq_true,if_false]
  exact Mc hn hm hl h0 _ 0 H rfl (Nat.zero_le _) (by simpa using hK)
 | succ f ih =>
  intro k H hf hk hK
  have hlt:k<n.classes.length:=by omega
  obtain ⟨p,hp⟩:=k_ hlt
  rw [ig hp,List.any_cons] at hK
  have hlt':(k:Int)<n.classes.length:=by omega
  have hixp:aC 1 (eW n.classes) (I (k:Int))=some (.ip [Sx p]):=eU hp
  have lx:∀ H,ldA false 1 H (.ip [Sx p])=some (Sx p):=fun _=>rfl
  have hw:wr .i64 ((k:Int)+1)=((k+1:Nat):Int):=ga (by omega)
  refine aA.L1_step ?_
  simp only [hix,ae,qi,nb,n0,nV,dn,hlt',decide_true,aj,if_true,hixp,iD,qt,jf,decide_eq_true_eq,gp,hw]
  split
  ·rename_i h
   have:lT p=true:=decide_eq_true h
   rw [this] at hK
   simpa using hK H
  ·rename_i h
   have:lT p=false:=decide_eq_false h
   rw [this] at hK
   exact ih (k+1) H (by omega) (by omega) (by simpa using hK)
theorem qF {L:List Nd} {K:AV→Hp→Prop} {H:Hp} (hK:∀ H,K (Bo (u0 L)) H):bnd (az (nds L)) fun x24=>bnd (ai .gtr x24 (I 40)) fun x25=>ifB x25 (bnd (az (nds L)) fun x26=>bnd (ai .leq x26 (I 4096)) fun x27=>ifB x27 (K (Bo true) H) (bnd (az (nds L)) fun x28=>bnd (ai .gtr x28 (I 4100)) fun x29=>K x29 H)) (bnd (az (nds L)) fun x30=>bnd (ai .gtr x30 (I 4100)) fun x31=>K x31 H):=by
 simp only [iB,ae,jf,pr,aj,decide_eq_true_eq]
 have e:decide ((4100:Int)<(L.length:Int))=decide (4100<L.length):=by rw [decide_eq_decide]; omega
 rw [e]
 unfold u0 at hK
 by_cases h1:40<L.length
 ·have h1':(40:Int)<(L.length:Int):=by omega
  rw [if_pos h1] at hK
  rw [if_pos h1']
  by_cases h2:L.length≤4096
  ·have h2':(L.length:Int)≤4096:=by omega
   rw [if_pos h2] at hK
   rw [if_pos h2']
   exact hK H
  ·have h2':¬ (L.length:Int)≤4096:=by omega
   rw [if_neg h2] at hK
   rw [if_neg h2']
   exact hK H
 ·have h1':¬ (40:Int)<(L.length:Int):=by omega
  rw [if_neg h1] at hK
  rw [if_neg h1']
  exact hK H
theorem Ft (L:List Nd) (H:Hp):aq Tryz.prog σ jp [nds L] H (Bo (kY L 0)) H:=by
 refine fw (fun K hK=>aA.run ?_) (by simp [bG,cX]) rfl H
 have L0:∀ (f m:Nat) (H:Hp) (y4 y5:AV),100 - m=f→m≤L.length→m≤100→(∀ H,K (Bo (kY L m)) H)→aA.L0 σ K (nds L) (I (m:Int)) y4 y5 H:=by
  intro f
  induction f with
  | zero =>
   intro m H y4 y5 hf hm hm2 hK
   obtain rfl:m=100:=by omega
   have hK:∀ H,K (Bo (u0 L)) H:=by simpa [kY] using hK
   refine aA.L0_step ?_
   have e0:¬ (((100:Nat):Int)<100):=by decide
   by_cases h:((100:Nat):Int)<L.length
   ·simp only [iB,ae,dn,h,decide_true,aj,if_true,e0,decide_false,Bool.false_eq_true,if_false]
    have hE:=qF (H:=H) hK
    simp only [iB,ae,jf,pr] at hE ⊢
    exact hE
   ·simp only [iB,ae,dn,h,decide_false,aj,Bool.false_eq_true,if_false]
    have hE:=qF (H:=H) hK
    simp only [iB,ae,jf,pr] at hE ⊢
    exact hE
  | succ f ih =>
   intro m H y4 y5 hf hm hm2 hK
   refine aA.L0_step ?_
   have e0:((m:Nat):Int)<100:=by omega
   by_cases h:m<L.length
   ·have h':(m:Int)<L.length:=by omega
    obtain ⟨n,hn⟩:=k_ h
    rw [vR hn (by omega)] at hK
    have hix:aC 5 (nds L) (I (m:Int))=some (.ip (bD n)):=eU hn
    simp only [iB,ae,dn,h',decide_true,aj,if_true,e0,hix,qi,nb,n0,oN,vQ,Aw,nV,lA,List.length_map,qt,jf,decide_eq_true_eq]
    unfold GF at hK
    split
    ·rename_i h1; simp only [h1,decide_true,Bool.true_or] at hK; exact hK H
    rename_i h1
    split
    ·rename_i h2; simp only [h2,decide_true,Bool.true_or,Bool.or_true] at hK; exact hK H
    rename_i h2
    split
    ·rename_i h3
     have:lT n.tag=true:=decide_eq_true h3
     simp only [this,Bool.true_or,Bool.or_true] at hK; exact hK H
    rename_i h3
    split
    ·rename_i h4
     have:lT n.id=true:=decide_eq_true h4
     simp only [this,Bool.true_or,Bool.or_true] at hK; exact hK H
    rename_i h4
    have t3:lT n.tag=false:=decide_eq_false h3
    have t4:lT n.id=false:=decide_eq_false h4
    simp only [h1,h2,t3,t4,decide_false,Bool.false_or,Bool.or_assoc] at hK
    exact NY hn (by omega) (by omega) (by omega) (fun H y4 y5 hK'=>ih (m+1) H y4 y5 (by omega) (by omega) (by omega) hK') _ 0 H rfl (Nat.zero_le _) (by simpa using hK)
   ·have h':¬ (m:Int)<L.length:=by omega
    have:m=L.length:=by omega
    subst this
    have hK:∀ H,K (Bo (u0 L)) H:=by simpa [kY] using hK
    simp only [iB,ae,dn,h',decide_false,aj,Bool.false_eq_true,if_false]
    have hE:=qF (H:=H) hK
    simp only [iB,ae,jf,pr] at hE ⊢
    exact hE
 exact L0 _ 0 _ _ _ rfl (Nat.zero_le _) (by decide) hK
end
structure Az (L:List Nd) (d:List Nat):Prop where
 len:L.length≤40
 hB:c6 L L.length d
 sm:∀ n ∈ L,Jv n
end Go.Proofs.YtegioimlblnajaaGreat.Ev
namespace Go.Proofs.YtegioimlblnajaaGreat.Ev
set_option linter.unusedVariables false
set_option linter.unusedSimpArgs false
set_option maxRecDepth 100000
variable {σ:Sig}
section
variable {L:List Nd} {d:List Nat} {a1 y:AV} {m:Nat} {K:AV→Hp→Prop} {H0:Hp}
end
end Go.Proofs.YtegioimlblnajaaGreat.Ev
namespace Go.Proofs.YtegioimlblnajaaGreat.Ev
set_option linter.unusedVariables false
set_option linter.unusedSimpArgs false
variable {σ:Sig}
theorem I3 {L:List Nd} {d:List Nat} (hN:L.length≤4096) (hB:c6 L L.length d) (hb:kY L 0=false):Az L d:=by
 unfold kY u0 at hb
 simp only [Bool.or_eq_false_iff,List.drop_zero] at hb
 have hl:L.length≤40:=by
  have h2:=hb.2
  by_cases h:40<L.length
  ·rw [if_pos h,if_pos hN] at h2; cases h2
  ·omega
 refine ⟨hl,hB,fun n hn=>Jv.of ?_⟩
 have:=List.any_eq_false.1 hb.1 n (by rw [List.take_of_length_le (by omega)]; exact hn)
 simpa using this
theorem iQ {n:Int} {H:Hp} {K:AV→Hp→Prop} (hK:K (I n) H):af Tryz.prog σ aX [I n] H K:=ml.run hK
abbrev iq:AV:=.lit (.slice none 0 0)
end Go.Proofs.YtegioimlblnajaaGreat.Ev
namespace Go.Proofs.YtegioimlblnajaaGreat.Ev
set_option linter.unusedVariables false
set_option linter.unusedSimpArgs false
set_option maxRecDepth 100000
variable {σ:Sig}
theorem oP (H:Hp):aq Tryz.prog σ fd [iq] H iq H:=by
 refine fw (fun K hK=>cW.run ?_) rfl rfl H
 refine cR.run (aa rfl ?_)
 rw [aj,if_pos (show (none:Option Addr).isNone=true from rfl)]
 refine aa rfl (cW.L0_step ?_)
 refine aa rfl ?_
 rw [aj,if_neg (by decide)]
 exact hK _
theorem rH (H:Hp):aq Tryz.prog σ fX [iq] H iq H:=by
 refine fw (fun K hK=>db.run ?_) rfl rfl H
 refine aa rfl (db.L0_step (aa rfl ?_))
 rw [aj,if_neg (by decide)]
 exact hK _
def z16:AV:=.agg (List.replicate 16 (I 0))
theorem Px {H:Hp} {a:Nat} (h:H.get a=some (.cells (List.replicate 16 (I 0)) true)):stA 16 H (.ptr a 0) z16=some (H.set a (some (.cells (List.replicate 16 (I 0)) true))):=by
 unfold z16
 rw [tM,if_pos (by simp),h,kz,if_pos ⟨by simp,by rfl⟩,cd (by simp)]
theorem Pp (H:Hp) (a:Nat):ldA true 16 (H.set a (some (.cells (List.replicate 16 (I 0)) true))) (.ptr a 0)=some z16:=by
 rw [cu,cb,if_pos rfl]; rfl
theorem sX (L:List Nd) (d:List Nat) (e:Int) (H:Hp):aq Tryz.prog σ dy [fE L d,I e,iq] H z16 H:=by
 refine fw (fun K hK=>bT.run ?_) (by simp [bG,cX,i_]) rfl H
 rw [cK]
 refine aa rfl (bT.L0_step (aa rfl ?_))
 rw [aj,if_neg (by decide)]
 refine fG.run ?_
 have hd:(fE L d).cells=[fE L d]∧(fE L d).isAny=false:=⟨rfl,rfl⟩
 rw [ja hd.2 hd.1,ja rfl rfl,ja rfl rfl,ja rfl rfl,ja rfl rfl]
 refine cM.run ?_
 rw [cK,cK,cK,cK]
 intro js
 rw [pS]
 refine ak.run ?_
 refine aa (x:=iq) (by kernel_rfl) ?_
 refine aa (x:=I 0) rfl ?_
 refine ak.L0_step ?_
 refine aa (x:=Bo false) rfl ?_
 rw [aj,if_neg (by decide)]
 rw [cy,if_pos rfl,pj]
 refine aa (x:=z16) (by kernel_rfl) ?_
 refine aa (Px (by kernel_rfl)) (aa (Pp _ _) ?_)
 refine aa (Px (by kernel_rfl)) (aa (Pp _ _) (hK _))
def jT:List Int:=[0,16000,0,2,-1,0,1000,1099511627776]
theorem No (H:Hp):aq Tryz.prog σ cF [.lit (.pointer none),z16] H (.agg (jT.map I)) H:=by
 cases he:evF (CZ σ) fnT.get JQ 1000 60 cF [.lit (.pointer none),z16] Hp.empty with
 | none =>
  exfalso
  have:(evF (CZ σ) fnT.get JQ 1000 60 cF [.lit (.pointer none),z16] Hp.empty).isSome=true:=by kernel_rfl
  rw [he] at this; cases this
 | some p =>
  obtain ⟨r,H'⟩:=p
  have hg:=xV (CZ σ) ug JY tU 1000 60 cF [.lit (.pointer none),z16] Hp.empty r H' he
  have hr:(evF (CZ σ) fnT.get JQ 1000 60 cF [.lit (.pointer none),z16] Hp.empty).map (·.1)=some (.agg (jT.map I)):=by kernel_rfl
  rw [he] at hr
  cases hr
  exact hg.frzR rfl (.refl rfl) H
end Go.Proofs.YtegioimlblnajaaGreat.Ev
namespace Go.Proofs.YtegioimlblnajaaGreat.Ev
set_option linter.unusedVariables false
set_option linter.unusedSimpArgs false
structure Oq where
 x:Int
 t:Int
 b:Int
 ok:Bool
 g:Nat
structure Al (s:S) (w:Nat) (pl:List Int) (T B:Int) (q:Option Oq):Prop where
 pl:s.pl=pl
 top:s.top=T
 bot:s.bot=B
 no:∀ v,v≠w→s.op v=none
 op:match q with
  | none=>s.op w=none
  | some q=>∃ id,s.op w=some ⟨id,q.x,q.t,q.b,q.ok,.fn q.g []⟩
theorem Al.other {s:S} {w w':Nat} {pl:List Int} {T B:Int} (h:Al s w pl T B none):Al s w' pl T B none :=
 have ha:∀ v,s.op v=none:=fun v=>by
  by_cases e:v=w
  ·subst e; exact h.op
  ·exact h.no v e
 ⟨h.pl,h.top,h.bot,fun v _=>ha v,ha w'⟩
theorem Al.beg {s:S} {kind who:Nat} {pl:List Int} {T B:Int} {x:Int} (h:Al s (dby kind who) pl T B none) (hh:Nat):Al (jJ s (dby kind who) (dfn kind) x hh) (dby kind who) pl T B (some ⟨x,0,0,false,dfn kind⟩):=by
 have:s.op (dby kind who)=none:=h.op
 unfold jJ
 rw [if_neg (by rw [this]; simp)]
 exact ⟨h.pl,h.top,h.bot,fun v hv=>by simp only [put,fJ _ _ hv]; exact h.no v hv,hh,by simp only [put,cq]⟩
theorem Al.on {s:S} {kind who:Nat} {pl:List Int} {T B:Int} {q:Oq} {x:Int} (h:Al s (dby kind who) pl T B (some q)) (hh:Nat):jJ s (dby kind who) (dfn kind) x hh=s:=by
 obtain ⟨id,ho⟩:=h.op
 unfold jJ
 rw [if_pos (by rw [ho]; rfl)]
section
variable {s:S} {w:Nat} {pl:List Int} {T B:Int} {q:Oq}
theorem Al.fn {g:Nat} {s1:S} {o1:O} {pl':List Int} {T' B':Int} {q':Oq} (h:Al s w pl T B (some q)) (hd:∀ id,dph s w ⟨id,q.x,q.t,q.b,q.ok,.fn q.g []⟩ q.g=(s1,{ o1 with id:=id },some g)) (e1:s1.op=s.op) (e2:s1.pl=pl') (e3:s1.top=T') (e4:s1.bot=B') (e5:q'=⟨o1.x,o1.t,o1.b,o1.ok,g⟩) :
  Al (bf s w).1 w pl' T' B' (some q')∧(bf s w).2=(false,0,false):=by
 obtain ⟨id,ho⟩:=h.op
 rw [n6 ho rfl (hd id)]
 subst e5
 exact ⟨⟨e2,e3,e4,fun v hv=>by simp only [put,fJ _ _ hv,e1]; exact h.no v hv,id,by simp only [put,cq]⟩,rfl⟩
theorem Al.nil {s1:S} {o1:O} {pl':List Int} {T' B' x:Int} {ok:Bool} (h:Al s w pl T B (some q)) (hd:∀ id,dph s w ⟨id,q.x,q.t,q.b,q.ok,.fn q.g []⟩ q.g=(s1,{ o1 with id:=id },none)) (e2:s1.pl=pl') (e3:s1.top=T') (e4:s1.bot=B') (e5:ok=o1.ok) (e6:x=if o1.ok=true then o1.x else 0) :
  Al (bf s w).1 w pl' T' B' none∧(bf s w).2=(true,x,ok):=by
 obtain ⟨id,ho⟩:=h.op
 rw [mX ho rfl (hd id)]
 subst e5 e6
 exact ⟨⟨e2,e3,e4,fun v hv=>by simp only [fJ _ _ hv]; exact h.no v hv,by simp only [cq]⟩,rfl⟩
variable {x t b:Int} {ok:Bool}
theorem IH (h:Al s w pl T B (some ⟨x,t,b,ok,bC⟩)):Al (bf s w).1 w pl T B (some ⟨x,t,B - 1,ok,cm⟩)∧(bf s w).2=(false,0,false) :=
 h.fn (o1:=⟨0,x,t,s.bot - 1,ok,.fn bC []⟩) (fun id=>rfl) rfl h.pl h.top h.bot (by rw [h.bot])
theorem KE (h:Al s w pl T B (some ⟨x,t,b,ok,cm⟩)):Al (bf s w).1 w pl T b (some ⟨x,t,b,ok,bx⟩)∧(bf s w).2=(false,0,false) :=
 h.fn (s1:={ acc s w (-1001) true with bot:=b }) (o1:=⟨0,x,t,b,ok,.fn cm []⟩) (fun id=>rfl) rfl h.pl h.top rfl rfl
theorem K5 (h:Al s w pl T B (some ⟨x,t,b,ok,bx⟩)) (hb:¬ b<T):Al (bf s w).1 w pl T B (some ⟨x,T,b,ok,bi⟩)∧(bf s w).2=(false,0,false) :=
 h.fn (o1:=⟨0,x,s.top,b,ok,.fn bx []⟩) (fun id=>yZ (by rw [h.top]; exact hb)) rfl h.pl h.top h.bot (by rw [h.top])
theorem Ki (h:Al s w pl T B (some ⟨x,t,b,ok,bi⟩)) (hb:¬ t<b):Al (bf s w).1 w pl T B (some ⟨pv pl b,t,b,ok,bq⟩)∧(bf s w).2=(false,0,false) :=
 h.fn (s1:=acc s w (-1002 - atI s b) false) (o1:=⟨0,s.pl.getD (b.tmod s.pl.length).toNat 0,t,b,ok,.fn bi []⟩) (fun id=>B4 hb) rfl h.pl h.top h.bot (by rw [h.pl]; rfl)
theorem Lr (h:Al s w pl T B (some ⟨x,T,b,ok,bq⟩)):Al (bf s w).1 w pl (T+1) B (some ⟨x,T,b,true,aL⟩)∧(bf s w).2=(false,0,false) :=
 h.fn (s1:={ acc s w (-1000) true with top:=T+1 }) (o1:=⟨0,x,T,b,true,.fn bq []⟩) (fun id=>LO h.top) rfl h.pl rfl h.bot rfl
theorem uu (h:Al s w pl T B (some ⟨x,t,b,ok,aL⟩)):Al (bf s w).1 w pl T (b+1) none∧(bf s w).2=(true,if ok=true then x else 0,ok) :=
 h.nil (s1:={ acc s w (-1001) true with bot:=b+1 }) (o1:=⟨0,x,t,b,ok,.fn aL []⟩) (fun id=>rfl) h.pl h.top rfl rfl rfl
end
end Go.Proofs.YtegioimlblnajaaGreat.Ev
namespace Go.Proofs.YtegioimlblnajaaGreat.Ev
set_option linter.unusedVariables false
set_option linter.unusedSimpArgs false
variable {σ:Sig} {P:Pm} {rl sl:AV} {G:MG} {M M':MS} {H H':Hp} {tg tg':Nat→Tg} {K:AV→Hp→Prop}
def Ap (M:MS) (e:Int):List Int × Int:=if qB M e=true then (kL M (ofI M e),if 0<cnt M (ofI M e) then 0 else 6) else (z8,6)
theorem vD (h:Ok P rl sl G M H tg) (hl:M.of.length=M.pub.length) (e:Int) (hK:∀ H' tg',Fx (fun _=>False) H tg H' tg'→K (.tup [.agg ((Ap M e).1.map I),I (Ap M e).2]) H'):af Tryz.prog σ dx [.ptr G.m 0,I e] H K:=by
 refine fB.run ?_
 rw [cK]
 have f0:Fx (fun _=>False) H tg (H.new (.cells [I 0,I 0,I 0,I 0,I 0,I 0,I 0,I 0] true)) (up tg H.n .fr):=.new _ _
 have g0:(H.new (.cells [I 0,I 0,I 0,I 0,I 0,I 0,I 0,I 0] true)).get H.n=some (.cells [I 0,I 0,I 0,I 0,I 0,I 0,I 0,I 0] true):=by simp
 have l0:H.n<(H.new (.cells [I 0,I 0,I 0,I 0,I 0,I 0,I 0,I 0] true)).n:=by simp
 have h0:=h.keep f0
 generalize H.new (.cells [I 0,I 0,I 0,I 0,I 0,I 0,I 0,I 0] true)=H0 at f0 h0 g0 l0 ⊢
 have hfr:up tg H.n .fr H.n=Tg.fr:=by simp
 generalize up tg H.n .fr=tg0 at f0 h0 hfr
 have fin:∀ (s:List Int) (x:Int) (H1:Hp) (tg1:Nat→Tg),s.length=8→Fx (fun _=>False) H0 tg0 H1 tg1→K (.tup [.agg (s.map I),I x]) (H1.set H.n (some (.cells (s.map I) true)))→bnd (stA 8 H1 (.ptr H.n 0) (.agg (s.map I))) fun H20=>bnd (ldA true 8 H20 (.ptr H.n 0)) fun r21=>K (.tup [r21,I x]) H20:=by
  intro s x H1 tg1 h8 f1 hk
  have g1:H1.get H.n=some (.cells [I 0,I 0,I 0,I 0,I 0,I 0,I 0,I 0] true):=by rw [f1.get _ l0 fun h=>h]; exact g0
  have e1:stA 8 H1 (.ptr H.n 0) (.agg (s.map I))=some (H1.set H.n (some (.cells (s.map I) true))):=by
   rw [tM,if_pos (by simpa using h8),g1,kz,if_pos ⟨by simp [h8],by rw [List.all_map]; exact List.all_eq_true.2 fun _ _=>rfl⟩,cd (by simp [h8])]
  refine aa e1 (aa (x:=.agg (s.map I)) ?_ hk)
  rw [cu,cb,if_pos rfl,i5,List.drop_zero]
  exact dZ (by simpa using h8)
 have fend:∀ (b:Option Blk) (H1:Hp) (tg1:Nat→Tg),Fx (fun _=>False) H0 tg0 H1 tg1→Fx (fun _=>False) H tg (H1.set H.n b) tg1:=fun b H1 tg1 f1=>by
  have f01:=f0.trans f1
  refine ⟨f01.n,f01.old,fun j hj hn=>?_⟩
  rw [cb,if_neg (by omega)]
  exact f01.get j hj hn
 refine wK h0 e ?_
 rw [g9,ae,aj]
 unfold Ap at hK
 cases hp:qB M e with
 | false =>
  rw [if_pos (show (!false)=true from rfl)]
  simp only [hp,Bool.false_eq_true,if_false] at hK
  refine aa (x:=z8.map I) rfl ?_
  exact fin z8 6 H0 tg0 rfl .refl (hK _ _ (fend _ _ _ .refl))
 | true =>
  rw [if_neg (show ¬ (!true)=true by decide)]
  simp only [hp,if_true] at hK
  unfold qB at hp
  simp only [Bool.and_eq_true,decide_eq_true_eq] at hp
  obtain ⟨n,rfl⟩:∃ k:Nat,e=k:=⟨e.toNat,by omega⟩
  obtain ⟨of,id,off,e1,_,e2,e3,_⟩:=lj h0 (e:=n) (by omega)
  refine aa rfl (aa rfl (aa rfl (aa rfl (aa e1 (aa e2 (aa e3 ?_))))))
  refine uO h0 _ fun H1 tg1 f1=>?_
  refine aa rfl (aa rfl ?_)
  exact fin _ _ H1 tg1 (pZ h _) f1 (hK _ _ (fend _ _ _ f1))
theorem E4 (h:Ok P rl sl G M H tg) (hl:M.last.length≤1000) (hK:∀ r H' tg',Fx (fun _=>False) H tg H' tg'→Gs 4 H' r (M.last.map uM)→(∀ j,own r j→H.n≤j)→K r H'):af Tryz.prog σ bt [.ptr G.m 0] H K:=by
 obtain ⟨st,of,la,b,r1,r2,r3,r4⟩:=h.m.e
 refine fO.run (aa rfl (aa rfl (aa (b.cell rfl) ?_)))
 obtain ⟨s1,s2⟩:=r4.src
 refine qL (rows:=[]) .nil s2 s1 r4.szs ?_ (by simp; omega) (by simp; omega) fun x' H1 g1 f1=>?_
 ·rw [List.all_flatten,List.all_map]
  exact List.all_eq_true.2 fun _ _=>rfl
 ·rw [List.nil_append] at g1
  refine hK x' H1 (fun j=>if j<H.n then tg j else .fr) ⟨f1.grow,fun j hj=>if_pos hj,fun j hj _=>f1.same j hj fun h=>h⟩ g1 fun j hj=>?_
  rcases f1.mine j hj with h | h
  ·exact h.elim
  ·exact h.1
theorem Ow.none' {T B E:Int} {pl:List Int} {pu fl:Option Int} (h:Ow T B pl pu E fl none):pu=none∧E=B∧fl=none:=by cases h; exact ⟨rfl,rfl,rfl⟩
theorem LA {c:Int} {s:S} {E:Int} {L:List Int} (h:Iv c s E L none none) (no:∀ w,s.op w=none) (w:Nat):Al s w s.pl s.top (s.top+L.length) none:=by
 have how:=h.ow
 rw [no 0] at how
 have hb:s.bot=s.top+L.length:=by
  have:=h.lL
  have:=how.none'.2.1
  omega
 exact ⟨rfl,rfl,hb,fun v _=>no v,no w⟩
theorem O6 {c:Int} {s:S} {E v:Int} {L:List Int} {pu fl:Option Int} (h:Iv c s E (v::L) fl pu):pv s.pl s.top=v:=by
 have:=h.lv 0 (by simp)
 simpa using this
theorem Db {s:S} {kind who:Nat} {pl:List Int} {T B x:Int} {q:Option Oq} (h:Al s (dby kind who) pl T B q) (hp:pl.length=16) (hT:0≤T∧T≤100000) (hB:-1≤B∧B≤100000) (hg:∀ o,q=some o→o.g ∈ phs∧sm o.b∧(o.g ∈ phZ→0≤o.b)∧(o.g ∈ phT→0≤o.t)):DOk s kind who x:=by
 intro hh
 have key:∀ (s':S) (o:Oq),Al s' (dby kind who) pl T B (some o)→(o.g ∈ phs∧sm o.b∧(o.g ∈ phZ→0≤o.b)∧(o.g ∈ phT→0≤o.t))→∃ o g,s'.op (dby kind who)=some o∧Sf s' o g:=by
  intro s' o ha hgo
  obtain ⟨id,ho⟩:=ha.op
  refine ⟨_,o.g,ho,rfl,hgo.1,by rw [ha.pl]; omega,by rw [ha.pl]; omega,by rw [ha.top]; unfold sm; omega,by rw [ha.bot]; unfold sm; omega,fun _=>hgo.2.1,hgo.2.2.1,hgo.2.2.2⟩
 have hl:s.pl.length≤1000:=by rw [h.pl]; omega
 cases q with
 | none =>
  obtain ⟨o,g,h1,h2⟩:=key _ _ (h.beg (x:=x) hh) (by
   have:dfn kind=bj∨dfn kind=bC∨dfn kind=aN:=by
    unfold dfn; split
    ·exact .inl rfl
    ·split
     ·exact .inr (.inl rfl)
     ·exact .inr (.inr rfl)
   show dfn kind ∈ phs∧sm 0∧(dfn kind ∈ phZ→(0:Int)≤0)∧(dfn kind ∈ phT→(0:Int)≤0)
   refine ⟨?_,by unfold sm; omega,fun _=>Int.le_refl _,fun _=>Int.le_refl _⟩
   rcases this with h | h | h<;>rw [h]<;>decide)
  exact ⟨o,g,h1,h2,hl⟩
 | some o =>
  obtain ⟨o',g,h1,h2⟩:=key s o h (hg o rfl)
  exact ⟨o',g,by rw [h.on]; exact h1,by rw [h.on]; exact h2,hl⟩
end Go.Proofs.YtegioimlblnajaaGreat.Ev
namespace Go.Proofs.YtegioimlblnajaaGreat.Ev
set_option linter.unusedVariables false
set_option linter.unusedSimpArgs false
variable {P:Pm} {M:MS} {who v:Nat} {h:Nat} {x:Int}
def tN (M:MS) (who owner kind:Nat) (x:Int) (h:Nat):MS:=(mdq M who owner kind x h).1
theorem uP (M:MS) (who owner kind:Nat) (x:Int) (h:Nat) (i:Nat):(tN M who owner kind x h).ws i=if i=owner then { M.ws owner with dq:=(dnx (M.ws owner).dq kind who x h).1 } else M.ws i:=rfl
theorem Jj (hr:(dnx (M.ws who).dq 2 who 0 h).2=(false,0,false)):nj P M who h=tN M who who 2 0 h:=by
 have:(mdq M who who 2 0 h).2=(false,0,false):=hr
 unfold nj
 simp only [this]
 rfl
theorem u5 (hr:(dnx (M.ws who).dq 2 who 0 h).2=(true,x,true)):nj P M who h=(tN M who who 2 0 h).begin who x:=by
 have:(mdq M who who 2 0 h).2=(true,x,true):=hr
 unfold nj
 simp only [this]
 rfl
structure Sme (M M':MS):Prop where
 left:M'.left=M.left
 of:M'.of=M.of
 pub:M'.pub=M.pub
 st:M'.st=M.st
theorem Sme.refl (M:MS):Sme M M:=⟨rfl,rfl,rfl,rfl⟩
theorem Sme.trans {M M' M'':MS} (h:Sme M M') (h':Sme M' M''):Sme M M'':=⟨h'.1.trans h.1,h'.2.trans h.2,h'.3.trans h.3,h'.4.trans h.4⟩
end Go.Proofs.YtegioimlblnajaaGreat.Ev
namespace Go.Proofs.YtegioimlblnajaaGreat.Ev
set_option linter.unusedVariables false
set_option linter.unusedSimpArgs false
set_option maxRecDepth 100000
variable {σ:Sig}
def alL:List Nd:=[⟨-1,⟨#[97]⟩,⟨#[]⟩,[],[]⟩]
theorem alB:c6 alL alL.length [0]:=c6.first (by decide) rfl
theorem alW:∀ n ∈ alL,k4 n:=by
 intro n hn
 rw [List.mem_singleton.1 hn]
 exact ⟨by unfold i64; decide,by decide,by decide,by decide,by intro p hp; cases hp⟩
def pN (W:Nat) (L:List Nd) (d:List Nat):Pm:=⟨W,L,d,fun _ _=>false,fun _ _=>jT⟩
theorem Ji {W:Nat} {L:List Nd} {d:List Nat} {e:Nat} (hp:par L e<0):ur σ (pN W L d) iq e :=
 ⟨z16,fun H=>sX L d e H,rfl,fun _ H=>No H,fun h=>absurd hp (by show ¬ par L e<0; have:0≤par L e:=h; omega)⟩
theorem enN {W:Nat} {L:List Nd} {d:List Nat} (hW:W≤64) (hT:Az L d):En (pN W L d):=⟨fun _ _=>rfl,by have:=hT.len; show L.length≤4096; omega,hW,hT.hB⟩
theorem Kh {P:Pm} {n:Nat} {M:MS} (i0:Ini P n M) {i:Nat} (hi:i<P.W) (kind who:Nat) (x:Int):DOk (M.ws i).dq kind who x:=by
 obtain ⟨⟨E,iv⟩,no⟩:=i0.dq i hi
 have hl:=iv.hl
 have ht:=iv.t0
 have hlL:=iv.lL
 have hen:=iv.en
 have hln:=iv.ln
 exact Db (LA iv no _) hl (by omega) (by omega) fun o ho=>by cases ho
structure A0 (M:MS) (mode:Nat) (q:Option Oq) (pl:List Int) (T B:Int):Prop where
 left:M.left=1
 of:M.of=[-1]
 pub:M.pub=[false]
 st:M.st=[]
 mode:(M.ws 0).mode=mode
 stk:(M.ws 0).stk=[]
 ca:(M.ws 0).ca=[]
 dq:Al (M.ws 0).dq 0 pl T B q
theorem A0.step {M:MS} {q q':Option Oq} {pl pl':List Int} {T B T' B':Int} (h:A0 M 0 q pl T B) (hh:Nat) (hs:Al (dnx (M.ws 0).dq 2 0 0 hh).1 0 pl' T' B' q'∧(dnx (M.ws 0).dq 2 0 0 hh).2=(false,0,false)):A0 (dr (pN 1 alL [0]) M 0 0 hh) 0 q' pl' T' B':=by
 have e:dr (pN 1 alL [0]) M 0 0 hh=tN { M with last:=[] } 0 0 2 0 hh:=by
  unfold dr
  rw [if_pos h.mode]
  exact Jj hs.2
 rw [e]
 have ew:(tN { M with last:=[] } 0 0 2 0 hh).ws 0={ M.ws 0 with dq:=(dnx (M.ws 0).dq 2 0 0 hh).1 }:=by rw [uP,if_pos rfl]
 exact ⟨h.left,h.of,h.pub,h.st,by rw [ew]; exact h.mode,by rw [ew]; exact h.stk,by rw [ew]; exact h.ca,by rw [ew]; exact hs.1⟩
section
attribute [local irreducible] bz.L0
variable {G:MG} {M:MS} {H:Hp} {tg:Nat→Tg} {K:AV→Hp→Prop}
theorem alE:En (pN 1 alL [0]):=⟨fun _ _=>rfl,by decide,by decide,alB⟩
theorem sv {i:Nat} (hi:i<9) (h:Ok (pN 1 alL [0]) iq iq G M H tg) (S:Sp (pN 1 alL [0]) M 0 0) (T:(M.ws 0).mode=2→(M.ws 0).ca=[]) (hl:M.left≠0) (hM:∀ hh,(dr (pN 1 alL [0]) M 0 0 hh).left=if i=8 then 0 else 1)
  (hn:∀ hh H' tg',Ok (pN 1 alL [0]) iq iq G (dr (pN 1 alL [0]) M 0 0 hh) H' tg'→bz.L0 σ K (.ptr G.m 0) (I ((i+1:Nat):Int)) H'):bz.L0 σ K (.ptr G.m 0) (I (i:Int)) H:=by
 refine bz.L0_step ?_
 rw [dn,ae,aj,if_pos (by simp; omega)]
 refine aa (x:=[I 0,I 0]) rfl ?_
 refine qC (a:=0) (b:=0) alE h (fun _ _ _=>S) (fun a0' aW' e m2 he hel=>?_) fun hh H1 tg1 h1 f1=>?_
 ·have m2:(M.ws 0).mode=2:=m2
  have e0:e=0:=by have:e<1:=hel; omega
  subst e0
  refine ⟨fun c hc=>?_,Ji (by decide)⟩
  have hc:(c:Int) ∈ eH (M.ws 0).ca:=hc
  rw [T m2] at hc
  simp [eH] at hc
 ·have es:gq (pN 1 alL [0]) M 0 0 hh=(dr (pN 1 alL [0]) M 0 0 hh,true):=by
   unfold gq
   rw [if_neg]
   ·rfl
   ·rintro (h | h | h)
    ·exact hl h
    ·omega
    ·have:((1:Nat):Int)≤0:=h; omega
  rw [es] at h1 ⊢
  rw [g9,ae,aj,if_neg (show ¬ (!true)=true by decide)]
  refine uI h1 ?_
  rw [hM hh,gj,ae]
  have ed:(decide ((if i=8 then (0:Int) else 1)=0))=decide ((i:Int)=8):=by
   by_cases e:i=8
   ·subst e; rfl
   ·rw [if_neg e]
    have:¬ (i:Int)=8:=by omega
    simp [this]
  rw [ed,nQ,ae,aj,if_neg (by simp),gp,ae,kr (by omega)]
  exact hn hh H1 tg1 h1
theorem Dg {q:Option Oq} {pl:List Int} {T B:Int} (h:A0 M 0 q pl T B) (hp:pl.length=16) (hT:0≤T∧T≤100000) (hB:-1≤B∧B≤100000) (hg:∀ o,q=some o→o.g ∈ phs∧sm o.b∧(o.g ∈ phZ→0≤o.b)∧(o.g ∈ phT→0≤o.t)):Sp (pN 1 alL [0]) M 0 0 :=
 ⟨by rw [h.mode]; decide,fun _=>Db (kind:=2) (who:=0) h.dq hp hT hB hg,(fun e=>by rw [h.mode] at e; cases e),(fun e=>by rw [h.mode] at e; cases e),(fun e=>by rw [h.mode] at e; cases e),(fun e=>by rw [h.mode] at e; cases e)⟩
theorem gk {x t b:Int} {ok:Bool} {g:Nat} {o:Oq} (e:some (⟨x,t,b,ok,g⟩:Oq)=some o) (h1:g ∈ phs) (h2:sm b) (h3:g ∈ phZ→0≤b) (h4:g ∈ phT→0≤t):o.g ∈ phs∧sm o.b∧(o.g ∈ phZ→0≤o.b)∧(o.g ∈ phT→0≤o.t):=by cases e; exact ⟨h1,h2,h3,h4⟩
theorem sY {i:Nat} (hi:i<8) {q q':Option Oq} {pl pl':List Int} {T B T' B':Int} (h:Ok (pN 1 alL [0]) iq iq G M H tg) (a:A0 M 0 q pl T B) (hp:pl.length=16) (hT:0≤T∧T≤100000) (hB:-1≤B∧B≤100000) (hg:∀ o,q=some o→o.g ∈ phs∧sm o.b∧(o.g ∈ phZ→0≤o.b)∧(o.g ∈ phT→0≤o.t))
  (hs:∀ hh,Al (dnx (M.ws 0).dq 2 0 0 hh).1 0 pl' T' B' q'∧(dnx (M.ws 0).dq 2 0 0 hh).2=(false,0,false)) (hn:∀ M' H' tg',Ok (pN 1 alL [0]) iq iq G M' H' tg'→A0 M' 0 q' pl' T' B'→bz.L0 σ K (.ptr G.m 0) (I ((i+1:Nat):Int)) H'):bz.L0 σ K (.ptr G.m 0) (I (i:Int)) H :=
 sv (by omega) h (Dg a hp hT hB hg) (fun e=>by rw [a.mode] at e; cases e) (by rw [a.left]; decide) (fun hh=>by rw [if_neg (by omega)]; exact (a.step hh (hs hh)).left) fun hh H' tg' h'=>hn _ H' tg' h' (a.step hh (hs hh))
theorem mQ {s:S} {pl:List Int} {T B:Int} {q:Oq} (h:Al s 0 pl T B (some q)) (hh:Nat):dnx s 2 0 0 hh=bf s 0:=by
 have:jJ s 0 bC 0 hh=s:=h.on (kind:=2) (who:=0) hh
 show bf (jJ s 0 bC 0 hh) 0=_
 rw [this]
theorem sV {x:Int} (h:-1≤x∧x≤100000):sm x:=by unfold sm; omega
theorem Nr {pl:List Int} {T:Int} (h:Ok (pN 1 alL [0]) iq iq G M H tg) (a:A0 M 0 none pl T (T+1)) (hp:pl.length=16) (hT:0≤T∧T≤1000) (hv:pv pl T=0)
  (hn:∀ M' H' tg',Ok (pN 1 alL [0]) iq iq G M' H' tg'→A0 M' 2 none pl (T+1) (T+1)→(M'.ws 0).e=0→bz.L0 σ K (.ptr G.m 0) (I 6) H'):bz.L0 σ K (.ptr G.m 0) (I 0) H:=by
 refine sY (i:=0) (by decide) h a hp (by omega) (by omega) (fun o ho=>by cases ho) (fun hh=>IH (a.dq.beg (kind:=2) (who:=0) (x:=0) hh)) fun M1 H1 tg1 h1 a1=>?_
 rw [show T+1 - 1=T by omega] at a1
 refine sY (i:=1) (by decide) h1 a1 hp (by omega) (by omega) (fun o ho=>gk ho (by decide) (sV (by omega)) (fun h=>absurd h (by decide)) fun h=>absurd h (by decide)) (fun hh=>by rw [mQ a1.dq]; exact KE a1.dq) fun M2 H2 tg2 h2 a2=>?_
 refine sY (i:=2) (by decide) h2 a2 hp (by omega) (by omega) (fun o ho=>gk ho (by decide) (sV (by omega)) (fun h=>absurd h (by decide)) fun h=>absurd h (by decide)) (fun hh=>by rw [mQ a2.dq]; exact K5 a2.dq (by omega)) fun M3 H3 tg3 h3 a3=>?_
 refine sY (i:=3) (by decide) h3 a3 hp (by omega) (by omega) (fun o ho=>gk ho (by decide) (sV (by omega)) (fun _=>by omega) fun h=>absurd h (by decide)) (fun hh=>by rw [mQ a3.dq]; exact Ki a3.dq (by omega)) fun M4 H4 tg4 h4 a4=>?_
 refine sY (i:=4) (by decide) h4 a4 hp (by omega) (by omega) (fun o ho=>gk ho (by decide) (sV (by omega)) (fun h=>absurd h (by decide)) fun h=>absurd h (by decide)) (fun hh=>by rw [mQ a4.dq]; exact Lr a4.dq) fun M5 H5 tg5 h5 a5=>?_
 have e6:∀ hh,dr (pN 1 alL [0]) M5 0 0 hh=(tN { M5 with last:=[] } 0 0 2 0 hh).begin 0 0:=fun hh=>by
  unfold dr
  rw [if_pos a5.mode]
  refine u5 ?_
  show (dnx (M5.ws 0).dq 2 0 0 hh).2=(true,0,true)
  rw [mQ a5.dq,(uu a5.dq).2,if_pos rfl,hv]
 have a6:∀ hh,A0 (dr (pN 1 alL [0]) M5 0 0 hh) 2 none pl (T+1) (T+1)∧((dr (pN 1 alL [0]) M5 0 0 hh).ws 0).e=0:=fun hh=>by
  rw [e6 hh]
  have ew:((tN { M5 with last:=[] } 0 0 2 0 hh).begin 0 0).ws 0={ M5.ws 0 with dq:=(dnx (M5.ws 0).dq 2 0 0 hh).1,e:=0,mode:=2 }:=by
   unfold MS.begin MS.w
   simp only [a_,uP,if_true]
  exact ⟨⟨a5.left,a5.of,a5.pub,a5.st,by rw [ew],by rw [ew]; exact a5.stk,by rw [ew]; exact a5.ca,by rw [ew]; show Al (dnx (M5.ws 0).dq 2 0 0 hh).1 0 pl (T+1) (T+1) none; rw [mQ a5.dq]; exact (uu a5.dq).1⟩,by rw [ew]⟩
 exact sv (i:=5) (by decide) h5 (Dg a5 hp (by omega) (by omega) (fun o ho=>gk ho (by decide) (sV (by omega)) (fun h=>absurd h (by decide)) fun h=>absurd h (by decide))) (fun e=>by rw [a5.mode] at e; cases e) (by rw [a5.left]; decide) (fun hh=>by rw [if_neg (by decide)]; exact (a6 hh).1.left) fun hh H' tg' h'=>hn _ H' tg' h' (a6 hh).1 (a6 hh).2
structure A7 (M:MS) (mode:Nat) (pub:Bool) (left:Int):Prop where
 left:M.left=left
 of:M.of=[0]
 pub:M.pub=[pub]
 st:M.st=[(jT,1)]
 mode:(M.ws 0).mode=mode
 ee:(M.ws 0).e=0
 stk:(M.ws 0).stk=[]
theorem oE (H:Hp):aq Tryz.prog σ gJ [] H (Bo true) H:=by
 refine fw (fun K hK=>bz.run ?_) rfl rfl H
 refine aa rfl (aa rfl ?_)
 refine bp (aq.drop (fun H=>qn alB alW (by decide) H) (.cons (uS Pk _ _ (by kernel_rfl)) .nil)) ?_
 simp only [OQ,List.getElem?_cons_zero,List.getElem?_cons_succ,ae]
 refine EL (P:=pN 1 alL [0]) (rl:=iq) (sl:=iq) ⟨by decide,by decide⟩ (by decide) oP rH ⟨rfl,rfl,rfl⟩ ⟨rfl,rfl,rfl⟩ fun G M0 H0 tg0 h0 i0 _ _ _=>?_
 refine aa rfl (aa rfl (iQ ?_))
 rw [qm,ae,aj,if_neg (by decide)]
 refine aa rfl ?_
 rw [aj,if_neg (by decide)]
 obtain ⟨⟨E,iv⟩,no⟩:=i0.dq 0 (by decide)
 have iv:Iv 100 (M0.ws 0).dq E [0] none none:=iv
 obtain ⟨w1,w2,w3,w4⟩:=i0.ws 0 (by decide)
 have hl:=iv.hl
 have ht:=iv.t0
 have hlL:=iv.lL
 have hen:=iv.en
 simp only [List.length_singleton] at hlL
 refine Nr h0 ⟨i0.left,i0.of,i0.pub,i0.st,w1,w3,w4,LA iv no 0⟩ hl (by omega) (O6 iv) fun M6 H6 tg6 h6 a6 e6=>?_
 have m7:∀ hh,A7 (dr (pN 1 alL [0]) M6 0 0 hh) 3 false 1:=fun hh=>by
  have e:dr (pN 1 alL [0]) M6 0 0 hh=mK (pN 1 alL [0]) { M6 with last:=[] } 0:=by
   unfold dr
   rw [if_neg (by show ¬ (M6.ws 0).mode=0; rw [a6.mode]; decide),if_neg (by show ¬ (M6.ws 0).mode=1; rw [a6.mode]; decide),if_pos a6.mode]
  rw [e]
  have et:r9 (pN 1 alL [0]) (M6.ws 0)=none:=by unfold r9; rw [a6.ca]; rfl
  have ep:sM (pN 1 alL [0]) (M6.ws 0).e=-1:=by rw [e6]; rfl
  have em:uv (pN 1 alL [0]) { M6 with last:=[] } 0={ M6 with last:=[] }:=by unfold uv; rw [if_neg (by show ¬ 0≤sM (pN 1 alL [0]) (M6.ws 0).e; rw [ep]; decide)]
  have es:mK (pN 1 alL [0]) { M6 with last:=[] } 0=((m5 (pN 1 alL [0]) { M6 with last:=[] } 0).did ⟨0,3*(M6.ws 0).e,true,false⟩).w 0 fun w=>{ w with mode:=3 }:=by
   unfold mK
   rw [em]
   simp only [et]
   rfl
  rw [es]
  refine ⟨a6.left,?_,a6.pub,?_,by simp [MS.w],?_,?_⟩
  ·show M6.of.set (M6.ws 0).e.toNat (M6.st.length:Int)=[0]
   rw [a6.of,a6.st,e6]; rfl
  ·show M6.st++[(jT,1)]=_
   rw [a6.st]; rfl
  ·simp only [MS.w,MS.did,m5,a_]; exact e6
  ·simp only [MS.w,MS.did,m5,a_]; exact a6.stk
 refine sv (i:=6) (by decide) h6 ⟨by rw [a6.mode]; decide,(fun e=>by rw [a6.mode] at e; cases e),(fun e=>by rw [a6.mode] at e; cases e),fun _=>⟨0,Nat.zero_le _,⟨by show M6.st.length≤_; rw [a6.st]; decide,fun p hp=>by have hp:p ∈ M6.st:=hp; rw [a6.st] at hp; cases hp⟩,⟨by show M6.of.length=_; rw [a6.of]; rfl,fun x hx=>by have hx:x ∈ M6.of:=hx; rw [a6.of] at hx; rw [List.mem_singleton.1 hx]; decide⟩,e6,by decide,⟨by show (M6.ws 0).ca.length≤8; rw [a6.ca]; decide,fun p hp=>by have hp:p ∈ (M6.ws 0).ca:=hp; rw [a6.ca] at hp; cases hp⟩⟩,(fun e=>by rw [a6.mode] at e; cases e),(fun e=>by rw [a6.mode] at e; cases e)⟩ (fun _=>a6.ca) (by rw [a6.left]; decide) (fun hh=>by rw [if_neg (by decide)]; exact (m7 hh).left) fun hh H7 tg7 h7=>?_
 have a7:=m7 hh
 generalize dr (pN 1 alL [0]) M6 0 0 hh=M7 at h7 a7
 have m8:∀ hh,A7 (dr (pN 1 alL [0]) M7 0 0 hh) 4 true 1∧((dr (pN 1 alL [0]) M7 0 0 hh).ws 0).child=0:=fun hh=>by
  have e:dr (pN 1 alL [0]) M7 0 0 hh=sW { M7 with last:=[] } 0:=by
   unfold dr
   rw [if_neg (by show ¬ (M7.ws 0).mode=0; rw [a7.mode]; decide),if_neg (by show ¬ (M7.ws 0).mode=1; rw [a7.mode]; decide),if_neg (by show ¬ (M7.ws 0).mode=2; rw [a7.mode]; decide),if_pos a7.mode]
  rw [e]
  refine ⟨⟨a7.left,a7.of,?_,a7.st,by simp [sW,MS.w],by simp only [sW,MS.w,MS.did,a_]; exact a7.ee,by simp only [sW,MS.w,MS.did,a_]; exact a7.stk⟩,by simp [sW,MS.w]⟩
  show M7.pub.set (M7.ws 0).e.toNat true=[true]
  rw [a7.pub,a7.ee]; rfl
 refine sv (i:=7) (by decide) h7 ⟨by rw [a7.mode]; decide,(fun e=>by rw [a7.mode] at e; cases e),(fun e=>by rw [a7.mode] at e; cases e),(fun e=>by rw [a7.mode] at e; cases e),fun _=>⟨0,a7.ee,by rw [a7.pub]; decide,by rw [a7.pub]; decide⟩,(fun e=>by rw [a7.mode] at e; cases e)⟩ (fun e=>by rw [a7.mode] at e; cases e) (by rw [a7.left]; decide) (fun hh=>by rw [if_neg (by decide)]; exact (m8 hh).1.left) fun hh H8 tg8 h8=>?_
 obtain ⟨a8,c8⟩:=m8 hh
 generalize dr (pN 1 alL [0]) M7 0 0 hh=M8 at h8 a8 c8
 have k8:nB (pN 1 alL [0]) (M8.ws 0)=-1:=by unfold nB; rw [a8.ee,c8]; rfl
 have m9:∀ hh,A7 (dr (pN 1 alL [0]) M8 0 0 hh) 0 true 0:=fun hh=>by
  have e:dr (pN 1 alL [0]) M8 0 0 hh=FU { M8 with last:=[] } 0:=by
   unfold dr
   rw [if_neg (by show ¬ (M8.ws 0).mode=0; rw [a8.mode]; decide),if_neg (by show ¬ (M8.ws 0).mode=1; rw [a8.mode]; decide),if_neg (by show ¬ (M8.ws 0).mode=2; rw [a8.mode]; decide),if_neg (by show ¬ (M8.ws 0).mode=3; rw [a8.mode]; decide)]
   unfold ui
   simp only [k8]
   rw [if_neg (by decide)]
  rw [e]
  have em:FU { M8 with last:=[] } 0=(({ M8 with last:=[],left:=M8.left - 1 }:MS).did ⟨0,-1,true,true⟩).w 0 fun w=>{ w with mode:=0 }:=by
   unfold FU
   have:(({ M8 with last:=[] }:MS).ws 0).stk.getLast?=none:=by show (M8.ws 0).stk.getLast?=none; rw [a8.stk]; rfl
   simp only [this]
   rfl
  rw [em]
  exact ⟨by show M8.left - 1=0; rw [a8.left]; rfl,a8.of,a8.pub,a8.st,by simp [MS.w],by simp only [MS.w,MS.did,a_]; exact a8.ee,by simp only [MS.w,MS.did,a_]; exact a8.stk⟩
 refine sv (i:=8) (by decide) h8 ⟨by rw [a8.mode]; decide,(fun e=>by rw [a8.mode] at e; cases e),(fun e=>by rw [a8.mode] at e; cases e),(fun e=>by rw [a8.mode] at e; cases e),(fun e=>by rw [a8.mode] at e; cases e),fun _=>⟨0,Nat.zero_le _,a8.ee,by decide,by show (M8.ws 0).child≤_; rw [c8]; decide,by show (M8.ws 0).stk.length≤_; rw [a8.stk]; decide,by show -1000000≤M8.left∧M8.left≤1000000; rw [a8.left]; decide,fun hk=>by have hk:0≤nB (pN 1 alL [0]) (M8.ws 0):=hk; rw [k8] at hk; exact absurd hk (by decide)⟩⟩ (fun e=>by rw [a8.mode] at e; cases e) (by rw [a8.left]; decide) (fun hh=>by rw [if_pos rfl]; exact (m9 hh).left) fun hh H9 tg9 h9=>?_
 have a9:=m9 hh
 generalize dr (pN 1 alL [0]) M8 0 0 hh=M9 at h9 a9
 refine bz.L0_step ?_
 rw [dn,ae,aj,if_neg (by decide)]
 refine vD h9 (by rw [a9.of,a9.pub]; rfl) 0 fun Ha tga fa=>?_
 have hsty:Ap M9 0=(jT,0):=by
  have h1:qB M9 0=true:=by unfold qB; rw [a9.pub]; rfl
  have h2:ofI M9 0=0:=by unfold ofI; rw [a9.of]; rfl
  have h3:cnt M9 0=1:=by unfold cnt; rw [a9.st]; rfl
  unfold Ap
  rw [if_pos h1,h2,h3]
  unfold kL
  rw [h3,a9.st]; rfl
 rw [hsty]
 refine aa rfl (aa rfl ?_)
 rw [cK]
 refine aa (jB (ys:=jT.map I) rfl rfl rfl) ?_
 have fb:Fx (fun _=>False) Ha tga ((Ha.new (.cells [I 0,I 0,I 0,I 0,I 0,I 0,I 0,I 0] true)).set Ha.n (some (.cells (jT.map I) true))) (up tga Ha.n .fr):=.newset
 have gb:((Ha.new (.cells [I 0,I 0,I 0,I 0,I 0,I 0,I 0,I 0] true)).set Ha.n (some (.cells (jT.map I) true))).get Ha.n=some (.cells (jT.map I) true):=by simp
 generalize (Ha.new (.cells [I 0,I 0,I 0,I 0,I 0,I 0,I 0,I 0] true)).set Ha.n (some (.cells (jT.map I) true))=Hb at fb gb ⊢
 refine iQ ?_
 rw [gj,ae,aj,if_pos (by decide)]
 have lb:ldA false 1 Hb (.ptr Ha.n (0+1*1))=some (I 16000):=by rw [cu,gb]; rfl
 refine aa rfl (aa lb ?_)
 rw [gj,ae,aj,if_pos (by decide)]
 refine aa (x:=[I 0,I 0]) rfl ?_
 refine qC (a:=0) (b:=0) alE ((h9.keep fa).keep fb) (fun hne=>absurd a9.left hne) (fun a0' aW' e m2 he hel=>?_) fun hh H1 tg1 h1 f1=>?_
 ·have m2:(M9.ws 0).mode=2:=m2
  rw [a9.mode] at m2; cases m2
 ·have:gq (pN 1 alL [0]) M9 0 0 hh=({ M9 with last:=[] },false):=by unfold gq; rw [if_pos (.inl a9.left)]
  rw [this]
  refine aa rfl (hK _)
end
end Go.Proofs.YtegioimlblnajaaGreat.Ev
namespace Go.Proofs.YtegioimlblnajaaGreat.Ev
open Go.RowKit
set_option linter.unusedVariables false
set_option linter.unusedSimpArgs false
set_option maxRecDepth 100000
variable {σ:Sig}
theorem pU {P:Pm} {rl sl:AV} {G:MG} {M:MS} {H:Hp} {tg:Nat→Tg} {K:AV→Hp→Prop} {L:List Nd} {w:Int} (h:Ok P rl sl G M H tg) (hw:w=P.W) (hp:M.pub.length=L.length) (hl:M.left=L.length) (hK:∀ H,K (Bo true) H) :
  af Tryz.prog σ aB [.ptr G.m 0,I w] H fun x62 H63=>bnd (ai .eql x62 (I (-1))) fun x64=>ifB x64 (af Tryz.prog σ av [.ptr G.m 0,I (-1)] H63 fun x65 H66=>bnd (ai .eql x65 (I 0)) fun x67=>ifB x67 (af Tryz.prog σ ax [.ptr G.m 0,I (-1)] H66 fun x68 H69=>bnd (ai .eql x68 (I (-1))) fun x70=>ifB x70 (bnd (az (nds L)) fun x71=>af Tryz.prog σ ao [.ptr G.m 0,x71] H69 fun x72 H73=>bnd (unR .not x72) fun x74=>ifB x74 (af Tryz.prog σ ay [.ptr G.m 0] H73 fun x75 H76=>bnd (az (nds L)) fun x77=>bnd (ai .eql x77 (I 0)) fun x78=>bnd (b8 .eql x75 x78) fun x79=>K x79 H76) (K (Bo false) H73)) (K (Bo false) H69)) (K (Bo false) H66)) (K (Bo false) H63):=by
 refine KO h w ?_
 rw [if_neg (by omega),gj,ae,aj,if_pos (by decide)]
 refine tw h (-1) (fun i hi=>by omega) ?_
 have:uw P M (-1)=0:=by unfold uw; rw [if_neg (by omega)]
 rw [this,gj,ae,aj,if_pos (by decide)]
 refine vn h (-1) ?_
 have:nR M (-1)=-1:=by unfold nR; rw [if_neg (by omega)]
 rw [this,gj,ae,aj,if_pos (by decide)]
 have ln:az (nds L)=some (I L.length):=by simp [nds]
 rw [ln,ae]
 refine wK h L.length ?_
 have:qB M L.length=false:=by unfold qB; rw [hp]; simp
 rw [this,g9,ae,aj,if_pos (show (!false)=true from rfl)]
 refine uI h ?_
 rw [hl,ae,gj,ae,oL,ae]
 simp only [beq_self_eq_true]
 exact hK _
theorem vf {P:Pm} {rl sl:AV} {G:MG} {M:MS} {H:Hp} {tg:Nat→Tg} {K:AV→Hp→Prop} {L:List Nd} {w:Int} (h:Ok P rl sl G M H tg) (hm:M.last=[]) (hw:w=P.W) (hp:M.pub.length=L.length) (hl:M.left=L.length) (hK:∀ H,K (Bo true) H) :
  af Tryz.prog σ bt [.ptr G.m 0] H fun x80 H81=>bnd (az x80) fun x82=>bnd (ai .eql x82 (I 0)) fun x83=>ifB x83 (af Tryz.prog σ aB [.ptr G.m 0,I w] H81 fun x62 H63=>bnd (ai .eql x62 (I (-1))) fun x64=>ifB x64 (af Tryz.prog σ av [.ptr G.m 0,I (-1)] H63 fun x65 H66=>bnd (ai .eql x65 (I 0)) fun x67=>ifB x67 (af Tryz.prog σ ax [.ptr G.m 0,I (-1)] H66 fun x68 H69=>bnd (ai .eql x68 (I (-1))) fun x70=>ifB x70 (bnd (az (nds L)) fun x71=>af Tryz.prog σ ao [.ptr G.m 0,x71] H69 fun x72 H73=>bnd (unR .not x72) fun x74=>ifB x74 (af Tryz.prog σ ay [.ptr G.m 0] H73 fun x75 H76=>bnd (az (nds L)) fun x77=>bnd (ai .eql x77 (I 0)) fun x78=>bnd (b8 .eql x75 x78) fun x79=>K x79 H76) (K (Bo false) H73)) (K (Bo false) H69)) (K (Bo false) H66)) (K (Bo false) H63)) (K (Bo false) H81):=by
 refine E4 h (by rw [hm]; decide) fun r H1 tg1 f1 g1 _=>?_
 rw [hm] at g1
 rw [g1.len,ae,gj,ae,aj,if_pos (by decide)]
 exact pU (h.keep f1) hw hp hl hK
theorem pJ {L:List Nd} (hW:∀ n ∈ L,k4 n) (w a b:Int):∃ Hf,aq Tryz.prog σ eR [nds L,I w,I a,I b] Hp.empty (Bo true) Hf:=by
 refine ⟨Hp.empty,fw (fun K hK=>h_.run ?_) (by simp [bG,cX]) rfl _⟩
 refine bp (oE _) ?_
 rcases v7 (σ:=σ) L hW with ⟨_,e,he,hg⟩ | ⟨d,hN,hB,hg⟩
 ·refine bp (hg _) (aa rfl (aa rfl (aa rfl ?_)))
  rw [aj,if_neg (by decide)]
  refine bp (Ft L _) ?_
  rw [aj]
  cases hb:kY L 0 with
  | true=>rw [if_pos rfl]; exact hK _
  | false =>
   rw [if_neg (by decide),qm,ae,aj,if_pos (by simpa using he)]
   exact hK _
 refine bp (hg _) (aa rfl (aa rfl (aa rfl ?_)))
 rw [aj,if_neg (by decide)]
 refine bp (Ft L _) ?_
 rw [aj]
 cases hb:kY L 0 with
 | true=>rw [if_pos rfl]; exact hK _
 | false =>
  have hT:=I3 hN hB hb
  rw [if_neg (by decide),qm,ae,aj,if_neg (by decide)]
  refine bp (qn hB hW hN _) (aa rfl (aa rfl ?_))
  refine Fo _ _ (aa rfl (aa rfl ?_))
  have ln:az (nds L)=some (I L.length):=by simp [nds]
  by_cases hw:w<1∨64<w
  ·refine FM (P:=pN 0 L d) _ hw (aa rfl (aa rfl ?_))
   rw [iH,ae,aj]
   have fin:∀ H,af Tryz.prog σ aX [I 1] H fun x39 H40=>bnd (ai .eql x39 (I 1)) fun x41=>ifB x41 (af Tryz.prog σ aX [I 1] H40 fun x42 H43=>bnd (ai .eql x42 (I 1)) fun x44=>ifB x44 (bnd (dv .eql (.lit (.pointer none)) (.lit (.pointer none))) fun x45=>K x45 H43) (K (Bo false) H43)) (K (Bo false) H40):=fun H=>by
    refine iQ ?_
    rw [gj,ae,aj,if_pos (by decide)]
    refine iQ ?_
    rw [gj,ae,aj,if_pos (by decide),LF,ae]
    exact hK _
   by_cases h1:1≤w
   ·rw [if_pos (by simpa using h1),pr,ae]
    refine iQ ?_
    rw [qm,ae,aj,if_neg (by decide)]
    refine iQ ?_
    have h64:¬ w≤64:=by omega
    rw [gj,ae,nQ,ae,aj,if_neg (by simp [h64]),g9,ae,aj,if_pos (by simp [h64])]
    exact fin _
   ·rw [if_neg (by simpa using h1)]
    refine iQ ?_
    rw [qm,ae,aj,if_neg (by decide)]
    refine iQ ?_
    rw [gj,ae,nQ,ae,aj,if_neg (by decide),g9,ae,aj,if_pos (by decide)]
    exact fin _
  ·obtain ⟨W,rfl⟩:∃ k:Nat,w=k:=⟨w.toNat,by omega⟩
   refine EL (P:=pN W L d) (rl:=iq) (sl:=iq) ⟨by show 1≤W; omega,by show W≤64; omega⟩ hN oP rH ⟨rfl,rfl,rfl⟩ ⟨rfl,rfl,rfl⟩ fun G M0 H0 tg0 h0 i0 _ _ _=>?_
   refine aa rfl (aa rfl ?_)
   have h1:(1:Int)≤W:=by omega
   have h64:(W:Int)≤64:=by omega
   rw [iH,ae,aj,if_pos (by simpa using h1),pr,ae]
   refine iQ ?_
   rw [qm,ae,aj,if_neg (by decide)]
   refine iQ ?_
   rw [gj,ae,nQ,ae,aj,if_neg (by simp [h64]),g9,ae,aj,if_neg (by simp [h64])]
   refine aa (x:=[I a,I b]) rfl ?_
   refine qC (a:=a) (b:=b) (enN (by omega) hT) h0 (fun _ a0 aW=>?_) (fun a0' aW' e m2 he hel=>?_) fun hh H1 tg1 h1' f1=>?_
   ·have haW:a.toNat<(pN W L d).W:=by show a.toNat<W; have:a<(W:Int):=aW; omega
    obtain ⟨w1,w2,w3,w4⟩:=i0.ws a.toNat haW
    exact ⟨by rw [w1]; decide,fun _=>Kh i0 haW _ _ _,(fun e=>by rw [w1] at e; cases e),(fun e=>by rw [w1] at e; cases e),(fun e=>by rw [w1] at e; cases e),(fun e=>by rw [w1] at e; cases e)⟩
   ·have haW:a.toNat<(pN W L d).W:=by show a.toNat<W; have:a<(W:Int):=aW'; omega
    rw [(i0.ws a.toNat haW).1] at m2
    cases m2
   ·refine aa ln ?_
    rw [jf,ae,aj]
    have hleft:(gq (pN W L d) M0 a b hh).1.left=L.length∧(gq (pN W L d) M0 a b hh).1.pub.length=L.length:=by
     unfold gq
     split
     ·exact ⟨i0.left,by show M0.pub.length=_; rw [i0.pub,List.length_replicate]; rfl⟩
     ·rename_i hc
      have haW:a.toNat<(pN W L d).W:=by
       have:¬ ((pN W L d).W:Int)≤a:=fun h=>hc (.inr (.inr h))
       omega
      unfold dr
      rw [if_pos (i0.ws a.toNat haW).1]
      unfold nj mdq
      simp only
      split
      ·exact ⟨i0.left,by show M0.pub.length=_; rw [i0.pub,List.length_replicate]; rfl⟩
      ·split
       ·exact ⟨i0.left,by show M0.pub.length=_; rw [i0.pub,List.length_replicate]; rfl⟩
       ·exact ⟨i0.left,by show M0.pub.length=_; rw [i0.pub,List.length_replicate]; rfl⟩
    have hl0:M0.left=L.length:=i0.left
    by_cases hd:M0.left=0∨a<0∨((pN W L d).W:Int)≤a
    ·have es:gq (pN W L d) M0 a b hh=({ M0 with last:=[] },false):=by unfold gq; rw [if_pos hd]
     have es2:(gq (pN W L d) M0 a b hh).2=false:=by rw [es]
     have es3:(gq (pN W L d) M0 a b hh).1.last=[]:=by rw [es]
     rw [es2]
     generalize (gq (pN W L d) M0 a b hh).1=M1 at h1' hleft es3
     have tl:=vf (σ:=σ) (K:=K) h1' es3 (rfl:(W:Int)=(pN W L d).W) hleft.2 hleft.1 hK
     by_cases hn:0<L.length
     ·rw [if_pos (by simpa using hn),iH,ae,aj]
      by_cases ha:0≤a
      ·have haw:¬ a<W:=by
        rcases hd with hd | hd | hd
        ·omega
        ·omega
        ·exact fun h=>by have:(W:Int)≤a:=hd; omega
       rw [if_pos (by simpa using ha),dn,ae,oL,ae,aj,if_pos (by simp [haw]),aj,if_neg (by decide)]
       exact tl
      ·rw [if_neg (by simpa using ha),oL,ae,aj,if_pos (by decide),aj,if_neg (by decide)]
       exact tl
     ·rw [if_neg (by simpa using hn),oL,ae,aj,if_pos (by decide),aj,if_neg (by decide)]
      exact tl
    ·have es:(gq (pN W L d) M0 a b hh).2=true:=by unfold gq; rw [if_neg hd]
     rw [es]
     generalize (gq (pN W L d) M0 a b hh).1=M1 at h1' hleft
     have hn:0<L.length:=by
      rcases Nat.eq_zero_or_pos L.length with h | h
      ·exact absurd (.inl (by omega)) hd
      ·exact h
     have ha:0≤a:=by
      rcases Int.lt_or_le a 0 with h | h
      ·exact absurd (.inr (.inl h)) hd
      ·exact h
     have haw:a<W:=by
      rcases Int.lt_or_le a W with h | h
      ·exact h
      ·exact absurd (.inr (.inr h)) hd
     rw [if_pos (by simpa using hn),iH,ae,aj,if_pos (by simpa using ha),dn,ae,oL,ae,aj,if_pos (by simp [haw]),aj,if_pos rfl]
     have tl:=pU (σ:=σ) (K:=K) h1' (rfl:(W:Int)=(pN W L d).W) hleft.2 hleft.1 hK
     exact tl
theorem WorkNone_walk {H:Type} {enc:TypeId × Value→H} (W:World) (_:W.ShapedOpen Tryz.prog) {v0 v1 v2 v3:Value} {r:Reach} {b0 base:Nat} {spare:Nat→Bool} {held:Bool} {d0 d1 d2 d3:DataW H} {p0 p1 p2 p3:List MemPlace}
  (e0:Value.okWide Tryz.prog W r b0 cV v0) (h0:DataW.Trod enc Tryz.prog W base spare held cV v0 d0 p0) (w0:∀ n ∈ d0.weights Tryz.prog cV,n≤reachBytes)
  (e1:Value.okWide Tryz.prog W r b0 gr v1) (h1:DataW.Trod enc Tryz.prog W base spare held gr v1 d1 p1) (w1:∀ n ∈ d1.weights Tryz.prog gr,n≤reachBytes)
  (e2:Value.okWide Tryz.prog W r b0 gr v2) (h2:DataW.Trod enc Tryz.prog W base spare held gr v2 d2 p2) (w2:∀ n ∈ d2.weights Tryz.prog gr,n≤reachBytes)
  (e3:Value.okWide Tryz.prog W r b0 gr v3) (h3:DataW.Trod enc Tryz.prog W base spare held gr v3 d3 p3) (w3:∀ n ∈ d3.weights Tryz.prog gr,n≤reachBytes) :
  Calls Tryz.prog eR #[v0,v1,v2,v3] W fun e W'=>e=.returned (.bool true)∧Below W.heap.size W W':=by
 obtain ⟨σ,hσ⟩:∃ σ:Sig,σ.g=none:=⟨⟨fun _=>0,fun _=>false,fun _=>⟨#[]⟩,none⟩,rfl⟩
 obtain ⟨x0,r0,s0⟩:=lC (P:=Tryz.prog) (ti:=tiT.get) (S:=rL) (t:=cV) (σ:=σ) oD hI (iE (by kernel_rfl)) e0 h0 w0
 obtain ⟨x1,r1,s1⟩:=lC (P:=Tryz.prog) (ti:=tiT.get) (S:=rL) (t:=gr) (σ:=σ) oD hI (iE (by kernel_rfl)) e1 h1 w1
 obtain ⟨x2,r2,s2⟩:=lC (P:=Tryz.prog) (ti:=tiT.get) (S:=rL) (t:=gr) (σ:=σ) oD hI (iE (by kernel_rfl)) e2 h2 w2
 obtain ⟨x3,r3,s3⟩:=lC (P:=Tryz.prog) (ti:=tiT.get) (S:=rL) (t:=gr) (σ:=σ) oD hI (iE (by kernel_rfl)) e3 h3 w3
 obtain ⟨L,rfl,hL,_⟩:=JZ s0
 obtain ⟨w,rfl,_⟩:=Cy s1
 obtain ⟨a,rfl,_⟩:=Cy s2
 obtain ⟨b,rfl,_⟩:=Cy s3
 obtain ⟨Hf,hg⟩:=pJ (σ:=σ) hL w a b
 exact rU (OW r0 r1 r2 r3) hg fun g h=>by rw [hσ] at h; cases h
end Go.Proofs.YtegioimlblnajaaGreat.Ev
