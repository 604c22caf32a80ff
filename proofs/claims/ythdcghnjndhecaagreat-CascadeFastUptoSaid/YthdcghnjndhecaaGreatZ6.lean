/- The walks, part 6: the evaluator, the functions, the laws. Conditions: none. -/
import Derived.Test.YthdcghnjndhecaaGreatZ5
namespace Go.Proofs.YthdcghnjndhecaaGreat.Ev
set_option linter.unusedVariables false
set_option linter.unusedSimpArgs false
variable {σ:Sig}
structure Lk where
 part:Pt
 lists:List (List Nat)
def qL (n:Nat):List AV:=[I (n:Int)]
def mv (l:List Nat):AV:=.imm 1 (l.map qL)
def ey (x:Lk):List AV:=bo x.part++[.imm 1 (x.lists.map fun l=>[mv l])]
def j9 (c:List Lk):AV:=.imm 7 (c.map ey)
theorem vH (l:List Nat):bt (mv l)=true:=by unfold mv; simp only [bt]; exact bC _ (fun _=>rfl) _
theorem Mx (x:Lk):aK (ey x)=true:=by
 unfold ey
 exact ry (Ax _) (by simp only [aK,bt,bC _ (show ∀ l,aK [mv l]=true from fun l=>by simp [aK,vH]),Bool.and_self])
@[simp] theorem Rs (x:Lk):(ey x).length=7:=by simp [ey]
def mq (n i e:Nat) (a:Bool):List AV:=[I (n:Int),I (i:Int),I (e:Int),Bo a]
abbrev qKK:List KK:=[.int .i64,.int .i64,.int .i64,.bool]
theorem Jd {n i e n' i' e':Nat} {a a':Bool} (h:mq n i e a=mq n' i' e' a'):n=n'∧i=i'∧e=e'∧a=a':=by
 simp only [mq,List.cons.injEq,AV.lit.injEq,Value.int.injEq,Value.bool.injEq,true_and,and_true] at h
 exact ⟨by omega,by omega,by omega,h.2.2.2⟩
def oI (N:Nat) (T:Nat→Nat→Nat→Bool→Bool) (es:List (AV × AV)):Prop:=∀ p ∈ es,∃ n i e a,n<N∧p=(.agg (mq n i e a),Bo (T n i e a))∧kOk true qKK p.1=true
theorem vq {N:Nat} {T:Nat→Nat→Nat→Bool→Bool}:∀ {es:List (AV × AV)},oI N T es→∀ n i e a,jn (.agg (mq n i e a)) es=none∨jn (.agg (mq n i e a)) es=some (Bo (T n i e a))
 | [],_,n,i,e,a=>.inl rfl
 | (x,y)::r,h,n,i,e,a=>by
  obtain ⟨n',i',e',a',_,hp,_⟩:=h (x,y) (by simp)
  cases hp
  unfold jn
  by_cases he:AV.agg (mq n' i' e' a')=.agg (mq n i e a)
  ·rw [if_pos he]
   obtain ⟨rfl,rfl,rfl,rfl⟩:=Jd (AV.agg.inj he)
   exact .inr rfl
  ·rw [if_neg he]
   exact vq (fun p hp=>h p (by simp [hp])) n i e a
theorem xt {N:Nat} {T:Nat→Nat→Nat→Bool→Bool} {n i e:Nat} {a:Bool} (hnN:n<N) (hk:kOk true qKK (.agg (mq n i e a))=true):∀ {es:List (AV × AV)},oI N T es→oI N T (nH (.agg (mq n i e a)) (Bo (T n i e a)) es)
 | [],_=>fun p hp=>by
  simp [nH] at hp
  subst hp
  exact ⟨n,i,e,a,hnN,rfl,hk⟩
 | (x,y)::r,h=>by
  obtain ⟨n',i',e',a',hn',hp,hk'⟩:=h (x,y) (by simp)
  cases hp
  unfold nH
  by_cases he:AV.agg (mq n' i' e' a')=.agg (mq n i e a)
  ·rw [if_pos he]
   intro p hp
   rcases List.mem_cons.1 hp with rfl | hp
   ·exact ⟨n,i,e,a,hnN,by rw [he],by rw [he]; exact hk⟩
   ·exact h p (by simp [hp])
  ·rw [if_neg he]
   intro p hp
   rcases List.mem_cons.1 hp with rfl | hp
   ·exact ⟨n',i',e',a',hn',rfl,hk'⟩
   ·exact xt hnN hk (fun p hp=>h p (by simp [hp])) p hp
theorem yI {N:Nat} {T:Nat→Nat→Nat→Bool→Bool} {es:List (AV × AV)} (h:oI N T es):es.all (fun p=>kOk true qKK p.1)=true:=by
 rw [List.all_eq_true]
 intro p hp
 obtain ⟨n,i,e,a,_,_,hk⟩:=h p hp
 exact hk
structure jl (t:AV) (C:List (List Lk)) (T:Nat→Nat→Nat→Bool→Bool) (ab mb:Nat) (cs:AV) (H:Hp):Prop where
 gab:H.get ab=some (.cells [t,cs,.mp mb] true)
 nab:ab<H.n
 nmb:mb<H.n
 ne:ab≠mb
 gcs:Gs 1 H cs (C.map fun c=>[j9 c])
 csm:¬ own cs mb
 memo:∃ es,H.get mb=some (.map es)∧oI C.length T es
structure Kp (mb:Nat) (H H':Hp):Prop where
 up:H.n≤H'.n
 get:∀ (j:Nat),j<H.n→j≠mb→H'.get j=H.get j
theorem Kp.refl (mb:Nat) (H:Hp):Kp mb H H:=⟨Nat.le_refl _,fun _ _ _=>rfl⟩
theorem Kp.trans {mb:Nat} {H H1 H2:Hp} (h:Kp mb H H1) (k:Kp mb H1 H2):Kp mb H H2:=⟨Nat.le_trans h.up k.up,fun j hj hne=>by rw [k.get j (Nat.lt_of_lt_of_le hj h.up) hne,h.get j hj hne]⟩
theorem Kp.new (mb:Nat) (H:Hp) (b:Blk):Kp mb H (H.new b):=by
 refine ⟨by simp,fun j hj _=>?_⟩
 have:j≠H.n:=by omega
 simp [this]
theorem Kp.setN {mb:Nat} {H H':Hp} (h:Kp mb H H') {j:Nat} (hj:H.n≤j) (b:Option Blk):Kp mb H (H'.set j b):=by
 refine ⟨by simpa using h.up,fun i hi hne=>?_⟩
 have:i≠j:=by omega
 simp [this]; exact h.get i hi hne
theorem jl.keep {t:AV} {C:List (List Lk)} {T:Nat→Nat→Nat→Bool→Bool} {ab mb:Nat} {cs:AV} {H H':Hp} (h:jl t C T ab mb cs H) (hn:H.n≤H'.n) (hg:∀ j,j<H.n→H'.get j=H.get j):jl t C T ab mb cs H':=by
 obtain ⟨es,he,hm⟩:=h.memo
 exact ⟨by rw [hg _ h.nab]; exact h.gab,Nat.lt_of_lt_of_le h.nab hn,Nat.lt_of_lt_of_le h.nmb hn,h.ne,h.gcs.keep (fun j hj=>hg j (h.gcs.lt hj)) hn,h.csm,es,by rw [hg _ h.nmb]; exact he,hm⟩
theorem jl.new {t:AV} {C:List (List Lk)} {T:Nat→Nat→Nat→Bool→Bool} {ab mb:Nat} {cs:AV} {H:Hp} (h:jl t C T ab mb cs H) (b:Blk):jl t C T ab mb cs (H.new b):=by
 refine h.keep (by simp) fun j hj=>?_
 have:j≠H.n:=by omega
 simp [this]
theorem jl.setN {t:AV} {C:List (List Lk)} {T:Nat→Nat→Nat→Bool→Bool} {ab mb:Nat} {cs:AV} {H0 H:Hp} (h0:jl t C T ab mb cs H0) (h:jl t C T ab mb cs H) {j:Nat} (hj:H0.n≤j) (b:Option Blk):jl t C T ab mb cs (H.set j b):=by
 obtain ⟨es,he,hm⟩:=h.memo
 have a1:=h0.nab
 have a2:=h0.nmb
 have e1:ab≠j:=by omega
 have e2:mb≠j:=by omega
 refine ⟨by simp [e1,h.gab],by simpa using h.nab,by simpa using h.nmb,h.ne,h.gcs.keep (fun i hi=>?_) (by simp),h.csm,es,by simp [e2,he],hm⟩
 have:=h0.gcs.lt hi
 have:i≠j:=by omega
 simp [this]
theorem jl.pure {L:List Nd} {d:List Nat} {C:List (List Lk)} {T:Nat→Nat→Nat→Bool→Bool} {ab mb:Nat} {cs:AV} {H:Hp} (h:jl (cx L d) C T ab mb cs H) {f:Nat} {xs:List AV} {r:AV}
  (hg:au Tryz.prog σ f (.ip (cx L d::[])::xs) Hp.empty r Hp.empty) (hx:aK xs=true) (hr:iG r=true):au Tryz.prog σ f (.ptr ab 0::xs) H r H:=by
 refine hg.frzA (.cons (.ptr (fun _=>cx L d) h.gab (fun j y hj=>?_) (fun j y hj=>?_)) (FzL.refl hx)) hr
 ·have:j=0:=by have:=(List.getElem?_eq_some_iff.1 hj).1; simp at this; omega
  subst this; simp
 ·have:j=0:=by have:=(List.getElem?_eq_some_iff.1 hj).1; simp at this; omega
  subst this
  simp at hj; subst hj
  exact .refl (cU L d)
theorem AW {t:AV} {C:List (List Lk)} {T:Nat→Nat→Nat→Bool→Bool} {ab mb:Nat} {cs:AV} {H:Hp} (h:jl t C T ab mb cs H) {n i e:Nat} {a:Bool} (hnN:n<C.length) (hk:kOk true qKK (.agg (mq n i e a))=true) {fv:AV} {K:AV→Hp→Prop}
  (how:∀ H1 (K1:AV→Hp→Prop),jl t C T ab mb cs H1→Kp mb H H1→(∀ H2,jl t C T ab mb cs H2→Kp mb H1 H2→K1 (Bo (T n i e a)) H2)→fG Tryz.prog σ fv [] H1 K1)
  (hK:∀ H',jl t C T ab mb cs H'→Kp mb H H'→K (Bo (T n i e a)) H'):av Tryz.prog σ eL [.ptr ab 0,.agg (mq n i e a),fv] H K:=by
 obtain ⟨es,hes,hm⟩:=h.memo
 have e1:ab≠H.n:=by have:=h.nab; omega
 have e2:mb≠H.n:=by have:=h.nmb; omega
 refine jx.run ?_
 have hl:ldL true 4 (mq n i e a)=some (.agg (mq n i e a)):=rfl
 simp only [cJ,kK,aa,bu,Nat.zero_add,aL,bN,e1,if_false,if_true,h.gab,aM,List.drop_zero,hl]
 simp only [List.drop,jL,aa,ko,bN,e2,if_false,hes,hk,yI hm,Bool.and_self,cond_true]
 rcases vq hm n i e a with hf | hf
 ·rw [hf]
  simp [yW]
  refine how _ _ (h.new _) (Kp.new _ _ _) fun H2 h2 k2=>?_
  obtain ⟨es2,hes2,hm2⟩:=h2.memo
  have hbox:H2.get H.n=some (.cells (mq n i e a) true):=by rw [k2.get H.n (by simp) (Ne.symm e2)]; simp
  simp only [h2.gab,aM,List.drop_succ_cons,List.drop_zero,jL,aa,hbox,hl,yT,hes2,hk,yI hm2,Bu,Bool.not_false,Bool.and_self,cond_true]
  refine hK _ ?_ ?_
  ·refine ⟨by simp [h2.ne,h2.gab],by simpa using h2.nab,by simpa using h2.nmb,h2.ne,h2.gcs.keep (fun j hj=>?_) (by simp),h2.csm,_,by simp,xt hnN hk hm2⟩
   have:j≠mb:=fun e=>h2.csm (e ▸ hj)
   simp [this]
  ·have:=(Kp.new mb H (.cells (mq n i e a) true)).trans k2
   exact ⟨by simpa using this.up,fun j hj hne=>by simp [hne]; exact this.get j hj hne⟩
 ·rw [hf]
  simp [yW]
  exact hK _ (h.new _) (Kp.new _ _ _)
end Go.Proofs.YthdcghnjndhecaaGreat.Ev
namespace Go.Proofs.YthdcghnjndhecaaGreat.Ev
set_option linter.unusedVariables false
set_option linter.unusedSimpArgs false
variable {σ:Sig}
def zg (c:Cp):Prop:=c.ids.length≤5∧c.classes.length≤5∧c.attrs.length≤5∧c.pseudos.length≤5
def o0:Nat→List Sl→Prop
 | 0,_=>False
 | f+1,l=>∀ s ∈ l,s.length≤60∧∀ p ∈ s,zg p.c∧∀ q ∈ p.c.pseudos,o0 f q.list
def pF (f:Nat) (s:Sl):Prop:=s.length≤60∧∀ p ∈ s,zg p.c∧∀ q ∈ p.c.pseudos,o0 f q.list
def Mi (f:Nat) (p:Pt):Prop:=zg p.c∧∀ q ∈ p.c.pseudos,o0 f q.list
def AQ (f:Nat) (l:List Sl) (n:Int):Prop:=0≤n∧n≤200*4 ^ f∧(n≤40→o0 f l)
theorem BU (f:Nat) (hf:f≤10) (ih:∀ l,kI c6 l→∃ n,(∀ H,au Tryz.prog σ er [sls l,I ((11 - f:Nat):Int)] H (I n) H)∧AQ f l n) (l:List Sl) (hl:kI c6 l) :
  ∃ n,(∀ H,au Tryz.prog σ er [sls l,I ((10 - f:Nat):Int)] H (I n) H)∧AQ (f+1) l n:=by
 have h4:4 ^ f ≥ 1:=Nat.one_le_pow _ _ (by omega)
 have h4b:4 ^ f≤1048576:=by
  calc 4 ^ f≤4 ^ 10:=Nat.pow_le_pow_right (by omega) hf
   _=1048576:=by decide
 have hpow:(200*4 ^ (f+1):Int)=800*4 ^ f:=by rw [Int.pow_succ]; omega
 have cast4:((4 ^ f:Nat):Int)=(4:Int) ^ f:=by simp
 let K:AV→Hp→Prop:=fun r _=>∃ n,r=I n∧AQ (f+1) l n
 have stop:∀ H,K (I 100) H:=fun H=>⟨100,rfl,by omega,by rw [hpow]; omega,fun h=>by omega⟩
 have L0:∀ (d k:Nat) (H:Hp) (n:Int) (y7 y8 y9 y10:AV),l.length - k=d→k≤l.length→0≤n→n≤200*4 ^ (f+1)→(n≤40→∀ s ∈ l.take k,pF f s) →
   aI.L0 σ K (sls l) (I ((10 - f:Nat):Int)) (I n) (I k) y7 y8 y9 y10 H:=by
  intro d
  induction d with
  | zero =>
   intro k H n y7 y8 y9 y10 hd hk hn hn2 hfit
   have e:k=l.length:=by omega
   subst e
   refine aI.L0_step ?_
   simp [sls]
   exact ⟨n,rfl,hn,hn2,fun h=>by simpa [o0,pF] using hfit h⟩
  | succ d ihd =>
   intro k H n y7 y8 y9 y10 hd hk hn hn2 hfit
   have hlt:k<l.length:=by omega
   obtain ⟨s,hs⟩:=bp hlt
   have hsw:=hl.2 s (List.mem_of_getElem? hs)
   have htake:∀ (P:Sl→Prop),(∀ x ∈ l.take k,P x)→P s→∀ x ∈ l.take (k+1),P x:=by
    intro P h1 h2 x hx
    rw [List.take_add_one,hs] at hx
    simp only [Option.toList_some,List.mem_append,List.mem_singleton] at hx
    rcases hx with hx | rfl
    ·exact h1 x hx
    ·exact h2
   have L1:∀ (d2 j:Nat) (H:Hp) (n:Int) (y9 y10:AV),s.length - j=d2→j≤s.length→s.length≤60→0≤n→n≤200*4 ^ (f+1)→(n≤40→(∀ s ∈ l.take k,pF f s)∧∀ p ∈ s.take j,Mi f p) →
     aI.L1 σ K (sls l) (I ((10 - f:Nat):Int)) (I n) (I k) (.imm 6 (s.map bo)) (I j) y9 y10 H:=by
    intro d2
    induction d2 with
    | zero =>
     intro j H n y9 y10 hd2 hj h60 hn hn2 hfit2
     have e:j=s.length:=by omega
     subst e
     refine aI.L1_step ?_
     simp
     rw [cn hlt hl.1]
     exact ihd (k+1) H n _ _ _ _ (by omega) (by omega) hn hn2 fun h=>htake _ (hfit2 h).1 ⟨h60,by simpa [Mi] using (hfit2 h).2⟩
    | succ d2 ihd2 =>
     intro j H n y9 y10 hd2 hj h60 hn hn2 hfit2
     have hjlt:j<s.length:=by omega
     obtain ⟨p,hp⟩:=bp hjlt
     have hpw:=(Pt.wf_iff.1 (hsw.2 p (List.mem_of_getElem? hp))).2
     have htake2:∀ (P:Pt→Prop),(∀ x ∈ s.take j,P x)→P p→∀ x ∈ s.take (j+1),P x:=by
      intro P h1 h2 x hx
      rw [List.take_add_one,hp] at hx
      simp only [Option.toList_some,List.mem_append,List.mem_singleton] at hx
      rcases hx with hx | rfl
      ·exact h1 x hx
      ·exact h2
     have L2:∀ (d3 i:Nat) (H:Hp) (n:Int) (id:Nat),H.get id=some (.cells (bU p.c) true)→p.c.pseudos.length - i=d3→i≤p.c.pseudos.length→zg p.c→0≤n→n≤200*4 ^ (f+1) →
       (n≤40→(∀ s ∈ l.take k,pF f s)∧(∀ p ∈ s.take j,Mi f p)∧∀ q ∈ p.c.pseudos.take i,o0 f q.list) →
       aI.L2 σ K (sls l) (I ((10 - f:Nat):Int)) (I n) (I k) (.imm 6 (s.map bo)) (I j) (.ptr id 0) (I i) H:=by
      intro d3
      induction d3 with
      | zero =>
       intro i H n id hid hd3 hi hc hn hn2 hfit3
       have e:i=p.c.pseudos.length:=by omega
       subst e
       refine aI.L2_step ?_
       simp [hid,cd]
       rw [cn hjlt hsw.1]
       exact ihd2 (j+1) H n _ _ (by omega) (by omega) h60 hn hn2 fun h=>⟨(hfit3 h).1,htake2 _ (hfit3 h).2.1 ⟨hc,by simpa using (hfit3 h).2.2⟩⟩
      | succ d3 ihd3 =>
       intro i H n id hid hd3 hi hc hn hn2 hfit3
       have hilt:i<p.c.pseudos.length:=by omega
       obtain ⟨q,hq⟩:=bp hilt
       have hqw:=(Ps.wf_iff.1 (hpw.ps q (List.mem_of_getElem? hq))).2.2.2
       obtain ⟨m,hm,hm0,hm1,hm2⟩:=ih q.list hqw
       refine aI.L2_step ?_
       have e1:wr .i64 (((10 - f:Nat):Int)+1)=((11 - f:Nat):Int):=by rw [cM (by omega) (by omega)]; omega
       simp [hid,cd,bm hq,e_,hilt]
       split
       ·rename_i hlt100
        refine ak (by rw [e1]; exact hm H) ?_
        simp only [AD,aa,bF]
        have e2:wr .i64 (3*m)=3*m:=cM (by omega) (by omega)
        have e3:wr .i64 (n+3*m)=n+3*m:=cM (by omega) (by omega)
        rw [e2,e3,cn hilt hpw.psL]
        refine ihd3 (i+1) H (n+3*m) id hid (by omega) (by omega) hc (by omega) (by rw [hpow]; omega) fun h=>?_
        have:=hfit3 (by omega)
        refine ⟨this.1,this.2.1,fun x hx=>?_⟩
        rw [List.take_add_one,hq] at hx
        simp only [Option.toList_some,List.mem_append,List.mem_singleton] at hx
        rcases hx with hx | rfl
        ·exact this.2.2 x hx
        ·exact hm2 (by omega)
       ·rw [cn hjlt hsw.1]
        refine ihd2 (j+1) H n _ _ (by omega) (by omega) h60 hn hn2 fun h=>by omega
     refine aI.L1_step ?_
     simp [bm hp,dg,bj,dm,cd,hjlt]
     split
     ·rename_i hlt100
      have e1:wr .i64 (n+1)=n+1:=cM (by omega) (by omega)
      have e2:wr .i64 (n+1+((10 - f:Nat):Int))=n+1+((10 - f:Nat):Int):=cM (by omega) (by omega)
      simp only [e1,e2]
      split
      ·exact stop Hp.empty
      split
      ·exact stop Hp.empty
      split
      ·exact stop Hp.empty
      split
      ·exact stop Hp.empty
      ·refine L2 _ 0 _ _ H.n ?_ rfl (Nat.zero_le _) ⟨by omega,by omega,by omega,by omega⟩ (by omega) (by rw [hpow]; omega) fun h=>?_
       ·simp [cd]
       ·have:=hfit2 (by omega)
        exact ⟨this.1,this.2,fun x hx=>by simp at hx⟩
     ·rw [cn hlt hl.1]
      exact ihd (k+1) H n _ _ _ _ (by omega) (by omega) hn hn2 fun h=>by omega
   refine aI.L0_step ?_
   simp only [sls]
   simp [bm hs,aH,hlt]
   have go:s.length≤60→∀ H,aI.L1 σ K (.imm 1 (l.map aH)) (I ((10 - f:Nat):Int)) (I n) (I k) (.imm 6 (s.map bo)) (I 0) y9 y10 H :=
    fun h60 H=>L1 _ 0 H n y9 y10 rfl (Nat.zero_le _) h60 hn hn2 fun h=>⟨hfit h,fun x hx=>by simp at hx⟩
   split
   ·split
    ·split
     ·exact stop Hp.empty
     ·split
      ·exact stop Hp.empty
      ·exact go (by omega) _
    ·split
     ·exact stop Hp.empty
     ·exact go (by omega) _
   ·exact ⟨n,rfl,hn,hn2,fun h=>by omega⟩
 have run:∃ r H1,au Tryz.prog σ er [sls l,I ((10 - f:Nat):Int)] Hp.empty r H1∧K r H1:=by
  refine aI.run ?_
  simp
  rw [if_neg (by omega)]
  exact L0 _ 0 _ 0 _ _ _ _ rfl (Nat.zero_le _) (by omega) (by rw [hpow]; omega) fun _ x hx=>by simp at hx
 obtain ⟨r,H1,hg,n,rfl,hd⟩:=run
 exact ⟨n,fun H=>hg.over (by simp [aK,bt]) rfl H,hd⟩
theorem A8:∀ (f:Nat),f≤11→∀ (l:List Sl),kI c6 l→∃ n,(∀ H,au Tryz.prog σ er [sls l,I ((11 - f:Nat):Int)] H (I n) H)∧AQ f l n
 | 0,_,l,hl=>by
  have run:∃ r H1,au Tryz.prog σ er [sls l,I ((11 - 0:Nat):Int)] Hp.empty r H1∧r=I 100:=aI.run (by simp)
  obtain ⟨r,H1,hg,rfl⟩:=run
  exact ⟨100,fun H=>hg.over (by simp [aK,bt]) rfl H,by omega,by simp,fun h=>by omega⟩
 | f+1,hf,l,hl=>by
  have:=BU f (by omega) (A8 f (by omega)) l hl
  rwa [show 10 - f=11 - (f+1) by omega] at this
theorem Or (l:List Sl) (hl:kI c6 l):∃ b,(∀ H,au Tryz.prog σ jd [sls l] H (Bo b) H)∧(b=false→o0 11 l):=by
 obtain ⟨n,hn,h0,h1,h2⟩:=A8 (σ:=σ) 11 (by omega) l hl
 have run:∃ r H1,au Tryz.prog σ jd [sls l] Hp.empty r H1∧r=Bo (decide (40<n)):=by
  refine pw.run (ak (hn _) ?_)
  simp
 obtain ⟨r,H1,hg,rfl⟩:=run
 exact ⟨_,fun H=>hg.over (by simp [aK,bt]) rfl H,fun h=>h2 (by simpa using h)⟩
end Go.Proofs.YthdcghnjndhecaaGreat.Ev
namespace Go.Proofs.YthdcghnjndhecaaGreat.Ev
set_option linter.unusedVariables false
set_option linter.unusedSimpArgs false
variable {σ:Sig}
def dG (g:Nat→Bool) (L:List Nd) (k:Int):Nat→Nat→Bool
 | 0,_=>false
 | f+1,e=>decide (0≤cm L e k)&&(g (cm L e k).toNat||(nF k&&dG g L k f (cm L e k).toNat))
def dK (any:List Sl→Nat→Bool) (L:List Nd) (e:Nat) (q:Ps):Bool :=
 if q.kind=1 then decide (par L e<0) else if q.kind=2 then decide (dq L e=1) else if q.kind=3 then nZ L e else if q.kind=4 then decide (dq L e=1)&&nZ L e
 else if q.kind=5 then decide (nX L e 0<0) else if q.kind=6 then uH (dq L e) q.a q.b else if q.kind=7 then !any q.list e else if q.kind=8 then any q.list e else false
def kL (any:List Sl→Nat→Bool) (L:List Nd) (e:Nat) (c:Cp):Bool:=me (bv (bV L e)) c&&c.pseudos.all (dK any L e)
def bI (any:List Sl→Nat→Bool) (L:List Nd) (s:Sl):Nat→Nat→Bool
 | 0,e=>match s[0]? with
  | some p=>kL any L e p.c
  | none=>false
 | i+1,e=>match s[i+1]? with
  | some p=>kL any L e p.c&&dG (bI any L s i) L p.comb (e+1) e
  | none=>false
def pV (any:List Sl→Nat→Bool) (L:List Nd) (l:List Sl) (e:Nat):Bool:=l.any fun s=>!decide (s.length=0)&&bI any L s (s.length - 1) e
def wg (L:List Nd):Nat→List Sl→Nat→Bool
 | 0,_,_=>false
 | f+1,l,e=>pV (wg L f) L l e
def m9:Nat→List Sl→Prop
 | 0,_=>False
 | f+1,l=>∀ s ∈ l,∀ p ∈ s,∀ q ∈ p.c.pseudos,m9 f q.list
theorem o0.nest:∀ {f:Nat} {l:List Sl},o0 f l→m9 f l
 | 0,l,h=>h
 | f+1,l,h=>fun s hs p hp q hq=>(((h s hs).2 p hp).2 q hq).nest
theorem sk {any any':List Sl→Nat→Bool} {L:List Nd} {c:Cp} (h:∀ q ∈ c.pseudos,∀ e,any q.list e=any' q.list e) (e:Nat):kL any L e c=kL any' L e c:=by
 unfold kL
 congr 1
 rw [Bool.eq_iff_iff,List.all_eq_true,List.all_eq_true]
 have:∀ q ∈ c.pseudos,dK any L e q=dK any' L e q:=fun q hq=>by unfold dK; rw [h q hq]
 exact ⟨fun h q hq=>by rw [← this q hq]; exact h q hq,fun h q hq=>by rw [this q hq]; exact h q hq⟩
theorem pX {g g':Nat→Bool} {L:List Nd} {k:Int} (h:∀ e,g e=g' e):∀ (f e:Nat),dG g L k f e=dG g' L k f e
 | 0,e=>rfl
 | f+1,e=>by unfold dG; rw [h,pX h f]
theorem p_ {any any':List Sl→Nat→Bool} {L:List Nd} {s:Sl} (h:∀ p ∈ s,∀ q ∈ p.c.pseudos,∀ e,any q.list e=any' q.list e):∀ (i e:Nat),bI any L s i e=bI any' L s i e
 | 0,e=>by
  unfold bI
  cases hs:s[0]? with
  | none=>rfl
  | some p=>exact sk (h p (List.mem_of_getElem? hs)) e
 | i+1,e=>by
  unfold bI
  cases hs:s[i+1]? with
  | none=>rfl
  | some p =>
   simp only
   rw [sk (h p (List.mem_of_getElem? hs)) e,pX (p_ h i)]
theorem zh {any any':List Sl→Nat→Bool} {L:List Nd} {l:List Sl} (h:∀ s ∈ l,∀ p ∈ s,∀ q ∈ p.c.pseudos,∀ e,any q.list e=any' q.list e) (e:Nat):pV any L l e=pV any' L l e:=by
 unfold pV
 rw [Bool.eq_iff_iff,List.any_eq_true,List.any_eq_true]
 have:∀ s ∈ l,(!decide (s.length=0)&&bI any L s (s.length - 1) e)=(!decide (s.length=0)&&bI any' L s (s.length - 1) e):=fun s hs=>by rw [p_ (h s hs)]
 exact ⟨fun ⟨s,hs,h⟩=>⟨s,hs,by rw [← this s hs]; exact h⟩,fun ⟨s,hs,h⟩=>⟨s,hs,by rw [this s hs]; exact h⟩⟩
theorem rE {L:List Nd}:∀ (f g:Nat) (l:List Sl) (e:Nat),m9 f l→f≤g→wg L g l e=wg L f l e
 | 0,g,l,e,h,_=>h.elim
 | f+1,0,l,e,h,hfg=>by omega
 | f+1,g+1,l,e,h,hfg=>by
  unfold wg
  exact zh (fun s hs p hp q hq e=>rE f g q.list e (h s hs p hp q hq) (by omega)) e
def AA (L:List Nd):List Sl→Nat→Bool:=wg L 12
theorem CJ {L:List Nd} {f:Nat} {l:List Sl} (h:m9 f l) (hf:f≤12) (e:Nat):pV (AA L) L l e=AA L l e:=by
 show wg L 13 l e=wg L 12 l e
 rw [rE f 13 l e h (by omega),rE f 12 l e h hf]
def pA (C:List (List Lk)) (n:Nat):Sl:=(C.getD n []).map (·.part)
def Tru (L:List Nd) (C:List (List Lk)) (n i e:Nat):Bool→Bool
 | false=>bI (AA L) L (pA C n) i e
 | true=>match (pA C n)[i]? with
  | some p=>dG (bI (AA L) L (pA C n) (i - 1)) L p.comb (e+1) e
  | none=>false
def yz (R:List Sl→List Nat→Prop) (C:List (List Lk)) (s:Sl) (n:Nat):Prop :=
 ∃ c,C[n]?=some c∧c.map (·.part)=s∧∀ (k:Nat) (x:Lk),c[k]?=some x→x.lists.length=x.part.c.pseudos.length∧∀ (j:Nat) (q:Ps) (ns:List Nat),x.part.c.pseudos[j]?=some q→x.lists[j]?=some ns→R q.list ns
def Rep (C:List (List Lk)):Nat→List Sl→List Nat→Prop
 | 0,_,_=>False
 | f+1,l,ns=>ns.length=l.length∧∀ (i:Nat) (s:Sl) (n:Nat),l[i]?=some s→ns[i]?=some n→yz (Rep C f) C s n
theorem yz.sel {R:List Sl→List Nat→Prop} {C:List (List Lk)} {s:Sl} {n:Nat} (h:yz R C s n):pA C n=s:=by
 obtain ⟨c,hc,hs,_⟩:=h
 unfold pA
 rw [List.getD_eq_getElem?_getD,hc]
 exact hs
structure N7 (x:Lk):Prop where
 c:vM x.part.c
 ps:∀ q ∈ x.part.c.pseudos,i64 q.a∧i64 q.b
 ls:∀ l ∈ x.lists,l.length≤reachBytes
structure Mc (σ:Sig) (L:List Nd) (d:List Nat) (C:List (List Lk)):Prop where
 hC:qB σ
 hB:cQ L L.length d
 hN:L.length≤4096
 sm:∀ e,e<L.length→SmN (bv (bV L e))
 cl:C.length≤reachBytes
 ll:∀ c ∈ C,c.length≤reachBytes
 lk:∀ c ∈ C,∀ x ∈ c,N7 x
theorem Gs.ld1 {H:Hp} {x v:AV} {rows:List (List AV)} {n:Nat} (h:Gs 1 H x rows) (hn:rows[n]?=some [v]):∃ p,az 1 x (I (n:Int))=some p∧ldA false 1 H p=some v:=by
 have hlt:=(List.getElem?_eq_some_iff.1 hn).1
 cases h with
 | nil=>simp at hlt
 | sl hl hg hsz =>
  rename_i id ex
  refine ⟨.ptr id (0+(n:Int).toNat*1),nW (by omega) (by omega),?_⟩
  have:=kE hsz hlt
  rw [List.getElem?_eq_getElem hlt] at hn
  rw [Option.some.inj hn] at this
  simp [hg]
  rw [Nat.mul_one] at this
  rw [this]
  simp
section
variable {L:List Nd} {d:List Nat} {C:List (List Lk)}
def uL (σ:Sig) (L:List Nd) (d:List Nat) (C:List (List Lk)) (f:Nat) (xs:List AV) (b:Bool):Prop :=
 ∀ (ab mb:Nat) (cs:AV) (H:Hp) (K:AV→Hp→Prop),jl (cx L d) C (Tru L C) ab mb cs H→(∀ H',jl (cx L d) C (Tru L C) ab mb cs H'→Kp mb H H'→K (Bo b) H')→av Tryz.prog σ f (.ptr ab 0::xs) H K
theorem uL.pure {f:Nat} {xs:List AV} {b:Bool} (h:∀ H,au Tryz.prog σ f (.ip (cx L d::[])::xs) H (Bo b) H) (hx:aK xs=true):uL σ L d C f xs b :=
 fun ab mb cs H K hA hK=>ak (hA.pure (h Hp.empty) hx rfl) (hK H hA (.refl _ _))
def tZ (σ:Sig) (L:List Nd) (d:List Nat) (C:List (List Lk)) (f:Nat):Prop:=∀ (l:List Sl) (ns:List Nat),Rep C f l ns→m9 f l→f≤12→ns.length≤reachBytes→∀ e,e<L.length→uL σ L d C dY [I (e:Int),mv ns] (AA L l e)
theorem Ce (M:Mc σ L d C) {f:Nat} (hA:tZ σ L d C f) (hf:f≤12) {q:Ps} (hq:i64 q.a∧i64 q.b) {ns:List Nat} (hr:(q.kind=7∨q.kind=8)→Rep C f q.list ns) (hnest:(q.kind=7∨q.kind=8)→m9 f q.list) (hns:ns.length≤reachBytes) {e:Nat} (he:e<L.length) :
  uL σ L d C fd [I (e:Int),.agg (bH q),mv ns] (dK (AA L) L e q):=by
 intro ab mb cs H K hA0 hK
 have hpar:=ma M.hB he
 have hpl:=uy L e
 have e1:ab≠H.n:=by have:=hA0.nab; omega
 have a1:=hA0.new (.cells (bH q) true)
 have k1:=Kp.new mb H (.cells (bH q) true)
 refine iC.run ?_
 simp [e_,e1,hA0.gab]
 have e2:∀ Ks:AV→Hp→Prop,Ks=Ks:=fun _=>rfl
 unfold dK at hK
 have hH:Hp.new H (.cells [I q.kind,I q.a,I q.b,.imm 1 (q.list.map aH)] true)=Hp.new H (.cells (bH q) true):=by rw [e_]
 rw [hH]
 obtain ⟨H1,hH1⟩:∃ H1,H1=H.new (.cells (bH q) true):=⟨_,rfl⟩
 have gq:H1.get H.n=some (.cells [I q.kind,I q.a,I q.b,.imm 1 (q.list.map aH)] true):=by rw [hH1,← e_]; simp
 rw [← hH1] at a1 k1 ⊢
 have pur:∀ {g:Nat} {xs:List AV} {b:Bool},(∀ H,au Tryz.prog σ g (.ip (cx L d::[])::xs) H (Bo b) H)→aK xs=true→au Tryz.prog σ g (.ptr ab 0::xs) H1 (Bo b) H1:=fun h hx=>a1.pure (h Hp.empty) hx rfl
 split
 ·rename_i h
  rw [if_pos h] at hK
  refine ak (rz L d M.hN he _) ?_
  simpa using hK H1 a1 k1
 rename_i h1
 rw [if_neg h1] at hK
 split
 ·rename_i h
  rw [if_pos h] at hK
  refine ak (pP L d M.hN he _) ?_
  simpa using hK H1 a1 k1
 rename_i h2
 rw [if_neg h2] at hK
 split
 ·rename_i h
  rw [if_pos h] at hK
  exact ak (pur (fun H=>x_ M.hB M.hN he [] rfl H) rfl) (hK H1 a1 k1)
 rename_i h3
 rw [if_neg h3] at hK
 split
 ·rename_i h
  rw [if_pos h] at hK
  refine ak (pP L d M.hN he _) ?_
  simp
  split
  ·rename_i hp
   simp [hp] at hK
   exact ak (pur (fun H=>x_ M.hB M.hN he [] rfl H) rfl) (hK H1 a1 k1)
  ·rename_i hp
   simp [hp] at hK
   exact hK H1 a1 k1
 rename_i h4
 rw [if_neg h4] at hK
 split
 ·rename_i h
  rw [if_pos h] at hK
  have:=wR (σ:=σ) L d M.hN (k:=0) he
  refine ak (this _) ?_
  simpa using hK H1 a1 k1
 rename_i h5
 rw [if_neg h5] at hK
 split
 ·rename_i h
  rw [if_pos h] at hK
  refine ak (pP L d M.hN he _) ?_
  simp [gq]
  refine ak (QO ?_ hq.1 hq.2 _) (hK H1 a1 k1)
  have:=M.hN
  unfold i64
  omega
 rename_i h6
 rw [if_neg h6] at hK
 split
 ·rename_i h
  rw [if_pos h] at hK
  refine hA q.list ns (hr (.inl h)) (hnest (.inl h)) hf hns e he ab mb cs H1 _ a1 fun H2 a2 k2=>?_
  simp
  exact hK H2 a2 (k1.trans k2)
 rename_i h7
 rw [if_neg h7] at hK
 split
 ·rename_i h
  rw [if_pos h] at hK
  exact hA q.list ns (hr (.inr h)) (hnest (.inr h)) hf hns e he ab mb cs H1 _ a1 fun H2 a2 k2=>hK H2 a2 (k1.trans k2)
 ·rename_i h
  rw [if_neg h] at hK
  exact hK H1 a1 k1
theorem TU (x:Lk):ldL true 5 ((ey x).drop 1)=some (.agg (bU x.part.c)):=by
 have e:(ey x).drop 1=bU x.part.c++[.imm 1 (x.lists.map fun l=>[mv l])]:=by
  unfold ey; rw [dm]; rfl
 rw [e,Oa (by simp)]
 rw [List.take_append_of_le_length (by simp),List.take_of_length_le (by simp)]
theorem SD (x:Lk):ldL false 1 ((ey x).drop 5)=some (.imm 4 (x.part.c.pseudos.map bH)):=by
 unfold ey; rw [dm,cd]; rfl
theorem SG (x:Lk):ldL false 1 ((ey x).drop 6)=some (.imm 1 (x.lists.map fun l=>[mv l])):=by
 unfold ey; rw [dm,cd]; rfl
theorem Mu (x:Lk):ldL false 1 (ey x)=some (I x.part.comb):=by
 unfold ey; rw [dm]; rfl
section
attribute [local irreducible] br.L0
theorem yN (M:Mc σ L d C) {f:Nat} (hA:tZ σ L d C f) (hf:f≤12) {x:Lk} (hx:N7 x) (hl:x.lists.length=x.part.c.pseudos.length) (hr:∀ (j:Nat) (q:Ps) (ns:List Nat),x.part.c.pseudos[j]?=some q→x.lists[j]?=some ns→Rep C f q.list ns) (hn:∀ q ∈ x.part.c.pseudos,m9 f q.list) {e:Nat} (he:e<L.length) :
  uL σ L d C ep [I (e:Int),.agg (ey x)] (kL (AA L) L e x.part.c):=by
 intro ab mb cs H K hA0 hK
 have a1:=hA0.new (.cells (ey x) true)
 have k1:=Kp.new mb H (.cells (ey x) true)
 have hml:mb≠H.n:=by have:=hA0.nmb; omega
 have hm1:mb<H.n:=hA0.nmb
 have hps:=hx.c.ps
 have L0:∀ (m k:Nat) (H1:Hp),x.part.c.pseudos.length - m=k→m≤x.part.c.pseudos.length→jl (cx L d) C (Tru L C) ab mb cs H1→Kp mb (H.new (.cells (ey x) true)) H1 →
   (∀ H',jl (cx L d) C (Tru L C) ab mb cs H'→Kp mb H H'→K (Bo ((x.part.c.pseudos.drop m).all (dK (AA L) L e))) H')→br.L0 σ K (.ptr ab 0) (I (e:Int)) (.ptr H.n 0) (.imm 4 (x.part.c.pseudos.map bH)) (I x.part.c.pseudos.length) (I m) H1:=by
  intro m k
  revert m
  induction k with
  | zero =>
   intro m H1 hk hm h1 kp hK
   have:m=x.part.c.pseudos.length:=by omega
   subst this
   refine br.L0_step ?_
   simp
   simpa using hK H1 h1 (k1.trans kp)
  | succ k ih =>
   intro m H1 hk hm h1 kp hK
   have hlt:m<x.part.c.pseudos.length:=by omega
   obtain ⟨q,hq⟩:=bp hlt
   obtain ⟨ns,hns⟩:=bp (l:=x.lists) (k:=m) (by omega)
   have hqm:=List.mem_of_getElem? hq
   rw [bK hq] at hK
   have hlt':(m:Int)<x.part.c.pseudos.length:=by omega
   have gx:H1.get H.n=some (.cells (ey x) true):=by rw [kp.get H.n (by simp) (Ne.symm hml)]; simp
   have hup:=kp.up
   simp at hup
   have n1:H.n≠H1.n:=by omega
   refine br.L0_step ?_
   have hls:az 1 (.imm 1 (x.lists.map fun l=>[mv l])) (I (m:Int))=some (.ip [mv ns]):=by
    have:=bm (f:=fun l:List Nat=>[mv l]) (sz:=1) hns
    exact this
   simp only [a_,hlt',decide_true,aa,ai,if_true,bm hq,dX,rj,bA]
   have hst:stA 4 (H1.new (.cells [I 0,I 0,I 0,.lit (.slice none 0 0)] true)) (.ptr H1.n 0) (.agg (bH q))=some ((H1.new (.cells [I 0,I 0,I 0,.lit (.slice none 0 0)] true)).set H1.n (some (.cells (bH q) true))):=by
    simp
    rw [yk q (by simp)]
   rw [hst,aa]
   simp only [aL,ay,if_true,aM,List.drop_zero,rj,aa,bu,Nat.zero_add,n1,if_false,bN,gx,SG]
   rw [hls,aa]
   simp only [dX,jL,aa]
   have a2:=h1.setN (h1.new (.cells [I 0,I 0,I 0,.lit (.slice none 0 0)] true)) (Nat.le_refl H1.n) (some (.cells (bH q) true))
   have k2:=(Kp.new mb H1 (.cells [I 0,I 0,I 0,.lit (.slice none 0 0)] true)).setN (Nat.le_refl H1.n) (some (.cells (bH q) true))
   refine Ce M hA hf (hx.ps q hqm) (fun _=>hr m q ns hq hns) (fun _=>hn q hqm) (hx.ls ns (List.mem_of_getElem? hns)) he ab mb cs _ _ a2 fun H2 a3 k3=>?_
   simp only [eM,aa,ai]
   cases hb:dK (AA L) L e q with
   | false =>
    simp [hb] at hK
    simp
    exact hK H2 a3 (k1.trans (kp.trans (k2.trans k3)))
   | true =>
    simp [hb] at hK
    simp
    rw [cn hlt hps (by decide)]
    exact ih (m+1) H2 (by omega) (by omega) a3 (kp.trans (k2.trans k3)) (by simpa using hK)
 refine br.run ?_
 simp only [cJ,bu,Nat.zero_add,aL,bN,if_true,aM,TU,aa]
 refine ak (a1.pure (Eg M.hC M.hN he (M.sm e he) hx.c [] rfl Hp.empty) (by simp [aK,bt,m5]) rfl) ?_
 simp only [eM,aa,ai]
 unfold kL at hK
 cases hb:me (bv (bV L e)) x.part.c with
 | false =>
  simp [hb] at hK
  simp
  exact hK _ a1 k1
 | true =>
  simp [hb] at hK
  simp [SD]
  exact L0 0 _ _ rfl (Nat.zero_le _) a1 (.refl _ _) (by simpa using hK)
end
theorem uY (M:Mc σ L d C) {e:Nat} (he:e<L.length) (k:Int):cm L e k<e:=by
 unfold cm
 split
 ·rcases ma M.hB he with h | ⟨p,h,hp⟩
  ·omega
  ·omega
 ·split
  ·unfold dA qu
   cases h:(qg L e).getLast? with
   | none=>simp<;>omega
   | some j =>
    have:=List.mem_of_getLast? h
    unfold qg at this
    simp only [List.mem_filter,List.mem_range] at this
    simp; omega
  ·omega
theorem Cy (M:Mc σ L d C) {e:Nat} (he:e<L.length) (k:Int):-1≤cm L e k:=by
 unfold cm
 split
 ·rcases ma M.hB he with h | ⟨p,h,hp⟩
  ·omega
  ·omega
 ·split
  ·unfold dA qu
   cases h:(qg L e).getLast? with
   | none=>simp
   | some j=>simp<;>omega
  ·omega
theorem rZ (M:Mc σ L d C) (g:Nat→Bool) (k:Int):∀ (f f' e:Nat),e<L.length→e<f→e<f'→dG g L k f e=dG g L k f' e
 | 0,f',e,_,h,_=>by omega
 | f+1,0,e,_,_,h=>by omega
 | f+1,f'+1,e,he,h1,h2=>by
  unfold dG
  have:=uY M he k
  by_cases h:0≤cm L e k
  ·rw [rZ M g k f f' _ (by omega) (by omega) (by omega)]
  ·simp [h]
theorem yP (M:Mc σ L d C) {ab mb:Nat} {cs:AV} {H:Hp} (hA:jl (cx L d) C (Tru L C) ab mb cs H) {n i:Nat} {c:List Lk} {x:Lk} (hc:C[n]?=some c) (hx:c[i]?=some x) :
  ∃ p,az 1 cs (I (n:Int))=some p∧ldA false 1 H p=some (j9 c)∧az 7 (j9 c) (I (i:Int))=some (.ip (ey x)):=by
 obtain ⟨p,h1,h2⟩:=hA.gcs.ld1 (n:=n) (v:=j9 c) (by rw [List.getElem?_map,hc]; rfl)
 exact ⟨p,h1,h2,bm hx⟩
theorem A9 (M:Mc σ L d C) {f:Nat} (hA:tZ σ L d C f) (hf:f≤12) {n:Nat} {s:Sl} (hr:yz (Rep C f) C s n) (hn:∀ p ∈ s,∀ q ∈ p.c.pseudos,m9 f q.list) (hn9:n<9000000000000000000) (i:Nat) (hi:i<s.length) (hi9:i<9000000000000000000)
  (hah:i≠0→∀ e,e<L.length→uL σ L d C dt [I (n:Int),I (i:Int),I (e:Int)] (Tru L C n i e true)) (e:Nat) (he:e<L.length) :
  uL σ L d C dH [I (n:Int),I (i:Int),I (e:Int)] (Tru L C n i e false):=by
 intro ab mb cs H K hA0 hK
 obtain ⟨c,hc,hcs,hcl⟩:=hr
 have hsel:pA C n=s:=yz.sel ⟨c,hc,hcs,hcl⟩
 obtain ⟨x,hx⟩:=bp (l:=c) (k:=i) (by rw [← List.length_map (f:=(·.part)),hcs]; exact hi)
 have hcm:=List.mem_of_getElem? hc
 have hxm:=List.mem_of_getElem? hx
 have hlk:=M.lk c hcm x hxm
 obtain ⟨hl1,hl2⟩:=hcl i x hx
 have hsx:s[i]?=some x.part:=by rw [← hcs,List.getElem?_map,hx]; rfl
 have hbx:∀ (v:AV) (H:Hp) (K:AV→Hp→Prop),v.isAny=false→v.cells=[v]→cV v H K=K (.ptr H.n 0) (H.new (.cells [v] true)):=fun v H K h1 h2=>tD h1 h2 H K
 have tr:Tru L C n i e false=(kL (AA L) L e x.part.c&&(decide (i=0)||Tru L C n i e true)):=by
  unfold Tru
  simp only [hsel]
  cases i with
  | zero=>unfold bI; simp [hsx]
  | succ i=>rw [bI]; simp [hsx]
 refine kT.run ?_
 rw [hbx _ _ _ rfl rfl,hbx _ _ _ rfl rfl,hbx _ _ _ rfl rfl,hbx _ _ _ rfl rfl]
 obtain ⟨H4,hH4⟩:∃ H4,H4=(((H.new (.cells [.ptr ab 0] true)).new (.cells [I (n:Int)] true)).new (.cells [I (i:Int)] true)).new (.cells [I (e:Int)] true):=⟨_,rfl⟩
 have a4:jl (cx L d) C (Tru L C) ab mb cs H4:=by rw [hH4]; exact (((hA0.new _).new _).new _).new _
 have k4:Kp mb H H4:=by rw [hH4]; exact (((Kp.new mb H _).trans (Kp.new mb _ _)).trans (Kp.new mb _ _)).trans (Kp.new mb _ _)
 have q1:¬ (H.n=H.n+1+1+1):=by omega
 have q2:¬ (H.n=H.n+1+1):=by omega
 have q3:¬ (H.n+1=H.n+1+1+1):=by omega
 have g0:H4.get H.n=some (.cells [.ptr ab 0] true):=by rw [hH4]; simp [q1,q2]
 have g1:H4.get (H.n+1)=some (.cells [I (n:Int)] true):=by rw [hH4]; simp [q3]
 have g2:H4.get (H.n+1+1)=some (.cells [I (i:Int)] true):=by rw [hH4]; simp
 have g3:H4.get (H.n+1+1+1)=some (.cells [I (e:Int)] true):=by rw [hH4]; simp
 have n4:H4.n=H.n+4:=by rw [hH4]; rfl
 rw [← hH4]
 simp only [Hp.n_new]
 rw [ld2 g0,aa,ld2 g1,aa,ld2 g2,aa,ld2 g3,aa]
 have hb:dy [I 0,I 0,I 0,.lit (.bool false)] [(0,1,I (n:Int)),(1,1,I (i:Int)),(2,1,I (e:Int)),(3,1,Bo false)]=some (mq n i e false):=rfl
 rw [hb,aa]
 have mbl:=hA0.nmb
 refine AW (n:=n) (i:=i) (e:=e) (a:=false) a4 (List.getElem?_eq_some_iff.1 hc).1 rfl (fun H1 K1 h1 kp1 hK1=>?_) (fun H' h' kp'=>hK H' h' (k4.trans kp'))
 have keep:∀ {H2:Hp},Kp mb H4 H2→∀ {j:Nat} {v:AV},H.n≤j→j<H.n+4→H4.get j=some (.cells [v] true)→H2.get j=some (.cells [v] true):=fun kp j v h1 h2 hg=>by rw [kp.get j (by omega) (by omega)]; exact hg
 rw [kF,List.nil_append]
 refine jp.run ?_
 obtain ⟨p,c1,c2,c3⟩:=yP M h1 hc hx
 have hlx:ldL true 7 (ey x)=some (.agg (ey x)):=dg (Rs x)
 have hcab:ldA false 1 H1 (.ptr ab 1)=some cs:=by simp [h1.gab]
 rw [ld2 (keep kp1 (by omega) (by omega) g0),aa,ld2 (keep kp1 (by omega) (by omega) g3),aa,aa,kK,aa,bu,aa,hcab,aa,ld2 (keep kp1 (by omega) (by omega) g1),aa,c1,aa,c2,aa,ld2 (keep kp1 (by omega) (by omega) g2),aa,c3,aa,dX,hlx,aa]
 refine yN M hA hf hlk hl1 hl2 (hn x.part (List.mem_of_getElem? hsx)) he ab mb cs H1 _ h1 fun H2 h2 kp2=>?_
 simp only [ai]
 rw [tr] at hK1
 cases hcb:kL (AA L) L e x.part.c with
 | false =>
  simp [hcb] at hK1
  simp
  exact hK1 H2 h2 kp2
 | true =>
  simp [hcb] at hK1
  simp only [if_true]
  have kp12:=kp1.trans kp2
  rw [ld2 (keep kp12 (by omega) (by omega) g2),aa,fh,aa]
  simp only [ai,decide_eq_true_eq]
  split
  ·rename_i h0
   have h0':i=0:=by omega
   simp [h0'] at hK1
   exact hK1 H2 h2 kp2
  ·rename_i h0
   have h0':i≠0:=by omega
   simp [h0'] at hK1
   rw [ld2 (keep kp12 (by omega) (by omega) g0),aa,ld2 (keep kp12 (by omega) (by omega) g1),aa,aa,ld2 (keep kp12 (by omega) (by omega) g3),aa]
   exact hah h0' e he ab mb cs H2 _ h2 fun H3 h3 kp3=>hK1 H3 h3 (kp2.trans kp3)
theorem zU (M:Mc σ L d C) {n:Nat} {c:List Lk} (hc:C[n]?=some c) (hn9:n<9000000000000000000) {i:Nat} {x:Lk} (hx:c[i+1]?=some x) (hi9:i+1<9000000000000000000)
  (hsx:(pA C n)[i+1]?=some x.part) (his:∀ e,e<L.length→uL σ L d C dH [I (n:Int),I (i:Int),I (e:Int)] (Tru L C n i e false)) :
  ∀ (m e:Nat),e<m→e<L.length→uL σ L d C dt [I (n:Int),I ((i+1:Nat):Int),I (e:Int)] (Tru L C n (i+1) e true):=by
 intro m
 induction m with
 | zero=>intro e h; omega
 | succ m ih =>
  intro e hem he ab mb cs H K hA0 hK
  have hlt:=uY M he x.part.comb
  have hge:=Cy M he x.part.comb
  have trE:∀ e,e<L.length→Tru L C n (i+1) e true=dG (bI (AA L) L (pA C n) i) L x.part.comb (e+1) e:=fun e he=>by
   unfold Tru
   simp only [hsx,Nat.add_sub_cancel]
  have tr:Tru L C n (i+1) e true=(decide (0≤cm L e x.part.comb)&&(Tru L C n i (cm L e x.part.comb).toNat false||(nF x.part.comb&&Tru L C n (i+1) (cm L e x.part.comb).toNat true))):=by
   rw [trE e he]
   by_cases h:0≤cm L e x.part.comb
   ·rw [trE _ (by omega),dG]
    rw [rZ M (bI (AA L) L (pA C n) i) x.part.comb e ((cm L e x.part.comb).toNat+1) (cm L e x.part.comb).toNat (by omega) (by omega) (by omega)]
    rfl
   ·rw [dG]; simp [h]
  have hbx:∀ (v:AV) (H:Hp) (K:AV→Hp→Prop),v.isAny=false→v.cells=[v]→cV v H K=K (.ptr H.n 0) (H.new (.cells [v] true)):=fun v H K h1 h2=>tD h1 h2 H K
  refine iW.run ?_
  rw [hbx _ _ _ rfl rfl,hbx _ _ _ rfl rfl,hbx _ _ _ rfl rfl]
  obtain ⟨H3,hH3⟩:∃ H3,H3=((H.new (.cells [.ptr ab 0] true)).new (.cells [I (n:Int)] true)).new (.cells [I ((i+1:Nat):Int)] true):=⟨_,rfl⟩
  have a3:jl (cx L d) C (Tru L C) ab mb cs H3:=by rw [hH3]; exact ((hA0.new _).new _).new _
  have k3:Kp mb H H3:=by rw [hH3]; exact ((Kp.new mb H _).trans (Kp.new mb _ _)).trans (Kp.new mb _ _)
  have q2:¬ (H.n=H.n+1+1):=by omega
  have g0:H3.get H.n=some (.cells [.ptr ab 0] true):=by rw [hH3]; simp [q2]
  have g1:H3.get (H.n+1)=some (.cells [I (n:Int)] true):=by rw [hH3]; simp
  have g2:H3.get (H.n+1+1)=some (.cells [I ((i+1:Nat):Int)] true):=by rw [hH3]; simp
  have n3:H3.n=H.n+1+1+1:=by rw [hH3]; rfl
  rw [← hH3]
  simp only [Hp.n_new]
  obtain ⟨p,c1,c2,c3⟩:=yP M a3 hc hx
  have hcab:ldA false 1 H3 (.ptr ab 1)=some cs:=by simp [a3.gab]
  rw [ld2 g0,aa,aa,kK,aa,bu,aa,hcab,aa,ld2 g1,aa,c1,aa,c2,aa,ld2 g2,aa,c3,aa,iJ,aa,List.drop_zero,iJ,aa,List.drop_zero,dX,Mu,aa]
  refine ak (a3.pure (BY M.hN he x.part.comb [] rfl Hp.empty) rfl (by simp [iG,jH])) ?_
  simp only [qc,List.getElem?_cons_zero,List.getElem?_cons_succ,aa,bA,Hp.n_new]
  obtain ⟨H5,hH5⟩:∃ H5,H5=(((H3.new (.cells [I 0] true)).new (.cells [Bo false] true)).set H3.n (some (.cells [I (cm L e x.part.comb)] true))).set (H3.n+1) (some (.cells [Bo (nF x.part.comb)] true)):=⟨_,rfl⟩
  have s1:stA 1 ((H3.new (.cells [I 0] true)).new (.cells [Bo false] true)) (.ptr H3.n 0) (I (cm L e x.part.comb))=some (((H3.new (.cells [I 0] true)).new (.cells [Bo false] true)).set H3.n (some (.cells [I (cm L e x.part.comb)] true))):=by simp
  have s2:stA 1 (((H3.new (.cells [I 0] true)).new (.cells [Bo false] true)).set H3.n (some (.cells [I (cm L e x.part.comb)] true))) (.ptr (H3.n+1) 0) (Bo (nF x.part.comb))=some H5:=by rw [hH5]; simp
  rw [s1,aa,s2,aa]
  have a5:jl (cx L d) C (Tru L C) ab mb cs H5:=by
   rw [hH5]
   exact a3.setN (a3.setN ((a3.new _).new _) (Nat.le_refl _) _) (by omega) _
  have k5:Kp mb H3 H5:=by
   rw [hH5]
   exact ((((Kp.new mb H3 _).trans (Kp.new mb _ _))).setN (Nat.le_refl _) _).setN (by omega) _
  have mbl:=hA0.nmb
  have n5:H5.n=H.n+1+1+1+1+1:=by rw [hH5]; simp [n3]
  have r0:H5.get H.n=some (.cells [.ptr ab 0] true):=by rw [k5.get _ (by omega) (by omega)]; exact g0
  have r1:H5.get (H.n+1)=some (.cells [I (n:Int)] true):=by rw [k5.get _ (by omega) (by omega)]; exact g1
  have r2:H5.get (H.n+1+1)=some (.cells [I ((i+1:Nat):Int)] true):=by rw [k5.get _ (by omega) (by omega)]; exact g2
  have r3:H5.get H3.n=some (.cells [I (cm L e x.part.comb)] true):=by rw [hH5]; simp
  have r4:H5.get (H3.n+1)=some (.cells [Bo (nF x.part.comb)] true):=by rw [hH5]; simp
  clear hH5 s1 s2
  rw [ld2 r3,aa,im,aa]
  simp only [ai,decide_eq_true_eq]
  rw [tr] at hK
  split
  ·rename_i h0
   rw [ld2 r0,aa,ld2 r1,aa,ld2 r2,aa]
   have hb:dy [I 0,I 0,I 0,.lit (.bool false)] [(0,1,I (n:Int)),(1,1,I ((i+1:Nat):Int)),(2,1,I (e:Int)),(3,1,Bo true)]=some (mq n (i+1) e true):=rfl
   rw [hb,aa]
   refine AW (n:=n) (i:=i+1) (e:=e) (a:=true) a5 (List.getElem?_eq_some_iff.1 hc).1 rfl (fun H1 K1 h1 kp1 hK1=>?_) (fun H' h' kp'=>?_)
   ·have keep:∀ {H2:Hp},Kp mb H5 H2→∀ {j:Nat} {v:AV},H.n≤j→j<H.n+5→H5.get j=some (.cells [v] true)→H2.get j=some (.cells [v] true):=fun kp j v h1 h2 hg=>by rw [kp.get j (by omega) (by omega)]; exact hg
    obtain ⟨x',hx'⟩:∃ k:Nat,cm L e x.part.comb=k:=⟨(cm L e x.part.comb).toNat,by omega⟩
    rw [tr,hx'] at hK1
    rw [hx'] at r3 hlt
    simp only [Int.toNat_natCast] at hK1
    rw [kF,List.nil_append]
    refine ic.run ?_
    have e1:wr .i64 (((i+1:Nat):Int) - 1)=(i:Int):=by rw [cM (by omega) (by omega)]; omega
    rw [ld2 (keep kp1 (by omega) (by omega) r0),aa,ld2 (keep kp1 (by omega) (by omega) r1),aa,ld2 (keep kp1 (by omega) (by omega) r2),aa,ki,aa,e1,ld2 (keep kp1 (by omega) (by omega) r3),aa]
    refine his x' (by omega) ab mb cs H1 _ h1 fun H2 h2 kp2=>?_
    simp only [ai]
    have kp12:=kp1.trans kp2
    have h0':(0:Int)≤(x':Int):=by omega
    cases hf:Tru L C n i x' false with
    | true =>
     simp [hf,h0'] at hK1
     simp
     exact hK1 H2 h2 kp2
    | false =>
     simp [hf,h0'] at hK1
     simp only [Bool.false_eq_true,if_false]
     rw [ld2 (keep kp12 (by omega) (by omega) r4),aa]
     simp only [ai]
     cases hfar:nF x.part.comb with
     | false =>
      simp [hfar] at hK1
      simp
      exact hK1 H2 h2 kp2
     | true =>
      simp [hfar] at hK1
      simp only [if_true]
      rw [ld2 (keep kp12 (by omega) (by omega) r0),aa,ld2 (keep kp12 (by omega) (by omega) r1),aa,ld2 (keep kp12 (by omega) (by omega) r2),aa,ld2 (keep kp12 (by omega) (by omega) r3),aa]
      exact ih x' (by omega) (by omega) ab mb cs H2 _ h2 fun H3' h3 kp3=>hK1 H3' h3 (kp2.trans kp3)
   ·rw [← tr] at hK
    exact hK H' h' (k3.trans (k5.trans kp'))
  ·rename_i h0
   have:decide (0≤cm L e x.part.comb)=false:=by simpa using h0
   rw [this,Bool.false_and] at hK
   exact hK H5 a5 (k3.trans k5)
theorem Pa (M:Mc σ L d C) {f:Nat} (hA:tZ σ L d C f) (hf:f≤12) {n:Nat} {s:Sl} (hr:yz (Rep C f) C s n) (hn:∀ p ∈ s,∀ q ∈ p.c.pseudos,m9 f q.list) (hn9:n<9000000000000000000):∀ (i:Nat),i<s.length→i<9000000000000000000→∀ e,e<L.length →
  uL σ L d C dH [I (n:Int),I (i:Int),I (e:Int)] (Tru L C n i e false)
 | 0,hi,hi9,e,he=>A9 M hA hf hr hn hn9 0 hi hi9 (fun h=>absurd rfl h) e he
 | i+1,hi,hi9,e,he=>by
  refine A9 M hA hf hr hn hn9 (i+1) hi hi9 (fun _ e he=>?_) e he
  obtain ⟨c,hc,hcs,hcl⟩:=hr
  obtain ⟨x,hx⟩:=bp (l:=c) (k:=i+1) (by rw [← List.length_map (f:=(·.part)),hcs]; exact hi)
  have hsel:pA C n=s:=yz.sel ⟨c,hc,hcs,hcl⟩
  have hsx:(pA C n)[i+1]?=some x.part:=by rw [hsel,← hcs,List.getElem?_map,hx]; rfl
  exact zU M hc hn9 hx hi9 hsx (fun e he=>Pa M hA hf ⟨c,hc,hcs,hcl⟩ hn hn9 i (by omega) (by omega) e he) (e+1) e (by omega) he
section
attribute [local irreducible] bZ.L0
theorem KI (M:Mc σ L d C) {f:Nat} (hA:tZ σ L d C f) (hf:f+1≤12):tZ σ L d C (f+1):=by
 intro l ns hr hn _ hns e he ab mb cs H K hA0 hK
 rw [← CJ hn hf] at hK
 obtain ⟨hlen,hrep⟩:=hr
 have L0:∀ (m k:Nat) (H1:Hp),ns.length - m=k→m≤ns.length→jl (cx L d) C (Tru L C) ab mb cs H1→Kp mb H H1→(∀ H',jl (cx L d) C (Tru L C) ab mb cs H'→Kp mb H H'→K (Bo (pV (AA L) L (l.drop m) e)) H') →
   bZ.L0 σ K (.ptr ab 0) (I (e:Int)) (mv ns) (I ns.length) (I m) H1:=by
  intro m k
  revert m
  induction k with
  | zero =>
   intro m H1 hk hm h1 kp hK
   have:m=ns.length:=by omega
   subst this
   refine bZ.L0_step ?_
   simp
   have:=hK H1 h1 kp
   rw [hlen,List.drop_length] at this
   exact this
  | succ k ih =>
   intro m H1 hk hm h1 kp hK
   have hlt:m<ns.length:=by omega
   obtain ⟨n,hnn⟩:=bp hlt
   obtain ⟨s,hs⟩:=bp (l:=l) (k:=m) (by omega)
   have hrc:=hrep m s n hs hnn
   rw [bK hs] at hK
   have hlt':(m:Int)<ns.length:=by omega
   obtain ⟨c,hc,hcs,hcl⟩:=hrc
   have hcm:=List.mem_of_getElem? hc
   have hcl2:c.length=s.length:=by rw [← hcs,List.length_map]
   obtain ⟨p,c1,c2⟩:=h1.gcs.ld1 (n:=n) (v:=j9 c) (by rw [List.getElem?_map,hc]; rfl)
   have hcab:ldA false 1 H1 (.ptr ab 1)=some cs:=by simp [h1.gab]
   have hix:az 1 (mv ns) (I (m:Int))=some (.ip (qL n)):=bm hnn
   have hllen:aG (j9 c)=some (I (s.length:Int)):=by unfold j9; simp [hcl2]
   have hl9:=M.ll c hcm
   rw [eJ] at hl9 hns
   have hn9:n<9000000000000000000:=by
    have:=(List.getElem?_eq_some_iff.1 hc).1
    have:=M.cl
    rw [eJ] at this
    omega
   have hsel:pA C n=s:=yz.sel ⟨c,hc,hcs,hcl⟩
   refine bZ.L0_step ?_
   have hle:ldL false 1 (qL n)=some (I (n:Int)):=rfl
   simp only [a_,hlt',decide_true,aa,ai,if_true,hix,dX,hle,kK,bu,hcab,c1,c2,hllen,eI,decide_eq_true_eq]
   have hcons:pV (AA L) L (s::l.drop (m+1)) e=((!decide (s.length=0)&&bI (AA L) L s (s.length - 1) e)||pV (AA L) L (l.drop (m+1)) e):=by simp [pV]
   rw [hcons] at hK
   split
   ·rename_i h0
    have e1:wr .i64 ((s.length:Int) - 1)=((s.length - 1:Nat):Int):=by rw [cM (by omega) (by omega)]; omega
    simp only [ki,aa,e1]
    refine Pa M hA (by omega) ⟨c,hc,hcs,hcl⟩ (fun p hp q hq=>hn s (List.mem_of_getElem? hs) p hp q hq) hn9 (s.length - 1) (by omega) (by omega) e he ab mb cs H1 _ h1 fun H2 h2 kp2=>?_
    have htr:Tru L C n (s.length - 1) e false=bI (AA L) L s (s.length - 1) e:=by unfold Tru; simp only [hsel]
    rw [htr]
    have h0':¬ (s.length=0):=by omega
    simp only [ai]
    cases hfr:bI (AA L) L s (s.length - 1) e with
    | true =>
     rw [hfr] at hK
     simp [h0'] at hK
     simp
     exact hK H2 h2 (kp.trans kp2)
    | false =>
     rw [hfr] at hK
     simp at hK
     simp
     rw [bq (by omega)]
     exact ih (m+1) H2 (by omega) (by omega) h2 (kp.trans kp2) hK
   ·rename_i h0
    have h0':s.length=0:=by omega
    simp [h0'] at hK
    simp only [bF,aa]
    rw [bq (by omega)]
    exact ih (m+1) H1 (by omega) (by omega) h1 kp hK
 refine bZ.run ?_
 have:aG (mv ns)=some (I (ns.length:Int)):=by unfold mv; simp
 rw [this,aa]
 exact L0 0 _ H rfl (Nat.zero_le _) hA0 (.refl _ _) (by simpa using hK)
theorem K4 (M:Mc σ L d C):∀ (f:Nat),f≤12→tZ σ L d C f
 | 0,_=>fun l ns hr=>hr.elim
 | f+1,hf=>KI M (K4 M f (by omega)) hf
end
end
end Go.Proofs.YthdcghnjndhecaaGreat.Ev
namespace Go.Proofs.YthdcghnjndhecaaGreat.Ev
set_option linter.unusedVariables false
set_option linter.unusedSimpArgs false
variable {σ:Sig}
def rW (g:List Sl→Nat→Bool) (dp:Nat) (q:Ps):Bool:=if q.kind=7∨q.kind=8 then !decide (dp=0)&&g q.list (dp - 1) else true
def tE (g:List Sl→Nat→Bool) (dp:Nat) (c:Cp):Bool:=c.pseudos.all (rW g dp)
def qQ (g:List Sl→Nat→Bool) (dp:Nat) (s:Sl):Bool:=decide (s.length≤50)&&s.all fun p=>tE g dp p.c
def fT:Nat→List Sl→Nat→Bool
 | 0,_,_=>false
 | f+1,l,dp=>l.all (qQ (fT f) dp)
section
attribute [local irreducible] bG.L0 bG.L1 aE.L0 aE.J1
def AE (σ:Sig) (f:Nat):Prop:=∀ (l:List Sl) (dp:Nat) (H:Hp),kI c6 l→m9 f l→dp≤8→au Tryz.prog σ gH [sls l,I (dp:Int)] H (Bo (fT f l dp)) H
theorem Mo {f:Nat} (ih:AE σ f) (c:Cp) (hc:BE c6 c) (hn:∀ q ∈ c.pseudos,m9 f q.list) (dp:Nat) (hd:dp≤8) (H:Hp):au Tryz.prog σ fp [.agg (bU c),I (dp:Int)] H (Bo (tE (fT f) dp c)) H:=by
 refine bg (fun K hK=>aE.run ?_) (by simp [aK,bt,m5]) rfl H
 have L0:∀ (m k:Nat) (H:Hp),c.pseudos.length - m=k→m≤c.pseudos.length→(∀ H,K (Bo ((c.pseudos.drop m).all (rW (fT f) dp))) H)→aE.L0 σ K (I (dp:Int)) (.imm 4 (c.pseudos.map bH)) (I c.pseudos.length) (I m) H:=by
  intro m k
  revert m
  induction k with
  | zero =>
   intro m H hk hm hK
   have:m=c.pseudos.length:=by omega
   subst this
   refine aE.L0_step ?_
   simp
   simpa using hK H
  | succ k ihk =>
   intro m H hk hm hK
   have hlt:m<c.pseudos.length:=by omega
   obtain ⟨q,hq⟩:=bp hlt
   have hqm:=List.mem_of_getElem? hq
   have hqw:=(Ps.wf_iff.1 (hc.ps q hqm)).2.2.2
   rw [bK hq,List.all_cons] at hK
   have hlt':(m:Int)<c.pseudos.length:=by omega
   have next:∀ H,rW (fT f) dp q=true→aE.J1 σ K (I (dp:Int)) (.imm 4 (c.pseudos.map bH)) (I c.pseudos.length) (I m) H:=by
    intro H ht
    refine aE.J1_step ?_
    simp
    rw [cn hlt hc.psL]
    refine ihk (m+1) H (by omega) (by omega) fun H'=>?_
    have:=hK H'
    rwa [ht,Bool.true_and] at this
   have ask:∀ (H:Hp),(q.kind=7∨q.kind=8)→H.get (H.n - 1)=some (.cells (bH q) true)→ifB (Bo (decide ((dp:Int)=0))) (K (Bo false) H) (bnd (ldA false 1 H (.ptr (H.n - 1) 3)) fun x22=>bnd (ah .sub (I (dp:Int)) (I 1)) fun x23=>av Tryz.prog σ gH [x22,x23] H fun x24 H25=>bnd (unR .not x24) fun x26=>ifB x26 (K (Bo false) H25) (aE.J1 σ K (I (dp:Int)) (.imm 4 (c.pseudos.map bH)) (I c.pseudos.length) (I m) H25)):=by
    intro H hkq hg
    simp only [ai,decide_eq_true_eq]
    have hQ:rW (fT f) dp q=(!decide (dp=0)&&fT f q.list (dp - 1)):=by unfold rW; rw [if_pos hkq]
    split
    ·rename_i h0
     have h0':dp=0:=by omega
     have:=hK H
     rw [hQ] at this
     simpa [h0'] using this
    ·rename_i h0
     have h0':¬ (dp=0):=by omega
     have e1:wr .i64 ((dp:Int) - 1)=((dp - 1:Nat):Int):=by rw [cM (by omega) (by omega)]; omega
     simp only [aL,hg,aM,oh,aa,ki,e1]
     refine ak (ih q.list (dp - 1) H hqw (hn q hqm) (by omega)) ?_
     simp only [eM,aa,ai]
     cases hb:fT f q.list (dp - 1) with
     | false =>
      have:=hK H
      rw [hQ] at this
      simpa [h0',hb] using this
     | true =>
      simp
      exact next H (by rw [hQ]; simp [h0',hb])
   refine aE.L0_step ?_
   have hst:stA 4 (H.new (.cells [I 0,I 0,I 0,.lit (.slice none 0 0)] true)) (.ptr H.n 0) (.agg (bH q))=some ((H.new (.cells [I 0,I 0,I 0,.lit (.slice none 0 0)] true)).set H.n (some (.cells (bH q) true))):=by
    simp
    rw [yk q (by simp)]
   simp only [a_,hlt',decide_true,aa,ai,if_true,bm hq,dX,rj,bA,hst,bu,Nat.zero_add,aL,ay,aM,List.drop_zero,tS,tF]
   have hask:=ask ((H.new (.cells [I 0,I 0,I 0,.lit (.slice none 0 0)] true)).set H.n (some (.cells (bH q) true)))
   simp only [Hp.n_set,Hp.n_new,Nat.add_sub_cancel,aL,ay,if_true,aM] at hask
   by_cases h7:q.kind=7
   ·simp only [h7,decide_true,Bool.not_true,Bool.false_eq_true,if_false,fh,aa]
    exact hask (.inl h7) trivial
   ·simp only [h7,decide_false,Bool.not_false,if_true]
    by_cases h8:q.kind=8
    ·simp only [h8,decide_true,Bool.not_true,Bool.false_eq_true,if_false,fh,aa]
     exact hask (.inr h8) trivial
    ·simp only [h8,decide_false,Bool.not_false,if_true]
     exact next _ (by unfold rW; rw [if_neg (by omega)])
 simp only [cJ,bu,aa,Nat.zero_add,aL,bN,if_true,aM,nT,bW,List.length_map]
 exact L0 0 _ _ rfl (Nat.zero_le _) (by simpa [tE] using hK)
theorem Io {f:Nat} (ih:AE σ f):AE σ (f+1):=by
 intro l dp H hl hn hd
 refine bg (fun K hK=>bG.run ?_) (by simp [aK,bt]) rfl H
 have L0:∀ (m k:Nat) (H:Hp) (y20 y21 y22:AV),l.length - m=k→m≤l.length→(∀ H,K (Bo ((l.drop m).all (qQ (fT f) dp))) H)→bG.L0 σ K (I (dp:Int)) (sls l) (I l.length) (I m) y20 y21 y22 H:=by
  intro m k
  revert m
  induction k with
  | zero =>
   intro m H y20 y21 y22 hk hm hK
   have:m=l.length:=by omega
   subst this
   refine bG.L0_step ?_
   simp
   simpa using hK H
  | succ k ihk =>
   intro m H y20 y21 y22 hk hm hK
   have hlt:m<l.length:=by omega
   obtain ⟨s,hs⟩:=bp hlt
   have hsm:=List.mem_of_getElem? hs
   have hsw:=hl.2 s hsm
   rw [bK hs,List.all_cons] at hK
   have hlt':(m:Int)<l.length:=by omega
   have L1:∀ (j k2:Nat) (H:Hp),s.length - j=k2→j≤s.length→(∀ H,K (Bo ((s.drop j).all (fun p=>tE (fT f) dp p.c)&&(l.drop (m+1)).all (qQ (fT f) dp))) H) →
     bG.L1 σ K (I (dp:Int)) (sls l) (I l.length) (I m) (.imm 6 (s.map bo)) (I s.length) (I j) H:=by
    intro j k2
    revert j
    induction k2 with
    | zero =>
     intro j H hk2 hj hK
     have:j=s.length:=by omega
     subst this
     refine bG.L1_step ?_
     simp
     rw [cn hlt hl.1]
     exact ihk (m+1) H _ _ _ (by omega) (by omega) (by simpa using hK)
    | succ k2 ih2 =>
     intro j H hk2 hj hK
     have hjlt:j<s.length:=by omega
     obtain ⟨p,hp⟩:=bp hjlt
     have hpm:=List.mem_of_getElem? hp
     have hpw:=(Pt.wf_iff.1 (hsw.2 p hpm)).2
     rw [bK hp,List.all_cons] at hK
     have hjlt':(j:Int)<s.length:=by omega
     have hst:stA 6 (H.new (.cells [I 0,Sx ⟨#[]⟩,.lit (.slice none 0 0),.lit (.slice none 0 0),.lit (.slice none 0 0),.lit (.slice none 0 0)] true)) (.ptr H.n 0) (.agg (bo p))=some ((H.new (.cells [I 0,Sx ⟨#[]⟩,.lit (.slice none 0 0),.lit (.slice none 0 0),.lit (.slice none 0 0),.lit (.slice none 0 0)] true)).set H.n (some (.cells (bo p) true))):=by
      simp
      rw [Pc p (by simp)]
     refine bG.L1_step ?_
     have hd1:(bo p).drop 1=bU p.c:=by rw [dm]; rfl
     simp only [a_,hjlt',decide_true,aa,ai,if_true,bm hp,dX,Kl,bA,hst,bu,Nat.zero_add,aL,ay,aM,hd1,Am]
     refine ak (Mo ih p.c hpw (fun q hq=>hn s hsm p hpm q hq) dp hd _) ?_
     simp only [eM,aa,ai]
     cases hb:tE (fT f) dp p.c with
     | false =>
      rw [hb] at hK
      simpa using hK _
     | true =>
      rw [hb] at hK
      simp
      rw [cn hjlt hsw.1]
      exact ih2 (j+1) _ (by omega) (by omega) (by simpa using hK)
   refine bG.L0_step ?_
   have hst:stA 1 (H.new (.cells [.lit (.slice none 0 0)] true)) (.ptr H.n 0) (.agg (aH s))=some ((H.new (.cells [.lit (.slice none 0 0)] true)).set H.n (some (.cells (aH s) true))):=by
    simp [aH]
   have hix:az 1 (sls l) (I (m:Int))=some (.ip (aH s)):=bm hs
   simp only [a_,hlt',decide_true,aa,ai,if_true,hix,dX,lY,bA,hst,bu,Nat.zero_add,aL,ay,aM,List.drop_zero,my,bW,List.length_map,eI,decide_eq_true_eq]
   have hS:qQ (fT f) dp s=(decide (s.length≤50)&&s.all fun p=>tE (fT f) dp p.c):=rfl
   rw [hS] at hK
   split
   ·rename_i h50
    have:¬ (s.length≤50):=by omega
    simpa [this] using hK _
   ·rename_i h50
    have:s.length≤50:=by omega
    refine L1 0 _ _ rfl (Nat.zero_le _) ?_
    simpa [this] using hK
 simp
 exact L0 0 _ _ _ _ _ rfl (Nat.zero_le _) (by simpa [fT] using hK)
theorem Db:∀ (f:Nat),AE σ f
 | 0=>fun l dp H hl hn=>hn.elim
 | f+1=>Io (Db f)
end
end Go.Proofs.YthdcghnjndhecaaGreat.Ev
namespace Go.Proofs.YthdcghnjndhecaaGreat.Ev
set_option linter.unusedVariables false
set_option linter.unusedSimpArgs false
variable {σ:Sig}
def HFz (H H2:Hp):Prop:=∃ Hd:Hp,H2.n=H.n∧Hd.n=H.n∧(∀ id k,Hd.get id=some k→H.get id=some k∧H2.get id=none)∧(∀ id k2,H2.get id=some k2→∃ k1,H.get id=some k1∧FzB Hd k1 k2)
theorem FzT.refl {Hd:Hp}:∀ (T:List AV),FzT Hd T T
 | []=>.nil
 | x::T=>.same (.refl T)
theorem HFz.wk {H H2:Hp} (h:HFz H H2) (T:List AV):Wk σ T H T H2:=by
 obtain ⟨Hd,h1,h2,h3,h4⟩:=h
 exact Wk.frz h1 h2 h3 h4 (.refl T)
theorem HFz.loop {P:Program} {C:Ctx P} {c:Code} {T:List AV} {H H2:Hp} {Q:Exit→List AV→Hp→Prop} (k:HFz H H2) (h:aN C c T H2 Q):aN C c T H Q:=aN.conv (k.wk T) h
theorem zk {szc sz:Nat} {H:Hp} {y x:AV} {rows:List (List AV)} {row:List AV} {rs:List (List AV)} (hy:Gs szc H y (rows++[row])) (hx:Gs sz H x rs) (hn:eU rs=true) {j:Nat} (hj:row[j]?=some x) (hd:∀ i,own y i→¬ own x i) :
  ∃ H2,HFz H H2∧H2.n=H.n∧Gs szc H2 y (rows++[row.set j (.imm sz rs)])∧∀ i,¬ own y i→¬ own x i→H2.get i=H.get i:=by
 have hjl:=(List.getElem?_eq_some_iff.1 hj).1
 generalize hr:rows++[row]=rr at hy
 cases hy with
 | nil=>simp at hr
 | sl hlt hg hsz =>
  rename_i id ex
  have hrow:row.length=szc:=hsz row (by rw [← hr]; simp)
  have hrr:rr.length=rows.length+1:=by rw [← hr]; simp
  have hget:rr[rows.length]?=some row:=by rw [← hr]; simp
  have hk:=rJ hsz rows.length row j x hget hj
  obtain ⟨Hd,H2,h1,h2,h3,h4,h5,h6,h7⟩:=Ow hx hn hg hk (hd id rfl)
  have hflat:rr.flatten.set (rows.length*szc+j) (.imm sz rs)=(rows++[row.set j (.imm sz rs)]).flatten:=by
   have hkl:=(List.getElem?_eq_some_iff.1 hk).1
   rw [← pU hkl,i6 (by simp; omega) hsz (by omega)]
   have e1:rr[rows.length]=row:=by
    rw [List.getElem?_eq_getElem (by omega)] at hget
    exact Option.some.inj hget
   have e2:bO row j [AV.imm sz rs]=row.set j (.imm sz rs):=pU hjl
   simp only [e1,e2]
   rw [← hr]
   simp
  rw [hflat] at h6
  have hl:rr.length=(rows++[row.set j (.imm sz rs)]).length:=by rw [hrr]; simp
  refine ⟨H2,⟨Hd,h2,h1,h3,h4⟩,h2,?_,fun i hi hi2=>h7 i (fun e=>hi e.symm) hi2⟩
  rw [hl]
  exact .sl (by omega) h6 (fun r hr'=>by
   rcases List.mem_append.1 hr' with h | h
   ·exact hsz r (by rw [← hr]; simp [h])
   ·simp at h; subst h; simpa using hrow)
abbrev NB:Nat:=1048576
def h_:Nat→List Sl→Nat
 | 0,_=>0
 | f+1,l=>(l.map fun s=>1+(s.map fun p=>(p.c.pseudos.map fun q=>h_ f q.list).sum).sum).sum
def lM:Nat→List Sl→Prop
 | 0,_=>False
 | f+1,l=>l.length≤NB∧∀ s ∈ l,s.length≤NB∧∀ p ∈ s,vM p.c∧p.c.pseudos.length≤NB∧∀ q ∈ p.c.pseudos,(i64 q.a∧i64 q.b)∧lM f q.list
structure LG (c:List Lk):Prop where
 len:c.length≤NB
 lk:∀ x ∈ c,N7 x
theorem Rep.mono {C D:List (List Lk)}:∀ {f:Nat} {l:List Sl} {ns:List Nat},Rep C f l ns→Rep (C++D) f l ns
 | 0,l,ns,h=>h
 | f+1,l,ns,h=>⟨h.1,fun i s n hs hn=>by
  obtain ⟨c,h1,h2,h3⟩:=h.2 i s n hs hn
  refine ⟨c,by rw [List.getElem?_append_left (List.getElem?_eq_some_iff.1 h1).1]; exact h1,h2,fun k x hx=>⟨(h3 k x hx).1,fun j q ns' hq hns=>((h3 k x hx).2 j q ns' hq hns).mono⟩⟩⟩
structure wN (t:AV) (C:List (List Lk)) (ab mb:Nat) (cs:AV) (H:Hp):Prop where
 gab:H.get ab=some (.cells [t,cs,.mp mb] true)
 nab:ab<H.n
 gcs:Gs 1 H cs (C.map fun c=>[j9 c])
 csab:¬ own cs ab
structure AFr (H:Hp) (cs:AV) (ab:Nat) (H':Hp) (cs':AV):Prop where
 up:H.n≤H'.n
 get:∀ (j:Nat),j<H.n→j≠ab→¬ own cs j→H'.get j=H.get j
 mine:∀ j,own cs' j→own cs j∨H.n≤j
theorem AFr.refl (H:Hp) (cs:AV) (ab:Nat):AFr H cs ab H cs:=⟨Nat.le_refl _,fun _ _ _ _=>rfl,fun j h=>.inl h⟩
theorem AFr.trans {H H1 H2:Hp} {cs cs1 cs2:AV} {ab:Nat} (h:AFr H cs ab H1 cs1) (k:AFr H1 cs1 ab H2 cs2):AFr H cs ab H2 cs2:=by
 refine ⟨Nat.le_trans h.up k.up,fun j hj hne ho=>?_,fun j hj=>?_⟩
 ·rw [k.get j (Nat.lt_of_lt_of_le hj h.up) hne (fun hc=>by
   rcases h.mine j hc with h | h
   ·exact ho h
   ·omega),h.get j hj hne ho]
 ·rcases k.mine j hj with h1 | h1
  ·exact h.mine j h1
  ·have:=h.up; exact .inr (by omega)
theorem AFr.loc {H H1 H2:Hp} {cs cs1:AV} {ab:Nat} (h:AFr H cs ab H1 cs1) (hn:H1.n≤H2.n) (hg:∀ j,j<H.n→H2.get j=H1.get j):AFr H cs ab H2 cs1 :=
 ⟨Nat.le_trans h.up hn,fun j hj hne ho=>by rw [hg j hj,h.get j hj hne ho],h.mine⟩
theorem wN.loc {t:AV} {C:List (List Lk)} {ab mb:Nat} {cs:AV} {H H':Hp} (h:wN t C ab mb cs H) (hn:H.n≤H'.n) (h1:H'.get ab=H.get ab) (h2:∀ j,own cs j→H'.get j=H.get j):wN t C ab mb cs H' :=
 ⟨by rw [h1]; exact h.gab,Nat.lt_of_lt_of_le h.nab hn,h.gcs.keep h2 hn,h.csab⟩
def xD (σ:Sig) (f:Nat):Prop:=∀ (l:List Sl),lM f l→∀ (t:AV) (C:List (List Lk)) (ab mb:Nat) (cs:AV) (H:Hp) (K:AV→Hp→Prop),wN t C ab mb cs H→C.length+h_ f l≤NB →
 (∀ (H':Hp) (cs':AV) (C2:List (List Lk)) (r:AV) (ns:List Nat),wN t (C++C2) ab mb cs' H'→Rep (C++C2) f l ns→C2.length=h_ f l→(∀ c ∈ C2,LG c)→Gs 1 H' r (ns.map qL)→(∀ j,own r j→H.n≤j∧¬ own cs' j)→AFr H cs ab H' cs'→K r H') →
 av Tryz.prog σ d5 [.ptr ab 0,sls l] H K
structure AS (t:AV) (C0:List (List Lk)) (ab mb:Nat) (H0:Hp) (cs0:AV) (C2:List (List Lk)) (cs:AV) (H:Hp) (y5:AV) (ns:List Nat):Prop where
 add:wN t (C0++C2) ab mb cs H
 fr:AFr H0 cs0 ab H cs
 ok:∀ c ∈ C2,LG c
 out:Gs 1 H y5 (ns.map qL)
 o5:∀ j,own y5 j→H0.n≤j∧¬ own cs j
structure vZ (H0:Hp) (cs y5:AV) (sz:Nat) (H:Hp) (x:AV) (rows:List (List AV)):Prop where
 gs:Gs sz H x rows
 o:∀ j,own x j→H0.n≤j∧¬ own cs j∧¬ own y5 j
theorem AS.loc {t:AV} {C0 C2:List (List Lk)} {ab mb:Nat} {H0 H H':Hp} {cs0 cs y5:AV} {ns:List Nat} (h:AS t C0 ab mb H0 cs0 C2 cs H y5 ns) (hab:ab<H0.n) (hn:H.n≤H'.n) (hg:∀ j,j<H0.n→H'.get j=H.get j) (h1:∀ j,own cs j→H'.get j=H.get j) (h5:∀ j,own y5 j→H'.get j=H.get j):AS t C0 ab mb H0 cs0 C2 cs H' y5 ns :=
 ⟨h.add.loc hn (hg _ hab) h1,h.fr.loc hn hg,h.ok,h.out.keep h5 hn,h.o5⟩
theorem vZ.loc {H0 H H':Hp} {cs y5 x:AV} {sz:Nat} {rows:List (List AV)} (h:vZ H0 cs y5 sz H x rows) (hn:H.n≤H'.n) (h1:∀ j,own x j→H'.get j=H.get j):vZ H0 cs y5 sz H' x rows:=⟨h.gs.keep h1 hn,h.o⟩
theorem SR {K:AV→Hp→Prop} {y0 y5 y8 y11 y14 y15 y16 y21 y22 y23 y31 y32 y33:AV} {H H2:Hp} (k:HFz H H2) (h:am.L0 σ K y0 y5 y8 y11 y14 y15 y16 y21 y22 y23 y31 y32 y33 H2):am.L0 σ K y0 y5 y8 y11 y14 y15 y16 y21 y22 y23 y31 y32 y33 H:=fun js=>k.loop (h js)
theorem S3 {K:AV→Hp→Prop} {y0 y5 y8 y11 y14 y15 y16 y21 y22 y23 y31 y32 y33:AV} {H H2:Hp} (k:HFz H H2) (h:am.L1 σ K y0 y5 y8 y11 y14 y15 y16 y21 y22 y23 y31 y32 y33 H2):am.L1 σ K y0 y5 y8 y11 y14 y15 y16 y21 y22 y23 y31 y32 y33 H:=fun js=>k.loop (h js)
theorem Sf {K:AV→Hp→Prop} {y0 y5 y8 y11 y14 y15 y16 y21 y22 y23 y31 y32 y33:AV} {H H2:Hp} (k:HFz H H2) (h:am.L2 σ K y0 y5 y8 y11 y14 y15 y16 y21 y22 y23 y31 y32 y33 H2):am.L2 σ K y0 y5 y8 y11 y14 y15 y16 y21 y22 y23 y31 y32 y33 H:=fun js=>k.loop (h js)
def oC (l:List Nat):List AV:=[mv l]
section
attribute [local irreducible] am.L0 am.L1 am.L2
theorem yQ (l:List (List Nat)):eU (l.map oC)=true:=bC _ (fun l=>by simp [oC,aK,vH]) l
theorem Gx (p:Pt) (lsl:List (List Nat)):ey ⟨p,lsl⟩=bo p++[.imm 1 (lsl.map oC)]:=rfl
theorem Q6 {f:Nat} (ih:xD σ f) {t:AV} {C0:List (List Lk)} {ab mb:Nat} {H0:Hp} {cs0:AV} (hab:ab<H0.n) {K:AV→Hp→Prop} {y5:AV} {ns:List Nat} {cl:List Lk} {p:Pt} (hpl:p.c.pseudos.length≤NB) (hp:∀ q ∈ p.c.pseudos,(i64 q.a∧i64 q.b)∧lM f q.list)
  {y14 y15 y16 y21 y22:AV} {j:Nat} (hj:j<NB) (hcl:cl.length≤j) {R:Nat} {P:List (List Lk)→Prop}
  (hK:∀ (H:Hp) (cs:AV) (C2:List (List Lk)) (y8 y11:AV) (lsl:List (List Nat)) (y31 y32 y33:AV),AS t C0 ab mb H0 cs0 C2 cs H y5 ns→P C2→vZ H0 cs y5 7 H y8 ((cl++[Lk.mk p lsl]).map ey)→lsl.length=p.c.pseudos.length→(∀ (j:Nat) (q:Ps) (ns':List Nat),p.c.pseudos[j]?=some q→lsl[j]?=some ns'→Rep (C0++C2) f q.list ns')→(∀ l ∈ lsl,l.length≤NB) →
   (C0++C2).length+R≤NB→am.L1 σ K (.ptr ab 0) y5 y8 y11 y14 y15 y16 y21 y22 (I ((j+1:Nat):Int)) y31 y32 y33 H) :
  ∀ (m k:Nat) (H:Hp) (cs:AV) (C2:List (List Lk)) (y8:AV) (xb:Nat) (lv:AV) (lsl:List (List Nat)),p.c.pseudos.length - k=m→k≤p.c.pseudos.length→AS t C0 ab mb H0 cs0 C2 cs H y5 ns→(∀ D,C2 <+: D→D.length=C2.length+((p.c.pseudos.drop k).map fun q=>h_ f q.list).sum→P D)→vZ H0 cs y5 7 H y8 (cl.map ey)→H.get xb=some (.cells (bo p++[lv]) true)→H0.n≤xb→xb<H.n→¬ own cs xb→¬ own y5 xb→¬ own y8 xb →
   vZ H0 cs y5 1 H lv (lsl.map oC)→¬ own lv xb→(∀ i,own lv i→¬ own y8 i)→lsl.length=k→(∀ (j:Nat) (q:Ps) (ns':List Nat),p.c.pseudos[j]?=some q→lsl[j]?=some ns'→Rep (C0++C2) f q.list ns')→(∀ l ∈ lsl,l.length≤NB) →
   (C0++C2).length+(((p.c.pseudos.drop k).map fun q=>h_ f q.list).sum+R)≤NB →
   am.L2 σ K (.ptr ab 0) y5 y8 (.ptr xb 0) y14 y15 y16 y21 y22 (I (j:Int)) (.imm 4 (p.c.pseudos.map bH)) (I p.c.pseudos.length) (I (k:Int)) H:=by
 have hNB:NB=1048576:=rfl
 intro m
 induction m with
 | zero =>
  intro k H cs C2 y8 xb lv lsl hm hk hA hP h8 gx hx0 hxn hxc hx5 hx8 hl hlx hl8 hlk hrep hlen hcnt
  have:k=p.c.pseudos.length:=by omega
  subst this
  refine am.L2_step ?_
  have hl7:ldL true 7 (bo p++[lv])=some (.agg (bo p++[lv])):=dg (by simp)
  simp only [a_,Int.lt_irrefl,decide_false,aa,ai,Bool.false_eq_true,if_false,aL,gx,aM,List.drop_zero,hl7]
  have hone:(bo p++[lv]).all AV.one=true:=by simp [hl.gs.one]
  refine fY (y:=.agg (bo p++[lv])) h8.gs (by simp) rfl hone (by simp; omega) (by simp; omega) fun y8' H2 g8 f8=>?_
  simp only [bF,aa]
  rw [bq (by omega)]
  have own8:∀ i,own y8' i→H0.n≤i∧¬ own cs i∧¬ own y5 i∧¬ own lv i:=fun i hi=>by
   rcases f8.mine i hi with h | h
   ·exact ⟨(h8.o i h).1,(h8.o i h).2.1,(h8.o i h).2.2,fun h'=>hl8 i h' h⟩
   ·have h0:=hA.fr.up
    exact ⟨by omega,fun h'=>by have:=hA.add.gcs.lt h'; omega,fun h'=>by have:=hA.out.lt h'; omega,fun h'=>by have:=hl.gs.lt h'; omega⟩
  have keep:∀ i,i<H.n→¬ own y8 i→H2.get i=H.get i:=fun i hi ho=>f8.same i hi ho
  have hA2:AS t C0 ab mb H0 cs0 C2 cs H2 y5 ns:=hA.loc hab f8.grow (fun i hi=>keep i (by have:=hA.fr.up; omega) (fun h=>by have:=(h8.o i h).1; omega)) (fun i hi=>keep i (hA.add.gcs.lt hi) (fun h=>(h8.o i h).2.1 hi)) (fun i hi=>keep i (hA.out.lt hi) (fun h=>(h8.o i h).2.2 hi))
  have hl2:Gs 1 H2 lv (lsl.map oC):=hl.gs.keep (fun i hi=>keep i (hl.gs.lt hi) (hl8 i hi)) f8.grow
  have hcells:(AV.agg (bo p++[lv])).cells=bo p++[lv]:=rfl
  rw [hcells] at g8
  obtain ⟨H3,z1,z2,z3,z4⟩:=zk (j:=6) g8 hl2 (yQ lsl) (by rw [List.getElem?_append_right (by simp)]; simp) (fun i hi=>(own8 i hi).2.2.2)
  have hrow:(bo p++[lv]).set 6 (.imm 1 (lsl.map oC))=ey ⟨p,lsl⟩:=by
   rw [Gx,List.set_append_right _ _ (by simp)]
   simp
  rw [hrow] at z3
  have z3':Gs 7 H3 y8' ((cl++[Lk.mk p lsl]).map ey):=by simpa using z3
  have fin:am.L1 σ K (.ptr ab 0) y5 y8' (.ptr xb 0) y14 y15 y16 y21 y22 (I ((j+1:Nat):Int)) (.imm 4 (p.c.pseudos.map bH)) (I p.c.pseudos.length) (I (p.c.pseudos.length:Int)) H3:=by
   refine hK H3 cs C2 y8' (.ptr xb 0) lsl _ _ _ ?_ (hP C2 (List.prefix_refl _) (by simp)) ⟨z3',fun i hi=>⟨(own8 i hi).1,(own8 i hi).2.1,(own8 i hi).2.2.1⟩⟩ hlk hrep hlen (by simp at hcnt ⊢; omega)
   refine hA2.loc hab (by omega) (fun i hi=>z4 i (fun h=>by have:=(own8 i h).1; omega) (fun h=>by have:=(hl.o i h).1; omega)) (fun i hi=>z4 i (fun h=>(own8 i h).2.1 hi) (fun h=>(hl.o i h).2.1 hi)) (fun i hi=>z4 i (fun h=>(own8 i h).2.2.1 hi) (fun h=>(hl.o i h).2.2 hi))
  exact S3 z1 fin
 | succ m ihm =>
  intro k H cs C2 y8 xb lv lsl hm hk hA hP h8 gx hx0 hxn hxc hx5 hx8 hl hlx hl8 hlk hrep hlen hcnt
  have hlt:k<p.c.pseudos.length:=by omega
  obtain ⟨q,hq⟩:=bp hlt
  have hqm:=List.mem_of_getElem? hq
  have hlt':(k:Int)<p.c.pseudos.length:=by omega
  rw [bK hq,List.map_cons,List.sum_cons] at hcnt
  have hdq:p.c.pseudos.drop k=q::p.c.pseudos.drop (k+1):=bK hq
  refine am.L2_step ?_
  obtain ⟨H6,hH6⟩:∃ H6,H6=(H.new (.cells [I 0,I 0,I 0,.lit (.slice none 0 0)] true)).set H.n (some (.cells (bH q) true)):=⟨_,rfl⟩
  have hst:stA 4 (H.new (.cells [I 0,I 0,I 0,.lit (.slice none 0 0)] true)) (.ptr H.n 0) (.agg (bH q))=some H6:=by
   rw [hH6]
   simp
   rw [yk q (by simp)]
  have k6:∀ i,i<H.n→H6.get i=H.get i:=fun i hi=>by
   have:i≠H.n:=by omega
   rw [hH6]; simp [this]
  have n6:H6.n=H.n+1:=by rw [hH6]; rfl
  have g6:H6.get H.n=some (.cells (bH q) true):=by rw [hH6]; simp
  clear hH6
  have gx6:H6.get xb=some (.cells (bo p++[lv]) true):=by rw [k6 xb hxn]; exact gx
  have hd6:ldL false 1 ((bo p++[lv]).drop 6)=some lv:=by rw [List.drop_append_of_le_length (by simp),List.drop_of_length_le (by simp)]; simp
  simp only [a_,hlt',decide_true,aa,ai,if_true,bm hq,dX,rj,bA,hst,bu,Nat.zero_add,aL,gx6,aM,hd6,g6,oh]
  have hA6:AS t C0 ab mb H0 cs0 C2 cs H6 y5 ns:=hA.loc hab (by omega) (fun i hi=>k6 i (by have:=hA.fr.up; omega)) (fun i hi=>k6 i (hA.add.gcs.lt hi)) (fun i hi=>k6 i (hA.out.lt hi))
  refine ih q.list (hp q hqm).2 t (C0++C2) ab mb cs H6 _ hA6.add (by omega) fun H' cs' D r ns' a1 a2 a3 a4 a5 a6 a7=>?_
  have hxab:xb≠ab:=by omega
  have k7:∀ i,H0.n≤i→i<H6.n→¬ own cs i→H'.get i=H6.get i:=fun i h1 h2 h3=>a7.get i h2 (by omega) h3
  have gx7:H'.get xb=some (.cells (bo p++[lv]) true):=by rw [k7 xb hx0 (by omega) hxc]; exact gx6
  have up7:=a7.up
  have cs7:∀ i,own cs' i→own cs i∨H6.n≤i:=a7.mine
  have hl7:vZ H0 cs' y5 1 H' lv (lsl.map oC):=by
   refine ⟨hl.gs.keep (fun i hi=>?_) (by omega),fun i hi=>⟨(hl.o i hi).1,fun h=>?_,(hl.o i hi).2.2⟩⟩
   ·have:=hl.gs.lt hi
    rw [k7 i (hl.o i hi).1 (by omega) (hl.o i hi).2.1,k6 i this]
   ·rcases cs7 i h with h | h
    ·exact (hl.o i hi).2.1 h
    ·have:=hl.gs.lt hi; omega
  have h87:vZ H0 cs' y5 7 H' y8 (cl.map ey):=by
   refine ⟨h8.gs.keep (fun i hi=>?_) (by omega),fun i hi=>⟨(h8.o i hi).1,fun h=>?_,(h8.o i hi).2.2⟩⟩
   ·have:=h8.gs.lt hi
    rw [k7 i (h8.o i hi).1 (by omega) (h8.o i hi).2.1,k6 i this]
   ·rcases cs7 i h with h | h
    ·exact (h8.o i hi).2.1 h
    ·have:=h8.gs.lt hi; omega
  have hA7:AS t C0 ab mb H0 cs0 (C2++D) cs' H' y5 ns:=by
   refine ⟨by rw [← List.append_assoc]; exact a1,hA6.fr.trans a7,fun c hc=>?_,hA6.out.keep (fun i hi=>?_) a7.up,fun i hi=>⟨(hA.o5 i hi).1,fun h=>?_⟩⟩
   ·rcases List.mem_append.1 hc with h | h
    ·exact hA.ok c h
    ·exact a4 c h
   ·exact k7 i (hA.o5 i hi).1 (hA6.out.lt hi) (hA.o5 i hi).2
   ·rcases cs7 i h with h | h
    ·exact (hA.o5 i hi).2 h
    ·have:=hA.out.lt hi; omega
  have hxc7:¬ own cs' xb:=fun h=>by
   rcases cs7 xb h with h | h
   ·exact hxc h
   ·omega
  have hl7':∀ i,own lv i→i<H'.n:=fun i hi=>hl7.gs.lt hi
  have one7:AV.one r=true:=a5.one
  have cel7:=a5.cells
  have hxn7:xb≠H'.n:=by omega
  simp only [rt,gx7]
  refine ⟨by rw [gx6],?_⟩
  have hlenN:lsl.length<NB:=by omega
  refine rD (y:=r) (rows:=lsl.map oC) (by simp [hxn7,gx7]) hl7.gs (by rw [cel7.1]; rfl) cel7.2 (by rw [cel7.1]; simpa using one7) (by simp; omega) (by simp; omega) fun lv' H2 g2 f2=>?_
  rw [cel7.1] at g2
  have ownl:∀ i,own lv' i→own lv i∨(H'.n≤i∧i<H2.n):=f2.mine
  have k8:∀ i,i<H'.n→¬ own lv i→H2.get i=H'.get i:=fun i h1 h2=>f2.same i h1 h2
  have gx8:H2.get xb=some (.cells (bo p++[lv]) true):=by rw [k8 xb (by omega) hlx]; exact gx7
  have hst2:=g2.st (id:=xb) (off:=6) gx8 (by simp)
  have hset:(bo p++[lv]).set 6 lv'=bo p++[lv']:=by
   rw [List.set_append_right _ _ (by simp)]
   simp
  rw [hset] at hst2
  simp only [hst2,aa,bF]
  rw [bq (by omega)]
  obtain ⟨H3,hH3⟩:∃ H3,H3=H2.set xb (some (.cells (bo p++[lv']) true)):=⟨_,rfl⟩
  rw [← hH3]
  have k9:∀ i,i≠xb→H3.get i=H2.get i:=fun i hi=>by rw [hH3]; simp [hi]
  have gx9:H3.get xb=some (.cells (bo p++[lv']) true):=by rw [hH3]; simp
  have n9:H3.n=H2.n:=by rw [hH3]; rfl
  clear hH3
  have grow2:=f2.grow
  have lvx:¬ own lv' xb:=fun h=>by
   rcases ownl xb h with h | h
   ·exact hlx h
   ·omega
  have rx:¬ own r xb:=fun h=>by have:=(a6 xb h).1; omega
  have rlv:∀ i,own lv' i→¬ own r i:=fun i hi h=>by
   rcases ownl i hi with h1 | h1
   ·have:=(a6 i h).1; have:=hl.gs.lt h1; omega
   ·have:=a5.lt h; omega
  have g9:Gs 1 H3 lv' (lsl.map oC++[[r]]):=g2.keep (fun i hi=>k9 i (fun e=>lvx (e ▸ hi))) (by omega)
  have gr9:Gs 1 H3 r (ns'.map qL):=a5.keep (fun i hi=>by
   rw [k9 i (fun e=>rx (e ▸ hi)),k8 i (a5.lt hi) (fun h=>by have:=(a6 i hi).1; have:=hl.gs.lt h; omega)]) (by omega)
  obtain ⟨H4,z1,z2,z3,z4⟩:=zk (j:=0) g9 gr9 (bC _ (fun _=>rfl) _) rfl rlv
  have hrow:([r]:List AV).set 0 (.imm 1 (ns'.map qL))=oC ns':=rfl
  rw [hrow] at z3
  have z3':Gs 1 H4 lv' ((lsl++[ns']).map oC):=by simpa using z3
  have same:∀ i,i<H'.n→i≠xb→¬ own lv i→¬ own r i→H4.get i=H'.get i:=fun i h1 h2 h3 h4=>by
   rw [z4 i (fun h=>by
    rcases ownl i h with h | h
    ·exact h3 h
    ·omega) h4,k9 i h2,k8 i h1 h3]
  have hA4:AS t C0 ab mb H0 cs0 (C2++D) cs' H4 y5 ns:=by
   refine hA7.loc hab (by omega) (fun i hi=>same i (by have:=hA7.fr.up; omega) (by omega) (fun h=>by have:=(hl.o i h).1; omega) (fun h=>by have:=(a6 i h).1; have:=hA.fr.up; omega)) (fun i hi=>same i (a1.gcs.lt hi) (fun e=>hxc7 (e ▸ hi)) (fun h=>(hl7.o i h).2.1 hi) (fun h=>(a6 i h).2 hi)) (fun i hi=>same i (hA7.out.lt hi) (fun e=>hx5 (e ▸ hi)) (fun h=>(hl.o i h).2.2 hi) (fun h=>by have:=(a6 i h).1; have:=hA.out.lt hi; omega))
  refine Sf z1 ?_
  refine ihm (k+1) H4 cs' (C2++D) y8 xb lv' (lsl++[ns']) (by omega) (by omega) hA4 (fun D2 hpre hD2=>?_) (h87.loc (by omega) fun i hi=>?_) ?_ hx0 (by omega) hxc7 hx5 hx8 ⟨z3',fun i hi=>?_⟩ lvx (fun i hi h=>?_) (by simp [hlk]) (fun j q' ns2 hq' hns2=>?_) (fun l hl=>?_) ?_
  ·refine hP D2 ((List.prefix_append C2 D).trans hpre) ?_
   rw [hD2,hdq,List.map_cons,List.sum_cons,List.length_append,a3]
   omega
  ·exact same i (by have:=h8.gs.lt hi; omega) (fun e=>hx8 (e ▸ hi)) (fun h=>hl8 i h hi) (fun h=>by have:=(a6 i h).1; have:=h8.gs.lt hi; omega)
  ·rw [z4 xb lvx rx]; exact gx9
  ·rcases ownl i hi with h | h
   ·exact hl7.o i h
   ·exact ⟨by omega,fun h'=>by have:=a1.gcs.lt h'; omega,fun h'=>by have:=hA7.out.lt h'; omega⟩
  ·rcases ownl i hi with h1 | h1
   ·exact hl8 i h1 h
   ·have:=h8.gs.lt h; omega
  ·rw [← List.append_assoc]
   by_cases hjk:j<lsl.length
   ·rw [List.getElem?_append_left hjk] at hns2
    exact (hrep j q' ns2 hq' hns2).mono
   ·rw [List.getElem?_append_right (by omega)] at hns2
    have h1:=(List.getElem?_eq_some_iff.1 hns2).1
    simp at h1
    have:j=k:=by omega
    subst this
    rw [hq] at hq'
    cases hq'
    simp [hlk] at hns2
    subst hns2
    exact a2
  ·rcases List.mem_append.1 hl with h | h
   ·exact hlen l h
   ·simp at h
    subst h
    have hsl:=(hp q hqm).2
    cases f with
    | zero=>exact hsl.elim
    | succ f =>
     have:=a2.1
     have:=hsl.1
     omega
  ·rw [← List.append_assoc,List.length_append,a3]
   omega
def AN (C:List (List Lk)) (f:Nat) (cl:List Lk):Prop:=∀ (k:Nat) (x:Lk),cl[k]?=some x→x.lists.length=x.part.c.pseudos.length∧∀ (j:Nat) (q:Ps) (ns:List Nat),x.part.c.pseudos[j]?=some q→x.lists[j]?=some ns→Rep C f q.list ns
def yg (f:Nat) (p:Pt):Nat:=(p.c.pseudos.map fun q=>h_ f q.list).sum
def SH (f:Nat) (s:Sl):Prop:=s.length≤NB∧∀ p ∈ s,vM p.c∧p.c.pseudos.length≤NB∧∀ q ∈ p.c.pseudos,(i64 q.a∧i64 q.b)∧lM f q.list
theorem QV {f:Nat} (ih:xD σ f) {t:AV} {C0:List (List Lk)} {ab mb:Nat} {H0:Hp} {cs0:AV} (hab:ab<H0.n) {K:AV→Hp→Prop} {y5:AV} {ns:List Nat} (hns:ns.length<NB) {s:Sl} (hs:SH f s) {y14 y15:AV} {m0:Nat} (hm0:m0<NB) {R:Nat} {Q:List (List Lk)→Prop}
  (hK:∀ (H:Hp) (cs:AV) (C2:List (List Lk)) (y5' y8 y11 y21 y22 y23 y31 y32 y33:AV) (cl:List Lk),AS t C0 ab mb H0 cs0 (C2++[cl]) cs H y5' (ns++[(C0++C2).length])→Q C2→cl.map (·.part)=s→AN (C0++C2) f cl→(C0++C2).length+1+R≤NB →
   am.L0 σ K (.ptr ab 0) y5' y8 y11 y14 y15 (I ((m0+1:Nat):Int)) y21 y22 y23 y31 y32 y33 H) :
  ∀ (n2 j:Nat) (H:Hp) (cs:AV) (C2:List (List Lk)) (y8 y11 y31 y32 y33:AV) (cl:List Lk),s.length - j=n2→j≤s.length→AS t C0 ab mb H0 cs0 C2 cs H y5 ns→(∀ D,C2 <+: D→D.length=C2.length+((s.drop j).map (yg f)).sum→Q D)→vZ H0 cs y5 7 H y8 (cl.map ey)→cl.map (·.part)=s.take j→AN (C0++C2) f cl→(∀ x ∈ cl,N7 x) →
   (C0++C2).length+(((s.drop j).map (yg f)).sum+(1+R))≤NB →
   am.L1 σ K (.ptr ab 0) y5 y8 y11 y14 y15 (I (m0:Int)) (.imm 6 (s.map bo)) (I s.length) (I (j:Int)) y31 y32 y33 H:=by
 have hNB:NB=1048576:=rfl
 intro n2
 induction n2 with
 | zero =>
  intro j H cs C2 y8 y11 y31 y32 y33 cl hn hj hA hQ h8 hparts hrep hlk hcnt
  have:j=s.length:=by omega
  subst this
  rw [List.take_length] at hparts
  have hcl:cl.length=s.length:=by rw [← hparts,List.length_map]
  refine am.L1_step ?_
  have hcs1:ldA false 1 H (.ptr ab 1)=some cs:=by simp [hA.add.gab]
  have hlenC:aG cs=some (I ((C0++C2).length:Int)):=by rw [hA.add.gcs.len,List.length_map]
  simp only [a_,Int.lt_irrefl,decide_false,aa,ai,Bool.false_eq_true,if_false,kK,bu,Nat.zero_add,hcs1,hlenC]
  have habn:=hA.add.nab
  have up0:=hA.fr.up
  have cslt:∀ i,own cs i→i<H.n:=fun i hi=>hA.add.gcs.lt hi
  refine fY (y:=I ((C0++C2).length:Int)) hA.out rfl rfl rfl (by simp; omega) (by simp; omega) fun y5' H1 g1 f1=>?_
  have grow1:=f1.grow
  have k1:∀ i,i<H.n→¬ own y5 i→H1.get i=H.get i:=fun i h1 h2=>f1.same i h1 h2
  have h5ab:¬ own y5 ab:=fun h=>by have:=(hA.o5 ab h).1; omega
  have gab1:H1.get ab=some (.cells [t,cs,.mp mb] true):=by rw [k1 ab habn h5ab]; exact hA.add.gab
  have gcs1:Gs 1 H1 cs ((C0++C2).map fun c=>[j9 c]):=hA.add.gcs.keep (fun i hi=>k1 i (cslt i hi) (fun h=>(hA.o5 i h).2 hi)) f1.grow
  have g81:Gs 7 H1 y8 (cl.map ey):=h8.gs.keep (fun i hi=>k1 i (h8.gs.lt hi) (fun h=>(h8.o i hi).2.2 h)) f1.grow
  have hcs2:ldA false 1 H1 (.ptr ab 1)=some cs:=by simp [gab1]
  simp only [kK,aa,bu,Nat.zero_add,hcs2]
  have cel8:=h8.gs.cells
  have own5:∀ i,own y5' i→own y5 i∨(H.n≤i∧i<H1.n):=f1.mine
  refine fY (y:=y8) gcs1 (by rw [cel8.1]; rfl) cel8.2 (by rw [cel8.1]; simpa using h8.gs.one) (by simp at hcnt ⊢; omega) (by simp at hcnt ⊢; omega) fun cs' H2 g2 f2=>?_
  rw [cel8.1] at g2
  have grow2:=f2.grow
  have csab:¬ own cs ab:=hA.add.csab
  have k2:∀ i,i<H1.n→¬ own cs i→H2.get i=H1.get i:=fun i h1 h2=>f2.same i h1 h2
  have gab2:H2.get ab=some (.cells [t,cs,.mp mb] true):=by rw [k2 ab (by omega) csab]; exact gab1
  have ownc:∀ i,own cs' i→own cs i∨(H1.n≤i∧i<H2.n):=f2.mine
  have cs'ab:¬ own cs' ab:=fun h=>by
   rcases ownc ab h with h | h
   ·exact csab h
   ·omega
  have hst:=g2.st (id:=ab) (off:=1) gab2 (by simp)
  simp only [kK,aa,bu,Nat.zero_add,hst,bF]
  rw [bq (by omega)]
  obtain ⟨H3,hH3⟩:∃ H3,H3=H2.set ab (some (.cells ([t,cs,.mp mb].set 1 cs') true)):=⟨_,rfl⟩
  rw [← hH3]
  have k3:∀ i,i≠ab→H3.get i=H2.get i:=fun i hi=>by rw [hH3]; simp [hi]
  have gab3:H3.get ab=some (.cells [t,cs',.mp mb] true):=by rw [hH3]; simp
  have n3:H3.n=H2.n:=by rw [hH3]; rfl
  clear hH3
  have c8:∀ i,own cs' i→¬ own y8 i:=fun i hi h=>by
   rcases ownc i hi with h1 | h1
   ·exact (h8.o i h).2.1 h1
   ·have:=h8.gs.lt h; omega
  have g3:Gs 1 H3 cs' (((C0++C2).map fun c=>[j9 c])++[[y8]]):=g2.keep (fun i hi=>k3 i (fun e=>cs'ab (e ▸ hi))) (by omega)
  have g83:Gs 7 H3 y8 (cl.map ey):=g81.keep (fun i hi=>by
   have h1:=(h8.o i hi)
   have:=h8.gs.lt hi
   rw [k3 i (by omega),k2 i (by omega) h1.2.1]) (by omega)
  obtain ⟨H4,z1,z2,z3,z4⟩:=zk (j:=0) g3 g83 (bC _ Mx _) rfl c8
  have hrow:([y8]:List AV).set 0 (.imm 7 (cl.map ey))=[j9 cl]:=rfl
  rw [hrow] at z3
  have z3':Gs 1 H4 cs' ((C0++(C2++[cl])).map fun c=>[j9 c]):=by simpa using z3
  have y8ab:¬ own y8 ab:=fun h=>by have:=(h8.o ab h).1; omega
  have same:∀ i,i<H1.n→i≠ab→¬ own cs i→¬ own y8 i→H4.get i=H1.get i:=fun i h1 h2 h3 h4=>by
   rw [z4 i (fun h=>by
    rcases ownc i h with h | h
    ·exact h3 h
    ·omega) h4,k3 i h2,k2 i h1 h3]
  refine SR z1 ?_
  have o5':∀ i,own y5' i→H0.n≤i∧¬ own cs i∧¬ own y8 i:=fun i hi=>by
   rcases own5 i hi with h | h
   ·exact ⟨(hA.o5 i h).1,(hA.o5 i h).2,fun h'=>(h8.o i h').2.2 h⟩
   ·exact ⟨by omega,fun h'=>by have:=cslt i h'; omega,fun h'=>by have:=h8.gs.lt h'; omega⟩
  have g5:Gs 1 H4 y5' ((ns++[(C0++C2).length]).map qL):=by
   have:(I ((C0++C2).length:Int)).cells=qL (C0++C2).length:=rfl
   rw [this] at g1
   have h1:Gs 1 H1 y5' ((ns++[(C0++C2).length]).map qL):=by simpa using g1
   refine h1.keep (fun i hi=>same i (h1.lt hi) (fun e=>?_) (o5' i hi).2.1 (o5' i hi).2.2) (by omega)
   subst e
   have:=(o5' i hi).1
   omega
  refine hK H4 cs' C2 y5' y8 _ _ _ _ _ _ _ cl ⟨⟨?_,by omega,z3',cs'ab⟩,⟨by omega,fun i h1 h2 h3=>?_,fun i hi=>?_⟩,fun c hc=>?_,g5,fun i hi=>⟨(o5' i hi).1,fun h=>?_⟩⟩ (hQ C2 (List.prefix_refl _) (by simp)) hparts hrep (by simp at hcnt ⊢; omega)
  ·rw [z4 ab cs'ab y8ab]; exact gab3
  ·have hi5:¬ own y5 i:=fun h=>by have:=(hA.o5 i h).1; omega
   have hi8:¬ own y8 i:=fun h=>by have:=(h8.o i h).1; omega
   have hic:¬ own cs i:=fun h=>by
    rcases hA.fr.mine i h with h | h
    ·exact h3 h
    ·omega
   rw [same i (by omega) h2 hic hi8,k1 i (by omega) hi5]
   exact hA.fr.get i h1 h2 h3
  ·rcases ownc i hi with h | h
   ·exact hA.fr.mine i h
   ·exact .inr (by omega)
  ·rcases List.mem_append.1 hc with h | h
   ·exact hA.ok c h
   ·simp at h
    subst h
    exact ⟨by rw [hcl]; exact hs.1,hlk⟩
  ·rcases ownc i h with h | h
   ·exact (o5' i hi).2.1 h
   ·rcases own5 i hi with h' | h'
    ·have:=hA.out.lt h'; omega
    ·omega
 | succ n2 ih2 =>
  intro j H cs C2 y8 y11 y31 y32 y33 cl hn hj hA hQ h8 hparts hrep hlk hcnt
  have hlt:j<s.length:=by omega
  obtain ⟨p,hp⟩:=bp hlt
  have hpm:=List.mem_of_getElem? hp
  obtain ⟨hc1,hc2,hc3⟩:=hs.2 p hpm
  have hlt':(j:Int)<s.length:=by omega
  have hdp:s.drop j=p::s.drop (j+1):=bK hp
  rw [hdp,List.map_cons,List.sum_cons] at hcnt
  have hcl:cl.length=j:=by
   have:=congrArg List.length hparts
   simp at this
   omega
  refine am.L1_step ?_
  have hst1:stA 6 (H.new (.cells [I 0,Sx ⟨#[]⟩,.lit (.slice none 0 0),.lit (.slice none 0 0),.lit (.slice none 0 0),.lit (.slice none 0 0)] true)) (.ptr H.n 0) (.agg (bo p))=some ((H.new (.cells [I 0,Sx ⟨#[]⟩,.lit (.slice none 0 0),.lit (.slice none 0 0),.lit (.slice none 0 0),.lit (.slice none 0 0)] true)).set H.n (some (.cells (bo p) true))):=by
   simp
   rw [Pc p (by simp)]
  obtain ⟨H1,hH1⟩:∃ H1,H1=(H.new (.cells [I 0,Sx ⟨#[]⟩,.lit (.slice none 0 0),.lit (.slice none 0 0),.lit (.slice none 0 0),.lit (.slice none 0 0)] true)).set H.n (some (.cells (bo p) true)):=⟨_,rfl⟩
  rw [← hH1] at hst1
  have k1:∀ i,i<H.n→H1.get i=H.get i:=fun i hi=>by
   have:i≠H.n:=by omega
   rw [hH1]; simp [this]
  have g1:H1.get H.n=some (.cells (bo p) true):=by rw [hH1]; simp
  have n1:H1.n=H.n+1:=by rw [hH1]; rfl
  clear hH1
  have hb:dy [I 0,Sx ⟨#[]⟩,.lit (.slice none 0 0),.lit (.slice none 0 0),.lit (.slice none 0 0),.lit (.slice none 0 0),.lit (.slice none 0 0)] [(0,6,.agg (bo p))]=some (bo p++[.lit (.slice none 0 0)]):=by
   simp only [dy,Ca,rC,mj,decide_true,BQ,Bool.not_false,Bool.and_true,rp]
   simp [bO]
  have hst2:stA 7 (H1.new (.cells [I 0,Sx ⟨#[]⟩,.lit (.slice none 0 0),.lit (.slice none 0 0),.lit (.slice none 0 0),.lit (.slice none 0 0),.lit (.slice none 0 0)] true)) (.ptr H1.n 0) (.agg (bo p++[.lit (.slice none 0 0)]))=some ((H1.new (.cells [I 0,Sx ⟨#[]⟩,.lit (.slice none 0 0),.lit (.slice none 0 0),.lit (.slice none 0 0),.lit (.slice none 0 0),.lit (.slice none 0 0)] true)).set H1.n (some (.cells (bo p++[.lit (.slice none 0 0)]) true))):=by
   simp
   rw [bj (by simp)]
  obtain ⟨H2,hH2⟩:∃ H2,H2=(H1.new (.cells [I 0,Sx ⟨#[]⟩,.lit (.slice none 0 0),.lit (.slice none 0 0),.lit (.slice none 0 0),.lit (.slice none 0 0),.lit (.slice none 0 0)] true)).set H1.n (some (.cells (bo p++[.lit (.slice none 0 0)]) true)):=⟨_,rfl⟩
  rw [← hH2] at hst2
  have k2:∀ i,i<H1.n→H2.get i=H1.get i:=fun i hi=>by
   have:i≠H1.n:=by omega
   rw [hH2]; simp [this]
  have g2:H2.get H1.n=some (.cells (bo p++[.lit (.slice none 0 0)]) true):=by rw [hH2]; simp
  have n2':H2.n=H1.n+1:=by rw [hH2]; rfl
  clear hH2
  have g1':H2.get H.n=some (.cells (bo p) true):=by rw [k2 H.n (by omega)]; exact g1
  have hps:ldL false 1 ((bo p).drop 5)=some (.imm 4 (p.c.pseudos.map bH)):=by rw [dm,cd]; rfl
  simp only [a_,hlt',decide_true,aa,ai,if_true,bm hp,dX,Kl,bA,hst1,aL,g1,aM,List.drop_zero,hb,hst2,bu,Nat.zero_add,g1',hps,bW,List.length_map]
  have up0:=hA.fr.up
  have kk:∀ i,i<H.n→H2.get i=H.get i:=fun i hi=>by rw [k2 i (by omega),k1 i hi]
  have hA2:AS t C0 ab mb H0 cs0 C2 cs H2 y5 ns:=hA.loc hab (by omega) (fun i hi=>kk i (by omega)) (fun i hi=>kk i (hA.add.gcs.lt hi)) (fun i hi=>kk i (hA.out.lt hi))
  refine Q6 ih hab hc2 hc3 (j:=j) (R:=((s.drop (j+1)).map (yg f)).sum+(1+R)) (P:=fun D=>C2 <+: D∧D.length=C2.length+yg f p) (by have:=hs.1; omega) (Nat.le_of_eq hcl) (fun H' cs' C3 y8' y11' lsl y31' y32' y33' b1 b2 b3 b4 b5 b6 b7=>?_) p.c.pseudos.length 0 H2 cs C2 y8 H1.n (.lit (.slice none 0 0)) [] (by omega) (Nat.zero_le _) hA2 (fun D h1 h2=>⟨h1,by rw [h2]; rfl⟩) (h8.loc (by omega) fun i hi=>kk i (h8.gs.lt hi)) g2 (by omega) (by omega) (fun h=>by have:=hA.add.gcs.lt h; omega) (fun h=>by have:=hA.out.lt h; omega) (fun h=>by have:=h8.gs.lt h; omega) ⟨.nil,fun i h=>h.elim⟩ (fun h=>h) (fun i h=>h.elim) rfl (fun j q ns' _ h=>by simp at h) (fun l h=>by cases h) (by have hcp:yg f p=(p.c.pseudos.map (fun q=>h_ f q.list)).sum:=rfl; rw [hcp] at hcnt; simp only [List.drop_zero]; omega)
  obtain ⟨D,hD⟩:=b2.1
  refine ih2 (j+1) H' cs' C3 y8' y11' y31' y32' y33' (cl++[Lk.mk p lsl]) (by omega) (by omega) b1 (fun D2 h1 h2=>hQ D2 (b2.1.trans h1) ?_) b3 ?_ (fun k x hx=>?_) (fun x hx=>?_) b7
  ·rw [h2,b2.2,hdp,List.map_cons,List.sum_cons]
   omega
  ·rw [List.map_append,hparts,List.take_succ_eq_append_getElem hlt]
   rw [List.getElem?_eq_getElem hlt] at hp
   rw [Option.some.inj hp]
   rfl
  ·by_cases hk:k<cl.length
   ·rw [List.getElem?_append_left hk] at hx
    refine ⟨(hrep k x hx).1,fun j q ns' h1 h2=>?_⟩
    have:=((hrep k x hx).2 j q ns' h1 h2).mono (D:=D)
    rwa [List.append_assoc,hD] at this
   ·rw [List.getElem?_append_right (by omega)] at hx
    have h1:=(List.getElem?_eq_some_iff.1 hx).1
    simp at h1
    have:k - cl.length=0:=by omega
    rw [this] at hx
    simp at hx
    subst hx
    exact ⟨b4,b5⟩
  ·rcases List.mem_append.1 hx with h | h
   ·exact hlk x h
   ·simp at h
    subst h
    refine ⟨hc1,fun q hq=>(hc3 q hq).1,fun l hl=>?_⟩
    have:=b6 l hl
    rw [eJ]
    omega
theorem FQ {f:Nat} (ih:xD σ f):xD σ (f+1):=by
 have hNB:NB=1048576:=rfl
 intro l hl t C ab mb cs H K hA hcnt hK
 have L0:∀ (n m:Nat) (H1:Hp) (cs1:AV) (C2:List (List Lk)) (y5 y8 y11 y21 y22 y23 y31 y32 y33:AV) (ns:List Nat),l.length - m=n→m≤l.length→AS t C ab mb H cs C2 cs1 H1 y5 ns→Rep (C++C2) (f+1) (l.take m) ns→C2.length=h_ (f+1) (l.take m)→(C++C2).length+h_ (f+1) (l.drop m)≤NB →
   am.L0 σ K (.ptr ab 0) y5 y8 y11 (sls l) (I l.length) (I (m:Int)) y21 y22 y23 y31 y32 y33 H1:=by
  intro n
  induction n with
  | zero =>
   intro m H1 cs1 C2 y5 y8 y11 y21 y22 y23 y31 y32 y33 ns hn hm h1 hr hc hb
   have:m=l.length:=by omega
   subst this
   rw [List.take_length] at hr hc
   refine am.L0_step ?_
   simp only [a_,Int.lt_irrefl,decide_false,aa,ai,Bool.false_eq_true,if_false]
   exact hK H1 cs1 C2 y5 ns h1.add hr hc h1.ok h1.out h1.o5 h1.fr
  | succ n ihn =>
   intro m H1 cs1 C2 y5 y8 y11 y21 y22 y23 y31 y32 y33 ns hn hm h1 hr hc hb
   have hlt:m<l.length:=by omega
   obtain ⟨s,hs⟩:=bp hlt
   have hsm:=List.mem_of_getElem? hs
   have hsk:SH f s:=hl.2 s hsm
   have hlt':(m:Int)<l.length:=by omega
   have hds:l.drop m=s::l.drop (m+1):=bK hs
   have hlb:=hl.1
   have hnl:ns.length=m:=by rw [hr.1,List.length_take]; omega
   have hcons:h_ (f+1) (s::l.drop (m+1))=1+(s.map (yg f)).sum+h_ (f+1) (l.drop (m+1)):=by
    simp [h_]
    rfl
   rw [hds,hcons] at hb
   have htk:h_ (f+1) (l.take (m+1))=h_ (f+1) (l.take m)+(1+(s.map (yg f)).sum):=by
    have:l.take (m+1)=l.take m++[s]:=by rw [List.take_add_one,hs]; rfl
    rw [this]
    simp [h_]
    rfl
   refine am.L0_step ?_
   have hix:az 1 (sls l) (I (m:Int))=some (.ip (aH s)):=bm hs
   have hst:stA 1 (H1.new (.cells [.lit (.slice none 0 0)] true)) (.ptr H1.n 0) (.agg (aH s))=some ((H1.new (.cells [.lit (.slice none 0 0)] true)).set H1.n (some (.cells (aH s) true))):=by
    simp [aH]
   simp only [a_,hlt',decide_true,aa,ai,if_true,hix,dX,lY,bA,hst,bu,Nat.zero_add,aL,ay,aM,List.drop_zero,my,bW,List.length_map]
   have up0:=h1.fr.up
   have hab:=hA.nab
   have kk:∀ i,i<H1.n→((H1.new (.cells [.lit (.slice none 0 0)] true)).set H1.n (some (.cells (aH s) true))).get i=H1.get i:=fun i hi=>by
    have:i≠H1.n:=by omega
    simp [this]
   have h1':=h1.loc (H':=(H1.new (.cells [.lit (.slice none 0 0)] true)).set H1.n (some (.cells (aH s) true))) hab (by simp) (fun i hi=>kk i (by omega)) (fun i hi=>kk i (h1.add.gcs.lt hi)) (fun i hi=>kk i (h1.out.lt hi))
   refine QV ih hab (by omega) hsk (m0:=m) (by omega) (R:=h_ (f+1) (l.drop (m+1))) (Q:=fun D=>C2 <+: D∧D.length=C2.length+(s.map (yg f)).sum) (fun H' cs' C3 y5' y8' y11' y21' y22' y23' y31' y32' y33' cl b1 b2 b3 b4 b5=>?_) s.length 0 _ cs1 C2 (.lit (.slice none 0 0)) _ _ _ _ [] (by omega) (Nat.zero_le _) h1' (fun D g1 g2=>⟨g1,by simpa using g2⟩) ⟨.nil,fun i h=>h.elim⟩ rfl (fun k x h=>by simp at h) (fun x h=>by cases h) (by simp at hb ⊢; omega)
   obtain ⟨D,hD⟩:=b2.1
   refine ihn (m+1) H' cs' (C3++[cl]) y5' y8' y11' y21' y22' y23' y31' y32' y33' _ (by omega) (by omega) b1 ⟨by simp [hnl]; omega,fun i s' n' hs' hn'=>?_⟩ ?_ (by simp at b5 ⊢; omega)
   ·by_cases hi:i<m
    ·rw [List.getElem?_take,if_pos (by omega)] at hs'
     rw [List.getElem?_append_left (by omega)] at hn'
     have hr2:Rep (C++(C3++[cl])) (f+1) (l.take m) ns:=by
      have:=hr.mono (D:=D++[cl])
      rwa [show C++C2++(D++[cl])=C++(C3++[cl]) by rw [← hD]; simp] at this
     exact hr2.2 i s' n' (by rw [List.getElem?_take,if_pos hi]; exact hs') hn'
    ·rw [List.getElem?_append_right (by omega)] at hn'
     have h2:=(List.getElem?_eq_some_iff.1 hn').1
     simp at h2
     have him:i=m:=by omega
     subst him
     rw [List.getElem?_take,if_pos (by omega),hs] at hs'
     cases hs'
     simp [hnl] at hn'
     subst hn'
     refine ⟨cl,by simp,b3,fun k x hx=>⟨(b4 k x hx).1,fun j q ns' g1 g2=>?_⟩⟩
     have:=((b4 k x hx).2 j q ns' g1 g2).mono (D:=[cl])
     rwa [List.append_assoc] at this
   ·rw [htk,List.length_append,b2.2,hc]
    simp
    omega
 refine am.run ?_
 simp
 refine L0 l.length 0 H cs [] _ _ _ _ _ _ _ _ _ [] (by omega) (Nat.zero_le _) ⟨by simpa using hA,.refl _ _ _,fun c h=>(by cases h),.nil,fun i h=>h.elim⟩ ⟨rfl,fun i s n h=>by simp at h⟩ (by simp [h_]) (by simpa using hcnt)
theorem Gt:∀ (f:Nat),xD σ f
 | 0=>fun l h=>h.elim
 | f+1=>FQ (Gt f)
end
end Go.Proofs.YthdcghnjndhecaaGreat.Ev
namespace Go.Proofs.YthdcghnjndhecaaGreat.Ev
set_option linter.unusedVariables false
set_option linter.unusedSimpArgs false
variable {σ:Sig}
theorem MP {sz:Nat} {H:Hp} {x:AV} {rows:List (List AV)} (hg:Gs sz H x rows) (hn:eU rows=true) :
  ∃ Hd H2:Hp,Hd.n=H.n∧H2.n=H.n∧(∀ id k,Hd.get id=some k→H.get id=some k∧H2.get id=none)∧(∀ id k2,H2.get id=some k2→∃ k1,H.get id=some k1∧FzB Hd k1 k2)∧Fz Hd x (.imm sz rows)∧∀ j,¬ own x j→H2.get j=H.get j:=by
 cases hg with
 | nil =>
  let Hd:Hp:=⟨H.n,Hp.empty.t⟩
  have hd0:∀ id,Hd.get id=none:=fun id=>by simp [Hd,Hp.empty,Hp.get,Tr.get]
  exact ⟨Hd,H,rfl,rfl,fun id k h=>(by rw [hd0] at h; cases h),fun id k2 h=>⟨k2,h,.refl _ _⟩,.nil,fun j _=>rfl⟩
 | sl hlt hg hsz =>
  rename_i id exx
  let Hd:Hp:=(⟨H.n,Hp.empty.t⟩:Hp).set id (some (.cells rows.flatten exx))
  have hd0:∀ j,Hd.get j=if j=id then some (.cells rows.flatten exx) else none:=fun j=>by
   show ((⟨H.n,Hp.empty.t⟩:Hp).set id _).get j=_
   rw [ay]
   split
   ·rfl
   ·simp [Hp.empty,Hp.get,Tr.get]
  have hf:Fz Hd (.sl id 0 sz rows.length none) (.imm sz rows):=.rows (cs:=rows.flatten) (ex:=exx) (by rw [hd0,if_pos rfl]) hsz (by rw [List.drop_zero]; exact List.take_of_length_le (by rw [c4 hsz]; exact Nat.le_refl _)) hn
  refine ⟨Hd,H.set id none,rfl,rfl,fun j k h=>?_,fun j k2 h=>?_,hf,fun j ho=>?_⟩
  ·rw [hd0] at h
   split at h
   ·rename_i e; subst e; cases h
    exact ⟨hg,by simp⟩
   ·cases h
  ·rw [ay] at h
   split at h
   ·cases h
   ·exact ⟨k2,h,.refl _ _⟩
  ·have:j≠id:=fun e=>ho (by rw [e]; rfl)
   simp [this]
theorem Qs {f:Nat} {l:List Sl} (hl:lM f l) {t:AV} {C:List (List Lk)} {ab mb:Nat} {cs:AV} {H:Hp} {K:AV→Hp→Prop} (hA:wN t C ab mb cs H) (hc:C.length+h_ f l≤NB)
  (hK:∀ (H':Hp) (cs':AV) (C2:List (List Lk)) (ns:List Nat),wN t (C++C2) ab mb cs' H'→Rep (C++C2) f l ns→C2.length=h_ f l→(∀ c ∈ C2,LG c)→AFr H cs ab H' cs'→K (mv ns) H'):av Tryz.prog σ d5 [.ptr ab 0,sls l] H K:=by
 obtain ⟨r,H1,hg,cs',C2,ns,h1,h2,h3,h4,h5,h6,h7⟩:=Gt (σ:=σ) f l hl t C ab mb cs H (fun r H'=>∃ cs' C2 ns,wN t (C++C2) ab mb cs' H'∧Rep (C++C2) f l ns∧C2.length=h_ f l∧(∀ c ∈ C2,LG c)∧Gs 1 H' r (ns.map qL)∧(∀ j,own r j→H.n≤j∧¬ own cs' j)∧AFr H cs ab H' cs') hA hc fun H' cs' C2 r ns a b c d e f g=>⟨cs',C2,ns,a,b,c,d,e,f,g⟩
 obtain ⟨Hd,H2,a1,a2,a3,a4,a5,a6⟩:=MP h5 (bC _ (fun _=>rfl) ns)
 have hab:=hA.nab
 refine ak (hg.frzH a2 a1 a3 a4 (.inr a5)) (hK H2 cs' C2 ns (h1.loc (by omega) (a6 _ fun h=>?_) fun j hj=>a6 _ fun h=>(h6 j h).2 hj) h2 h3 h4 (h7.loc (by omega) fun j hj=>a6 _ fun h=>?_))
 ·have:=(h6 _ h).1; omega
 ·have:=(h6 _ h).1; omega
theorem EP {C D:List (List Lk)} {n:Nat} (h:n<C.length):pA (C++D) n=pA C n:=by
 unfold pA
 rw [List.getD_eq_getElem?_getD,List.getD_eq_getElem?_getD,List.getElem?_append_left h]
theorem LL {L:List Nd} {C D:List (List Lk)} {n:Nat} (h:n<C.length) (i e:Nat) (a:Bool):Tru L (C++D) n i e a=Tru L C n i e a:=by
 unfold Tru
 rw [EP h]
theorem oI.app {L:List Nd} {C D:List (List Lk)} {es:List (AV × AV)} (h:oI C.length (Tru L C) es):oI (C++D).length (Tru L (C++D)) es:=fun p hp=>by
 obtain ⟨n,i,e,a,h1,h2,h3⟩:=h p hp
 exact ⟨n,i,e,a,by rw [List.length_append]; omega,by rw [LL h1]; exact h2,h3⟩
theorem BM (f:Nat) (s:Sl) (l:List Sl):h_ f (s::l)=h_ f [s]+h_ f l:=by
 cases f with
 | zero=>rfl
 | succ f=>simp [h_]
theorem m9.one {f:Nat} {l:List Sl} (h:m9 f l) {s:Sl} (hs:s ∈ l):m9 f [s]:=by
 cases f with
 | zero=>exact h
 | succ f=>exact fun s' hs'=>by rw [List.mem_singleton.1 hs']; exact h s hs
theorem lM.one {f:Nat} {l:List Sl} (h:lM f l) {s:Sl} (hs:s ∈ l):lM f [s]:=by
 cases f with
 | zero=>exact h
 | succ f=>exact ⟨(by show 1≤NB; decide),fun s' hs'=>by rw [List.mem_singleton.1 hs']; exact h.2 s hs⟩
theorem HG {l:List Sl} {m:Nat} {s:Sl} (h:l[m]?=some s):BR 1 (sls l) (some (I (m:Int))) (some (I ((m+1:Nat):Int))) none=some (sls [s]):=by
 have hlt:=(List.getElem?_eq_some_iff.1 h).1
 have e1:((m:Int)+1)≤l.length:=by omega
 have e2:(0:Int)≤(m:Int)+1:=by omega
 have e3:((m:Int)+1).toNat=m+1:=by omega
 have e4:(List.drop m (l.map aH)).take 1=[aH s]:=by
  rw [← List.map_drop,bK h]; rfl
 simp [BR,qP,ij,JI,sls,dn,gk,mj,e1,e2,e3,e4,show ((m:Int)≤(m:Int)+1) from by omega]
def mi (L:List Nd) (f:Nat) (l:List Sl) (e:Nat):Bool:=l.any fun s=>fT f [s] 8&&AA L [s] e
structure McT (σ:Sig) (L:List Nd) (d:List Nat):Prop where
 hC:qB σ
 hB:cQ L L.length d
 hN:L.length≤4096
 sm:∀ e,e<L.length→SmN (bv (bV L e))
structure vk (f:Nat) (l:List Sl):Prop where
 wf:kI c6 l
 ok:lM f l
 nest:m9 f l
 hf:f≤12
 cnt:h_ f l≤NB
section
attribute [local irreducible] dB.L0
theorem PJ {L:List Nd} {d:List Nat} (M:McT σ L d) {f:Nat} {l:List Sl} (S:vk f l) (e:Int) (H:Hp) :
  au Tryz.prog σ lD [cx L d,I e,sls l] H (Bo (decide (0≤e)&&decide (e<L.length)&&mi L f l e.toNat)) H:=by
 have hNB:NB=1048576:=rfl
 refine bg (fun K hK=>dB.run (ak (SV L d e _) ?_)) (by simp [aK,bt,cU,tT]) rfl H
 simp only [eM,aa,ai]
 cases hin:(decide (0≤e)&&decide (e<L.length)) with
 | false=>rw [hin] at hK; simpa using hK _
 | true =>
 rw [hin] at hK
 simp only [Bool.true_and] at hK
 simp only [Bool.and_eq_true,decide_eq_true_eq] at hin
 obtain ⟨en,rfl⟩:∃ en:Nat,e=(en:Int):=⟨e.toNat,by omega⟩
 have he:en<L.length:=by omega
 rw [Int.toNat_natCast] at hK
 simp only [Bool.not_true,Bool.false_eq_true,if_false]
 have hlen:aG (sls l)=some (I (l.length:Int)):=by unfold sls; simp
 have hlw:l.length≤NB:=by
  have:=S.ok
  revert this
  cases f with
  | zero=>exact fun h=>h.elim
  | succ f=>exact fun h=>h.1
 have L0:∀ (k m:Nat) (H1:Hp) (C:List (List Lk)) (ab mb:Nat) (cs:AV),l.length - m=k→m≤l.length→jl (cx L d) C (Tru L C) ab mb cs H1→¬ own cs ab→Mc σ L d C→C.length+h_ f (l.drop m)≤NB→(∀ H,K (Bo (mi L f (l.drop m) en)) H) →
   dB.L0 σ K (I (en:Int)) (sls l) (.ptr ab 0) (I l.length) (I (m:Int)) H1:=by
  intro k
  induction k with
  | zero =>
   intro m H1 C ab mb cs hk hm hA hcs hM hc hK
   have:m=l.length:=by omega
   subst this
   refine dB.L0_step ?_
   simp
   simpa [mi] using hK H1
  | succ k ih =>
   intro m H1 C ab mb cs hk hm hA hcs hM hc hK
   have hlt:m<l.length:=by omega
   obtain ⟨s,hs⟩:=bp hlt
   have hsm:=List.mem_of_getElem? hs
   have hlt':(m:Int)<l.length:=by omega
   rw [bK hs] at hK hc
   rw [BM] at hc
   have hwf:kI c6 [s]:=⟨(by show 1≤c6; decide),fun s' h=>by rw [List.mem_singleton.1 h]; exact S.wf.2 s hsm⟩
   have hn1:=S.nest.one hsm
   have hcons:mi L f (s::l.drop (m+1)) en=((fT f [s] 8&&AA L [s] en)||mi L f (l.drop (m+1)) en):=by simp [mi]
   rw [hcons] at hK
   refine dB.L0_step ?_
   simp only [a_,hlt',decide_true,aa,ai,if_true,bF,bq (show m<9000000000000000000 by omega),HG hs]
   refine ak (Db f [s] 8 _ hwf hn1 (by omega)) ?_
   simp only [ai]
   cases hmay:fT f [s] 8 with
   | false =>
    rw [hmay] at hK
    simp only [Bool.false_and,Bool.false_or] at hK
    simp only [Bool.false_eq_true,if_false]
    exact ih (m+1) H1 C ab mb cs (by omega) (by omega) hA hcs hM (by omega) hK
   | true =>
    rw [hmay] at hK
    simp only [Bool.true_and] at hK
    simp only [if_true]
    have nmb:=hA.nmb
    have nab:=hA.nab
    refine Qs (S.ok.one hsm) ⟨hA.gab,hA.nab,hA.gcs,hcs⟩ (by omega) fun H' cs' C2 ns b1 b2 b3 b4 b5=>?_
    have up:=b5.up
    have hA':jl (cx L d) (C++C2) (Tru L (C++C2)) ab mb cs' H':=by
     obtain ⟨es,g1,g2⟩:=hA.memo
     refine ⟨b1.gab,b1.nab,by omega,hA.ne,b1.gcs,fun h=>?_,es,by rw [b5.get mb nmb hA.ne.symm hA.csm]; exact g1,g2.app⟩
     rcases b5.mine mb h with h | h
     ·exact hA.csm h
     ·omega
    have hM':Mc σ L d (C++C2):=by
     have hre:NB≤reachBytes:=by rw [eJ]; decide
     refine ⟨M.hC,M.hB,M.hN,M.sm,?_,fun c hc'=>?_,fun c hc'=>?_⟩
     ·rw [List.length_append,b3]; omega
     ·rcases List.mem_append.1 hc' with h | h
      ·exact hM.ll c h
      ·exact Nat.le_trans (b4 c h).len hre
     ·rcases List.mem_append.1 hc' with h | h
      ·exact hM.lk c h
      ·exact (b4 c h).lk
    have hns:ns.length≤reachBytes:=by
     have:ns.length=1:=by
      have:=b2
      revert this
      cases f with
      | zero=>exact fun h=>h.elim
      | succ f=>exact fun h=>h.1
     rw [this]; decide
    refine K4 hM' f S.hf [s] ns b2 hn1 S.hf hns en he ab mb cs' H' _ hA' fun H2 h2 kp2=>?_
    simp only [ai]
    cases haa:AA L [s] en with
    | true =>
     rw [haa] at hK
     simpa using hK H2
    | false =>
     rw [haa] at hK
     simp only [Bool.false_or] at hK
     simp only [Bool.false_eq_true,if_false]
     exact ih (m+1) H2 (C++C2) ab mb cs' (by omega) (by omega) h2 b1.csab hM' (by rw [List.length_append,b3]; omega) hK
 refine nO.run ?_
 have hb:dy [.lit (.pointer none),.lit (.slice none 0 0),.lit (.map none)] [(0,1,cx L d),(2,1,.mp Hp.empty.n)]=some [cx L d,.lit (.slice none 0 0),.mp Hp.empty.n]:=rfl
 simp only [hb,aa,cJ,hlen]
 refine L0 l.length 0 _ [] _ Hp.empty.n (.lit (.slice none 0 0)) (by omega) (Nat.zero_le _) ⟨?_,?_,?_,?_,.nil,fun h=>h.elim,[],?_,fun p hp=>by cases hp⟩ (fun h=>h.elim) ⟨M.hC,M.hB,M.hN,M.sm,Nat.zero_le _,fun c hc=>(by cases hc),fun c hc=>(by cases hc)⟩ (by simpa using S.cnt) (by simpa using hK)
 ·simp
 ·simp
 ·simp only [Hp.n_new]; omega
 ·simp
 ·simp
end
end Go.Proofs.YthdcghnjndhecaaGreat.Ev
namespace Go.Proofs.YthdcghnjndhecaaGreat.Ev
set_option linter.unusedVariables false
set_option linter.unusedSimpArgs false
variable {σ:Sig}
theorem QA {H:Hp} {id:Nat} {s:Sl} {ex:Bool} {cap:Option Nat} (hg:H.get id=some (.cells (aH s) ex)):Fz H (.sl id 0 1 1 cap) (sls [s]):=by
 have h1:(aH s).length=1:=rfl
 have:Fz H (.sl id 0 1 [aH s].length cap) (.imm 1 [aH s]):=.rows hg (by simp [h1]) (by simp; exact List.take_of_length_le (by rw [h1]; exact Nat.le_refl _)) (by simp [eU,gP])
 exact this
def nS (L:List Nd) (f:Nat) (s:Sl) (e:Int):Bool:=decide (0≤e)&&decide (e<L.length)&&mi L f [s] e.toNat
theorem PZ {L:List Nd} {d:List Nat} (M:McT σ L d) {f:Nat} {s:Sl} (S:vk f [s]) (e:Int) (H:Hp):au Tryz.prog σ hY [cx L d,I e,.agg (aH s)] H (Bo (nS L f s e)) H:=by
 refine bg (fun K hK=>kN.run ?_) (by simp [aK,bt,cU,gP]) rfl H
 have hb:∀ H:Hp,cj [.slice none 0 0] 1 1 H [(0,1,.agg (aH s))]=some (.sl H.n 0 1 1 (some 1),H.new (.cells (aH s) true)):=fun H=>by
  unfold cj aH; rfl
 have hl:∀ H:Hp,ldA true 1 (H.new (.cells (aH s) true)) (.ptr H.n 0)=some (.agg (aH s)):=fun H=>by
  simp only [aL,bN,if_true,aM,List.drop_zero,lY]
 simp only [cJ,hl,hb,aa]
 refine ak ((PJ M S e Hp.empty).frzA (.cons (.refl (cU L d)) (.cons (.refl rfl) (.cons (QA (ex:=true) (by simp)) .nil))) rfl) ?_
 exact hK _
end Go.Proofs.YthdcghnjndhecaaGreat.Ev
namespace Go.Proofs.YthdcghnjndhecaaGreat.Ev
set_option linter.unusedVariables false
set_option linter.unusedSimpArgs false
variable {σ:Sig}
def Rw (σ:Sig) (f:Nat):Prop:=∀ (s:Sl) (dp:Nat) (H:Hp),lu c6 s→(∀ p ∈ s,∀ q ∈ p.c.pseudos,m9 f q.list)→dp≤8→au Tryz.prog σ gO [.agg (aH s),I (dp:Int)] H (Bo (!qQ (fT f) (8 - dp) s)) H
def PP (σ:Sig) (f:Nat):Prop:=∀ (c:Cp) (dp:Nat) (H:Hp),BE c6 c→(∀ q ∈ c.pseudos,m9 f q.list)→dp≤8→au Tryz.prog σ lL [.agg (bU c),I (dp:Int)] H (Bo (!tE (fT f) (8 - dp) c)) H
section
attribute [local irreducible] aZ.L0 aZ.J1 aZ.L2 cO.L0
theorem AK {f:Nat} (ih:PP σ f):Rw σ f:=by
 intro s dp H hw hn hd
 refine bg (fun K hK=>cO.run ?_) (by simp [aK,bt,gP]) rfl H
 have L0:∀ (m k y2:Nat) (H:Hp),s.length - m=k→m≤s.length→H.get y2=some (.cells (aH s) true)→(∀ H,K (Bo (!(s.drop m).all fun p=>tE (fT f) (8 - dp) p.c)) H)→cO.L0 σ K (I (dp:Int)) (.ptr y2 0) (I (m:Int)) H:=by
  intro m k
  revert m
  induction k with
  | zero =>
   intro m y2 H hk hm hg hK
   have:m=s.length:=by omega
   subst this
   refine cO.L0_step ?_
   simp only [bu,Nat.zero_add,aa,aL,hg,aM,List.drop_zero,my,bW,List.length_map,a_,Int.lt_irrefl,decide_false,ai,Bool.false_eq_true,if_false]
   simpa using hK H
  | succ k ihk =>
   intro m y2 H hk hm hg hK
   have hlt:m<s.length:=by omega
   obtain ⟨p,hp⟩:=bp hlt
   have hpm:=List.mem_of_getElem? hp
   have hpw:=(Pt.wf_iff.1 (hw.2 p hpm)).2
   rw [bK hp,List.all_cons] at hK
   have hlt':(m:Int)<s.length:=by omega
   refine cO.L0_step ?_
   have hd1:(bo p).drop 1=bU p.c:=by rw [dm]; rfl
   have hld:ldL true 5 ((bo p).drop 1)=some (.agg (bU p.c)):=by rw [hd1,Am]
   have hsh:ae (.ip (bo p)) 1=some (.ip ((bo p).drop 1)):=by rw [dm,cd]; rfl
   simp only [bu,Nat.zero_add,aa,aL,hg,aM,List.drop_zero,my,bW,List.length_map,a_,hlt',decide_true,ai,if_true,bm hp,hsh,dX,hld]
   refine ak (ih p.c dp _ hpw (fun q hq=>hn p hpm q hq) hd) ?_
   simp only [ai]
   cases hb:tE (fT f) (8 - dp) p.c with
   | false =>
    rw [hb] at hK
    simpa using hK _
   | true =>
    rw [hb] at hK
    simp only [Bool.not_true,Bool.false_eq_true,if_false,bF,aa,cn hlt hw.1]
    exact ihk (m+1) y2 H (by omega) (by omega) hg (by simpa using hK)
 have hS:qQ (fT f) (8 - dp) s=(decide (s.length≤50)&&s.all fun p=>tE (fT f) (8 - dp) p.c):=rfl
 rw [hS] at hK
 simp only [cJ,bu,aa,Nat.zero_add,aL,bN,if_true,aM,List.drop_zero,my,bW,List.length_map,eI,ai,decide_eq_true_eq]
 split
 ·rename_i h50
  have:¬ (s.length≤50):=by omega
  simpa [this] using hK _
 ·rename_i h50
  have:s.length≤50:=by omega
  refine L0 0 _ _ _ rfl (Nat.zero_le _) (by simp) ?_
  simpa [this] using hK
theorem AU {f:Nat} (ih:∀ f',f=f'+1→Rw σ f'):PP σ f:=by
 intro c dp H hc hn hd
 refine bg (fun K hK=>aZ.run ?_) (by simp [aK,bt,m5]) rfl H
 have L0:∀ (k m y2:Nat) (H:Hp) (y6 y7:AV),c.pseudos.length - m=k→m≤c.pseudos.length→y2<H.n→H.get y2=some (.cells (bU c) true)→(∀ H,K (Bo (!(c.pseudos.drop m).all (rW (fT f) (8 - dp)))) H)→aZ.L0 σ K (I (dp:Int)) (.ptr y2 0) (I (m:Int)) y6 y7 H:=by
  intro k
  induction k with
  | zero =>
   intro m y2 H y6 y7 hk hm hy2 hg hK
   have:m=c.pseudos.length:=by omega
   subst this
   refine aZ.L0_step ?_
   simp only [bu,Nat.zero_add,aa,aL,hg,aM,nT,bW,List.length_map,a_,Int.lt_irrefl,decide_false,ai,Bool.false_eq_true,if_false]
   simpa using hK H
  | succ k ihk =>
   intro m y2 H y6 y7 hk hm hy2 hg hK
   have hlt:m<c.pseudos.length:=by omega
   obtain ⟨q,hq⟩:=bp hlt
   have hqm:=List.mem_of_getElem? hq
   have hqw:=(Ps.wf_iff.1 (hc.ps q hqm)).2.2.2
   rw [bK hq,List.all_cons] at hK
   have hlt':(m:Int)<c.pseudos.length:=by omega
   have next:∀ (H:Hp) (y6 y7:AV),y2<H.n→H.get y2=some (.cells (bU c) true)→rW (fT f) (8 - dp) q=true→aZ.J1 σ K (I (dp:Int)) (.ptr y2 0) (I (m:Int)) y6 y7 H:=by
    intro H y6 y7 h1 h2 ht
    refine aZ.J1_step ?_
    simp only [bF,aa,cn hlt hc.psL]
    refine ihk (m+1) y2 H y6 y7 (by omega) (by omega) h1 h2 fun H'=>?_
    have:=hK H'
    rwa [ht,Bool.true_and] at this
   have ask:∀ (H:Hp) (y6:Nat) (y7:AV),(q.kind=7∨q.kind=8)→y2<H.n→H.get y2=some (.cells (bU c) true)→H.get y6=some (.cells (bH q) true)→ifB (Bo (decide ((8:Int)≤(dp:Int)))) (K (Bo true) H) (aZ.L2 σ K (I (dp:Int)) (.ptr y2 0) (I (m:Int)) (.ptr y6 0) (I 0) H):=by
    intro H y6 y7 hkq hy hg2 hg6
    simp only [ai,decide_eq_true_eq]
    have hQ:rW (fT f) (8 - dp) q=(!decide (8 - dp=0)&&fT f q.list (8 - dp - 1)):=by unfold rW; rw [if_pos hkq]
    split
    ·rename_i h0
     have h0':8 - dp=0:=by omega
     have:=hK H
     rw [hQ] at this
     simpa [h0'] using this
    ·rename_i h0
     have h0':¬ (8 - dp=0):=by omega
     have hnq:=hn q hqm
     cases f with
     | zero=>exact hnq.elim
     | succ f' =>
     have hQ2:rW (fT (f'+1)) (8 - dp) q=q.list.all (qQ (fT f') (8 - (dp+1))):=by
      rw [hQ]
      simp only [h0',decide_false,Bool.not_false,Bool.true_and]
      rw [show 8 - (dp+1)=8 - dp - 1 by omega]
      rfl
     have L2:∀ (k2 j:Nat) (H:Hp),q.list.length - j=k2→j≤q.list.length→y2<H.n→H.get y2=some (.cells (bU c) true)→H.get y6=some (.cells (bH q) true)→(∀ i,i<j→∀ s,q.list[i]?=some s→qQ (fT f') (8 - (dp+1)) s=true)→aZ.L2 σ K (I (dp:Int)) (.ptr y2 0) (I (m:Int)) (.ptr y6 0) (I (j:Int)) H:=by
      intro k2
      induction k2 with
      | zero =>
       intro j H hk2 hj hy hg2 hg6 hall
       have:j=q.list.length:=by omega
       subst this
       refine aZ.L2_step ?_
       simp only [bu,Nat.zero_add,aa,aL,hg6,aM,oh,sls,bW,List.length_map,a_,Int.lt_irrefl,decide_false,ai,Bool.false_eq_true,if_false]
       refine next H _ _ hy hg2 ?_
       rw [hQ2,List.all_eq_true]
       intro s hs
       obtain ⟨i,hi⟩:=List.getElem?_of_mem hs
       exact hall i (List.getElem?_eq_some_iff.1 hi).1 s hi
      | succ k2 ih2 =>
       intro j H hk2 hj hy hg2 hg6 hall
       have hjlt:j<q.list.length:=by omega
       obtain ⟨s,hs⟩:=bp hjlt
       have hsm:=List.mem_of_getElem? hs
       have hjlt':(j:Int)<q.list.length:=by omega
       refine aZ.L2_step ?_
       have hix:az 1 (.imm 1 (q.list.map aH)) (I (j:Int))=some (.ip (aH s)):=bm hs
       have e1:wr .i64 ((dp:Int)+1)=((dp+1:Nat):Int):=by rw [cM (by omega) (by omega)]; rfl
       simp only [bu,Nat.zero_add,aa,aL,hg6,aM,oh,sls,bW,List.length_map,a_,hjlt',decide_true,ai,if_true,hix,dX,lY,bF,e1]
       refine ak (ih f' rfl s (dp+1) _ (hqw.2 s hsm) (fun p hp q2 hq2=>hnq s hsm p hp q2 hq2) (by omega)) ?_
       simp only [ai]
       cases hb:qQ (fT f') (8 - (dp+1)) s with
       | false =>
        have:=hK H
        have hf:q.list.all (qQ (fT f') (8 - (dp+1)))=false:=by
         rw [List.all_eq_false]
         exact ⟨s,hsm,by rw [hb]; simp⟩
        rw [hQ2,hf] at this
        simpa using this
       | true =>
        simp only [Bool.not_true,Bool.false_eq_true,if_false,aa,cn hjlt hqw.1]
        refine ih2 (j+1) H (by omega) (by omega) hy hg2 hg6 fun i hi s' hs'=>?_
        by_cases hij:i<j
        ·exact hall i hij s' hs'
        ·have:i=j:=by omega
         subst this
         rw [hs] at hs'
         cases hs'
         exact hb
     exact L2 _ 0 H rfl (Nat.zero_le _) hy hg2 hg6 fun i hi=>by omega
   refine aZ.L0_step ?_
   have hst:stA 4 (H.new (.cells [I 0,I 0,I 0,.lit (.slice none 0 0)] true)) (.ptr H.n 0) (.agg (bH q))=some ((H.new (.cells [I 0,I 0,I 0,.lit (.slice none 0 0)] true)).set H.n (some (.cells (bH q) true))):=by
    simp
    rw [yk q (by simp)]
   simp only [bu,Nat.zero_add,aa,aL,hg,aM,nT,bW,List.length_map,a_,hlt',decide_true,ai,if_true,bm hq,dX,rj,bA,hst,ay,List.drop_zero,tS,tF,im]
   have hne:¬ (y2=H.n):=by omega
   have hg2:((H.new (.cells [I 0,I 0,I 0,.lit (.slice none 0 0)] true)).set H.n (some (.cells (bH q) true))).get y2=some (.cells (bU c) true):=by simp [hne,hg]
   have hn2:y2<((H.new (.cells [I 0,I 0,I 0,.lit (.slice none 0 0)] true)).set H.n (some (.cells (bH q) true))).n:=by simp; omega
   have hask:=fun h=>ask _ H.n (I 0) h hn2 hg2 (by simp)
   simp only [ai] at hask
   by_cases h7:q.kind=7
   ·simp only [h7,decide_true,Bool.not_true,Bool.false_eq_true,if_false]
    exact hask (.inl h7)
   ·simp only [h7,decide_false,Bool.not_false,if_true]
    by_cases h8:q.kind=8
    ·simp only [h8,decide_true,Bool.not_true,Bool.false_eq_true,if_false]
     exact hask (.inr h8)
    ·simp only [h8,decide_false,Bool.not_false,if_true]
     exact next _ _ _ hn2 hg2 (by unfold rW; rw [if_neg (by omega)])
 simp only [cJ]
 exact L0 _ 0 _ _ _ _ rfl (Nat.zero_le _) (by simp) (by simp) (by simpa [tE] using hK)
theorem Ph:∀ (f:Nat),PP σ f
 | 0=>AU fun f' h=>by omega
 | f+1=>AU fun f' h=>by
  have:f'=f:=by omega
  rw [this]
  exact AK (Ph f)
theorem S0 (f:Nat):Rw σ f:=AK (Ph f)
end
end Go.Proofs.YthdcghnjndhecaaGreat.Ev
namespace Go.Proofs.YthdcghnjndhecaaGreat.Ev
set_option linter.unusedVariables false
set_option linter.unusedSimpArgs false
variable {σ:Sig}
theorem rix {L:List Nd} {e:Nat} (he:e<L.length):az 5 (nds (L.map bv)) (I (e:Int))=some (.ip (aY (bv (bV L e)))):=by
 have:(L.map bv)[e]?=some (bv (bV L e)):=by
  rw [List.getElem?_map,List.getElem?_eq_getElem he]
  simp [bV,List.getD_eq_getElem?_getD,List.getElem?_eq_getElem he]
 exact bm this
theorem oD (L:List Nd) (d:List Nat):cb (dl L d)=some (dl L d):=rfl
theorem rsh (L:List Nd) (d:List Nat):ae (dl L d) 0=some (dl L d):=rfl
theorem rld (L:List Nd) (d:List Nat) (H:Hp):ldA false 1 H (dl L d)=some (nds (L.map bv)):=rfl
theorem BA (L:List Nd):aG (nds (L.map bv))=some (I (L.length:Int)):=by unfold nds; simp
theorem Ji (L:List Nd) (e:Nat) (H:Hp):ldA false 1 H (.ip (aY (bv (bV L e))))=some (I (par L e)):=rfl
theorem w_ (L:List Nd) (e:Nat):ae (.ip (aY (bv (bV L e)))) 0=some (.ip (aY (bv (bV L e)))):=rfl
theorem FM (L:List Nd) (d:List Nat) (e:Int) (H:Hp):au Tryz.prog σ cY [dl L d,I e] H (Bo (decide (0≤e)&&decide (e<L.length))) H:=by
 refine bg (fun K hK=>mQ.run ?_) (by simp [aK,dC,bt]) rfl H
 have e1:gn .neq (dl L d) (.lit (.pointer none))=some (Bo true):=rfl
 simp only [e1,aa,ai,if_true,im,decide_eq_true_eq,oD,rsh,rld,BA,a_]
 split
 ·rename_i h
  simpa [h] using hK _
 ·rename_i h
  simpa [h] using hK _
theorem uf (L:List Nd) (d:List Nat) {e:Nat} (he:e<L.length) (H:Hp):au Tryz.prog σ cY [dl L d,I (e:Int)] H (Bo true) H:=by
 have:=FM (σ:=σ) L d (e:Int) H
 rwa [show (decide (0≤(e:Int))&&decide ((e:Int)<L.length))=true by simp; omega] at this
theorem jy (L:List Nd) (d:List Nat) {e:Nat} (he:e<L.length) (H:Hp):au Tryz.prog σ cB [dl L d,I (e:Int)] H (I (par L e)) H:=by
 refine bg (fun K hK=>jw.run (ak (uf L d he _) ?_)) (by simp [aK,dC,bt]) rfl H
 simp only [eM,aa,Bool.not_true,ai,Bool.false_eq_true,if_false,oD,rsh,rld,rix he,w_,Ji]
 exact hK _
theorem xT (P:Nat→Bool) (m:Nat):(List.range (m+1)).filter P=(List.range m).filter P++if P m then [m] else []:=by
 rw [List.range_succ,List.filter_append]
 congr 1
 simp only [List.filter_cons,List.filter_nil]
theorem rh (L:List Nd) (d:List Nat) (hN:L.length≤4096) {e:Nat} (he:e<L.length) (H:Hp):au Tryz.prog σ dZ [dl L d,I (e:Int)] H (I (dq L e)) H:=by
 refine bg (fun K hK=>aT.run (ak (uf L d he _) ?_)) (by simp [aK,dC,bt]) rfl H
 simp only [eM,aa,Bool.not_true,ai,Bool.false_eq_true,if_false]
 have L0:∀ (k m:Nat) (H:Hp),e - m=k→0<m→m≤e→aT.L0 σ K (dl L d) (I (e:Int)) (I ((((List.range m).filter fun j=>decide (0<j)&&decide (par L j=par L e)).length+1:Nat):Int)) (I (m:Int)) H:=by
  intro k
  induction k with
  | zero =>
   intro m H hk h0 hm
   have:m=e:=by omega
   subst this
   refine aT.L0_step ?_
   simp only [a_,Int.lt_irrefl,decide_false,aa,ai,Bool.false_eq_true,if_false]
   exact hK _
  | succ k ih =>
   intro m H hk h0 hm
   have hlt:(m:Int)<(e:Int):=by omega
   have hl:((List.range m).filter fun j=>decide (0<j)&&decide (par L j=par L e)).length≤m:=by
    have:=List.length_filter_le (fun j=>decide (0<j)&&decide (par L j=par L e)) (List.range m)
    rwa [List.length_range] at this
   have hs:=xT (fun j=>decide (0<j)&&decide (par L j=par L e)) m
   refine aT.L0_step ?_
   simp only [a_,hlt,decide_true,aa,ai,if_true,oD,rsh,rld,rix (show m<L.length by omega),rix he,w_,Ji,fh,decide_eq_true_eq]
   have nx:=ih (m+1) H (by omega) (by omega) (by omega)
   rw [hs] at nx
   split
   ·rename_i hp
    simp only [bF,aa]
    rw [bq (by omega)]
    refine aT.J1_step ?_
    simp only [bF,aa]
    rw [bq (by omega)]
    simpa [h0,hp] using nx
   ·rename_i hp
    refine aT.J1_step ?_
    simp only [bF,aa]
    rw [bq (by omega)]
    simpa [h0,hp] using nx
 by_cases h0:e=0
 ·subst h0
  refine aT.L0_step ?_
  have:¬ ((1:Int)<((0:Nat):Int)):=by omega
  simp only [a_,this,decide_false,aa,ai,Bool.false_eq_true,if_false]
  exact hK _
 ·exact L0 _ 1 _ rfl (by omega) (by omega)
theorem mY (L:List Nd) (d:List Nat) (hN:L.length≤4096) {e:Nat} (he:e<L.length) (H:Hp):au Tryz.prog σ dj [dl L d,I (e:Int)] H (I (dA L e)) H:=by
 refine bg (fun K hK=>ce.run (ak (uf L d he _) ?_)) (by simp [aK,dC,bt]) rfl H
 simp only [eM,aa,Bool.not_true,ai,Bool.false_eq_true,if_false,fh,decide_eq_true_eq]
 have L0:∀ (m:Nat) (H:Hp),m<e→(∀ H,K (I (qu ((List.range (m+1)).filter fun j=>decide (0<j)&&decide (par L j=par L e)))) H)→ce.L0 σ K (dl L d) (I (e:Int)) (I (m:Int)) H:=by
  intro m
  induction m with
  | zero =>
   intro H hm hK
   refine ce.L0_step ?_
   simp only [eI,Int.natCast_zero,Int.lt_irrefl,decide_false,aa,ai,Bool.false_eq_true,if_false]
   exact hK _
  | succ m ih =>
   intro H hm hK
   have h0:(0:Int)<((m+1:Nat):Int):=by omega
   have hs:=xT (fun j=>decide (0<j)&&decide (par L j=par L e)) (m+1)
   rw [hs] at hK
   refine ce.L0_step ?_
   simp only [eI,h0,decide_true,aa,ai,if_true,oD,rsh,rld,rix (show m+1<L.length by omega),rix he,w_,Ji,fh,decide_eq_true_eq]
   split
   ·rename_i hp
    have:=hK H
    simpa [hp,qu] using this
   ·rename_i hp
    have e1:wr .i64 (((m+1:Nat):Int) - 1)=(m:Int):=by rw [cM (by omega) (by omega)]; omega
    simp only [ki,aa,e1]
    exact ih H (by omega) fun H=>by simpa [hp] using hK H
 by_cases h0:e=0
 ·subst h0
  simp only [Int.natCast_zero,if_true]
  exact hK _
 ·have h0':¬ ((e:Int)=0):=by omega
  have e1:wr .i64 ((e:Int) - 1)=((e - 1:Nat):Int):=by rw [cM (by omega) (by omega)]; omega
  simp only [h0',if_false,ki,aa,e1]
  refine L0 (e - 1) _ (by omega) fun H=>?_
  rw [show e - 1+1=e by omega]
  exact hK H
end Go.Proofs.YthdcghnjndhecaaGreat.Ev
namespace Go.Proofs.YthdcghnjndhecaaGreat.Ev
set_option linter.unusedVariables false
set_option linter.unusedSimpArgs false
variable {σ:Sig}
theorem v_ (L:List Nd) (p a:Nat):∀ (n:Nat),(fe L a p).length≤(fe L (a+n) p).length
 | 0=>Nat.le_refl _
 | n+1=>by
  rw [← Nat.add_assoc,iM]
  simp only [List.length_append]
  have:=v_ L p a n
  omega
theorem vK {L:List Nd} {p a:Nat}:∀ (n:Nat),(∀ i,a≤i→i<a+n→par L i≠p)→fe L (a+n) p=fe L a p
 | 0,_=>rfl
 | n+1,h=>by
  rw [← Nat.add_assoc,iM,vK n fun i h1 h2=>h i h1 (by omega),if_neg (fun hh=>h (a+n) (by omega) (by omega) hh.2)]
  simp
theorem CA {L:List Nd} {p a b i:Nat} (h0:0<i) (h1:a≤i) (h2:i<b) (hp:par L i=p):(fe L a p).length<(fe L b p).length:=by
 have e1:=v_ L p a (i - a)
 have e2:=v_ L p (i+1) (b - (i+1))
 rw [show a+(i - a)=i by omega] at e1
 rw [show i+1+(b - (i+1))=b by omega,iM,if_pos ⟨h0,hp⟩] at e2
 simp only [List.length_append,List.length_cons,List.length_nil] at e2
 omega
theorem vJ {L:List Nd} {d:List Nat} (hB:cQ L L.length d) {e:Nat} (he:e<L.length) (h0:0<e):∃ p:Nat,par L e=p∧nZ L e=decide ((fe L L.length p).length≤(fe L (e+1) p).length):=by
 rcases ma hB he with h | ⟨p,hp,hlt⟩
 ·obtain ⟨p,x,h1,_⟩:=hB.step e h0 he
  omega
 ·refine ⟨p,hp,?_⟩
  have hk:fe L (e+1) p=qg L e++[e]:=by rw [iM,if_pos ⟨h0,hp⟩,qN hp]
  have hpl:(dq L e).toNat=(fe L (e+1) p).length:=by
   rw [hk]
   unfold dq
   simp only [List.length_append,List.length_cons,List.length_nil]
   omega
  unfold nZ
  rw [hp,Int.toNat_natCast,hpl]
  have hn:¬ ((p:Int)<0):=by omega
  simp only [hn,decide_false,Bool.false_or]
  unfold nX
  by_cases hle:(fe L L.length p).length≤(fe L (e+1) p).length
  ·rw [List.getElem?_eq_none hle]
   simp [hle]
  ·rw [List.getElem?_eq_getElem (by omega)]
   simp only [hle,decide_false]
   simp only [decide_eq_false_iff_not]
   omega
theorem tV {L:List Nd} {d:List Nat} (hB:cQ L L.length d) (h:0<L.length):nZ L 0=true:=by
 unfold nZ
 rw [(hB.root h).1]
 rfl
theorem yU {L:List Nd} {d:List Nat} (hB:cQ L L.length d) {e i:Nat} (h0:0<e) (h1:e<i) (h2:i<L.length) (hp:par L i=par L e):nZ L e=false:=by
 obtain ⟨p,hpe,hl⟩:=vJ hB (show e<L.length by omega) h0
 rw [hl]
 have:=CA (L:=L) (p:=p) (a:=e+1) (b:=L.length) (i:=i) (by omega) (by omega) h2 (by rw [hp,hpe])
 simp only [decide_eq_false_iff_not]
 omega
theorem Ah {L:List Nd} {d:List Nat} (hB:cQ L L.length d) {e:Nat} (h0:0<e) (he:e<L.length) (h:∀ i,e<i→i<L.length→par L i≠par L e):nZ L e=true:=by
 obtain ⟨p,hpe,hl⟩:=vJ hB he h0
 rw [hl]
 have:=vK (L:=L) (p:=p) (a:=e+1) (L.length - (e+1)) fun i h1 h2=>by rw [← hpe]; exact h i (by omega) (by omega)
 rw [show e+1+(L.length - (e+1))=L.length by omega] at this
 rw [this]
 simp
theorem yj (L:List Nd) (d:List Nat) (hB:cQ L L.length d) (hN:L.length≤4096) {e:Nat} (he:e<L.length) (H:Hp):au Tryz.prog σ fH [dl L d,I (e:Int)] H (Bo (nZ L e)) H:=by
 refine bg (fun K hK=>cw.run ?_) (by simp [aK,dC,bt]) rfl H
 have L0:∀ (k m:Nat) (H:Hp),L.length - m=k→e<m→m≤L.length→(∀ i,e<i→i<m→par L i≠par L e)→cw.L0 σ K (dl L d) (I (e:Int)) (I (m:Int)) H:=by
  intro k
  induction k with
  | zero =>
   intro m H hk h1 hm hall
   have:m=L.length:=by omega
   subst this
   refine cw.L0_step ?_
   simp only [eI,aa,ai,decide_eq_true_eq,oD,rsh,rld,BA,a_,Int.lt_irrefl,if_false]
   split
   ·rename_i h0
    have:=hK H
    rwa [Ah hB (by omega) he hall] at this
   ·rename_i h0
    have:e=0:=by omega
    subst this
    have:=hK H
    rwa [tV hB he] at this
  | succ k ih =>
   intro m H hk h1 hm hall
   have hlt:(m:Int)<L.length:=by omega
   refine cw.L0_step ?_
   simp only [eI,aa,ai,decide_eq_true_eq,oD,rsh,rld,BA,a_,hlt,if_true,rix (show m<L.length by omega),rix he,w_,Ji,fh]
   split
   ·rename_i h0
    split
    ·rename_i hp
     have:=hK H
     rwa [yU hB (by omega) h1 (by omega) hp] at this
    ·rename_i hp
     simp only [bF,aa]
     rw [bq (by omega)]
     refine ih (m+1) H (by omega) (by omega) (by omega) fun i hi1 hi2=>?_
     by_cases him:i<m
     ·exact hall i hi1 him
     ·have:i=m:=by omega
      rw [this]; exact hp
   ·rename_i h0
    have:e=0:=by omega
    subst this
    have:=hK H
    rwa [tV hB he] at this
 simp only [bF,aa]
 rw [bq (by omega)]
 exact L0 _ (e+1) _ rfl (by omega) (by omega) fun i h1 h2=>by omega
theorem vS (L:List Nd) (d:List Nat) (hB:cQ L L.length d) (hN:L.length≤4096) {e:Nat} (he:e<L.length) (H:Hp):au Tryz.prog σ dQ [dl L d,I (e:Int)] H (mv (fe L L.length e)) H:=by
 obtain ⟨Q,hQ⟩:∃ Q:AV→Hp→Prop,∀ r H1,Q r H1 ↔ Gs 1 H1 r ((fe L L.length e).map qL):=⟨_,fun _ _=>Iff.rfl⟩
 have run:∃ r H1,au Tryz.prog σ dQ [dl L d,I (e:Int)] Hp.empty r H1∧Q r H1:=by
  refine aJ.run ?_
  have L0:∀ (k m:Nat) (H:Hp) (y5:AV),L.length - m=k→e<m→m≤L.length→Gs 1 H y5 ((fe L m e).map qL)→aJ.L0 σ Q (dl L d) (I (e:Int)) y5 (I (m:Int)) H:=by
   intro k
   induction k with
   | zero =>
    intro m H y5 hk h1 hm hg
    have:m=L.length:=by omega
    subst this
    refine aJ.L0_step (ak (uf L d he _) ?_)
    simp only [aa,ai,oD,rsh,rld,BA,a_,Int.lt_irrefl,decide_false,Bool.false_eq_true,if_false,if_true]
    exact (hQ _ _).2 hg
   | succ k ih =>
    intro m H y5 hk h1 hm hg
    have hlt:(m:Int)<L.length:=by omega
    have hkl:(fe L m e).length≤m:=by
     have:=List.length_filter_le (fun j=>decide (0<j)&&decide (par L j=e)) (List.range m)
     rwa [List.length_range] at this
    have hs:=iM L m e
    refine aJ.L0_step (ak (uf L d he _) ?_)
    simp only [aa,ai,oD,rsh,rld,BA,a_,hlt,decide_true,if_true,rix (show m<L.length by omega),w_,Ji,fh,decide_eq_true_eq]
    split
    ·rename_i hp
     rw [if_pos ⟨by omega,hp⟩] at hs
     refine fY (y:=I (m:Int)) hg rfl rfl rfl (by simp; omega) (by simp; omega) fun x' H' hg' _=>?_
     refine aJ.J1_step ?_
     simp only [bF,aa]
     rw [bq (by omega)]
     refine ih (m+1) H' x' (by omega) (by omega) (by omega) ?_
     rw [hs,List.map_append]
     exact hg'
    ·rename_i hp
     rw [if_neg (fun h=>hp h.2),List.append_nil] at hs
     refine aJ.J1_step ?_
     simp only [bF,aa]
     rw [bq (by omega)]
     refine ih (m+1) H y5 (by omega) (by omega) (by omega) ?_
     rw [hs]
     exact hg
  simp only [bF,aa]
  rw [bq (by omega)]
  refine L0 _ (e+1) _ _ rfl (by omega) (by omega) ?_
  rw [AT hB (by omega) (Nat.le_refl _)]
  exact .nil
 obtain ⟨r,H1,hg,hr⟩:=run
 rw [hQ] at hr
 exact hg.frzR (by simp [aK,dC,bt]) (hr.fz (bC _ (fun _=>rfl) _)) H
end Go.Proofs.YthdcghnjndhecaaGreat.Ev
namespace Go.Proofs.YthdcghnjndhecaaGreat.Ev
set_option linter.unusedVariables false
set_option linter.unusedSimpArgs false
variable {σ:Sig}
theorem FX (c:UInt8) (H:Hp):au Tryz.prog σ ku [.lit (.int .u8 c.toNat)] H (Bo (wht c)) H:=by
  refine bg (fun K hK=>pB.run ?_) (by simp [aK,bt]) rfl H
  have hK:=hK Hp.empty
  simp only [fh,aa,ai,decide_eq_true_eq]
  split
  · rename_i h
    rwa [show wht c = true by have : c.toNat = 9 := by omega
                              simp [wht,this]] at hK
  rename_i h9
  split
  · rename_i h
    rwa [show wht c = true by have : c.toNat = 10 := by omega
                              simp [wht,this]] at hK
  rename_i h10
  split
  · rename_i h
    rwa [show wht c = true by have : c.toNat = 12 := by omega
                              simp [wht,this]] at hK
  rename_i h12
  split
  · rename_i h
    rwa [show wht c = true by have : c.toNat = 13 := by omega
                              simp [wht,this]] at hK
  rename_i h13
  have e:wht c=decide ((c.toNat:Int)=32):=by
    have a9:¬ c.toNat=9:=by omega
    have a10:¬ c.toNat=10:=by omega
    have a12:¬ c.toNat=12:=by omega
    have a13:¬ c.toNat=13:=by omega
    by_cases h:c.toNat=32
    · simp [wht,h]
    · have h':¬ ((c.toNat:Int)=32):=by omega
      simp [wht,a9,a10,a12,a13,h,h']
  rwa [e] at hK
theorem va (s p:ByteArray) (H:Hp):au Tryz.prog σ ir [Sx s,Sx p] H (Bo (vP (tl s) (tl p))) H:=by
 refine bg (fun K hK=>ot.run ?_) (by simp [aK,bt]) rfl H
 simp only [fN,aa,im,ai,decide_eq_true_eq]
 split
 ·rename_i h
  rw [wx (by omega),aa]
  simp only [ml,aa]
  have:=w9 (tl s) (tl p) (by rw [cS,cS]; omega)
  rw [cS,pj] at this
  rw [this]
  exact hK _
 ·rename_i h
  have:=xE (s:=tl s) (p:=tl p) (by rw [cS,cS]; omega)
  rw [this] at hK
  exact hK _
theorem LK (s p:ByteArray) (hs:s.data.size<9000000000000000000) (H:Hp):au Tryz.prog σ lA [Sx s,Sx p] H (Bo (yD (tl s) (tl p))) H:=by
 refine bg (fun K hK=>rk.run ?_) (by simp [aK,bt]) rfl H
 simp only [fN,aa,im,ai,decide_eq_true_eq]
 split
 ·rename_i h
  simp only [ki,aa]
  have e:wr .i64 ((s.data.size:Int) - p.data.size)=((s.data.size - p.data.size:Nat):Int):=by rw [cM (by omega) (by omega)]; omega
  rw [e,wq (by omega),aa]
  simp only [ml,aa]
  have:=yA (tl s) (tl p) (by rw [cS,cS]; omega)
  rw [cS,cS,pj] at this
  rw [this]
  exact hK _
 ·rename_i h
  have:=w7 (s:=tl s) (p:=tl p) (by rw [cS,cS]; omega)
  rw [this] at hK
  exact hK _
theorem N_ {l:List ByteArray} (hl:l.length≤reachBytes) {s:ByteArray} {K:AV→Hp→Prop}:∀ (m k:Nat) (H:Hp),l.length - m=k→m≤l.length→(∀ H,K (Bo (j6 (l.drop m) s)) H)→fB.L0 σ K (cG l) (Sx s) (I m) H:=by
 intro m k
 revert m
 induction k with
 | zero =>
  intro m H hk hm hK
  have:m=l.length:=by omega
  subst this
  refine fB.L0_step ?_
  simp [cG]
  simpa [j6] using hK H
 | succ k ih =>
  intro m H hk hm hK
  have hlt:m<l.length:=by omega
  obtain ⟨x,hx⟩:=bp hlt
  rw [bK hx] at hK
  refine fB.L0_step ?_
  simp [cG,hlt,bm hx]
  split
  ·rename_i h
   have:=hK H
   simpa [j6,h] using this
  ·rename_i h
   rw [cn hlt hl (by decide)]
   refine ih (m+1) H (by omega) (by omega) fun H'=>?_
   have:=hK H'
   simpa [j6,h] using this
theorem Au (l:List ByteArray) (hl:l.length≤reachBytes) (s:ByteArray) (H:Hp):au Tryz.prog σ ld [cG l,Sx s] H (Bo (j6 l s)) H:=by
 refine bg (fun K hK=>fB.run ?_) (by simp [aK,bt]) rfl H
 exact N_ hl 0 _ _ rfl (Nat.zero_le _) (by simpa using hK)
theorem wi {p a b:Int} (hp:i64 p) (ha:i64 a) (hb:i64 b) (h0:a≠0) (H:Hp):au Tryz.prog σ iy [I p,I a,I b] H (Bo (uH p a b)) H:=by
 refine bg (fun K hK=>gG.run ?_) (by simp [aK,bt]) rfl H
 unfold i64 at hp ha hb
 unfold uH at hK
 rw [if_neg h0] at hK
 simp
 split
 ·rename_i h
  subst h
  split at hK
  ·simpa using hK _
  ·simpa using hK _
 rename_i hne
 by_cases hb':b<p<;>by_cases h3:0<a
 ·simp only [hb',h3,decide_true,not_true,if_true,if_false]
  have h2:¬ (a<0):=by omega
  rw [if_pos h3] at hK
  have e1:wr .u64 a=a:=EW (by omega) (by omega)
  have e2:(p - b) % 18446744073709551616=p - b:=by omega
  rw [if_neg h2]
  rw [Mq,e1,e2]
  refine gG.J0_step ?_
  rw [o7 _ _ _ h0,aa,fh,aa]
  have e3:(p - b).tmod a=(p - b) % a:=Int.tmod_eq_emod_of_nonneg (by omega)
  rw [e3]
  have h5:b≤p:=by omega
  simpa [h5] using hK Hp.empty
 ·have hbp:¬ (p≤b):=by omega
  rw [if_neg h3] at hK
  simp [hb',h3]
  simpa [hbp] using hK Hp.empty
 ·have hbp:¬ (b≤p):=by omega
  rw [if_pos h3] at hK
  simp [hb',h3]
  simpa [hbp] using hK Hp.empty
 ·simp only [hb',h3,decide_false,not_true,if_true,if_false]
  have h2:a<0:=by omega
  rw [if_neg h3] at hK
  have e1:wr .u64 (-wr .u64 a)=-a:=by rw [wrU,wrU]; omega
  have e2:(b - p) % 18446744073709551616=b - p:=by omega
  have h3':(-a)≠0:=by omega
  rw [if_pos h2]
  rw [Mq,e2,e1]
  refine gG.J0_step ?_
  rw [o7 _ _ _ h3',aa,fh,aa]
  have e3:(b - p).tmod (-a)=(b - p) % (-a):=Int.tmod_eq_emod_of_nonneg (by omega)
  rw [e3]
  have h5:p≤b:=by omega
  simpa [h5] using hK Hp.empty
theorem TA {p a b:Int} (h0:a≠0):uH p a b=(decide ((p - b).tmod a=0)&&decide (0≤(p - b).tdiv a)):=by
 unfold uH
 rw [if_neg h0]
 by_cases hdv:a ∣ p - b
 ·obtain ⟨q,hq⟩:=hdv
  have e1:(p - b).tmod a=0:=Int.tmod_eq_zero_of_dvd ⟨q,hq⟩
  have e2:(p - b).tdiv a=q:=by rw [hq]; exact Int.mul_tdiv_cancel_left q h0
  have e3:(p - b) % a=0:=Int.emod_eq_zero_of_dvd ⟨q,hq⟩
  have e4:(b - p) % (-a)=0:=Int.emod_eq_zero_of_dvd ⟨q,by rw [Int.neg_mul,← hq]; omega⟩
  rw [e1,e2,e3,e4]
  simp only [decide_true,Bool.and_true,Bool.true_and]
  split
  ·rename_i h
   by_cases h2:0≤q
   ·have:=Int.mul_nonneg (by omega:0≤a) h2
    simp [h2]; omega
   ·have:=Int.mul_neg_of_pos_of_neg h (by omega:q<0)
    simp [h2]; omega
  ·rename_i h
   by_cases h2:0≤q
   ·have:=Int.mul_nonneg (by omega:0≤-a) h2
    rw [Int.neg_mul] at this
    simp [h2]; omega
   ·have:=Int.mul_neg_of_pos_of_neg (by omega:0 < -a) (by omega:q<0)
    rw [Int.neg_mul] at this
    simp [h2]; omega
 ·have e1:¬ ((p - b).tmod a=0):=fun h=>hdv (Int.dvd_of_tmod_eq_zero h)
  have e3:¬ ((p - b) % a=0):=fun h=>hdv (Int.dvd_of_emod_eq_zero h)
  have e4:¬ ((b - p) % (-a)=0):=fun h=>hdv (by
   obtain ⟨q,hq⟩:=Int.dvd_of_emod_eq_zero h
   exact ⟨q,by rw [Int.neg_mul] at hq; omega⟩)
  have e5:¬ ((b - p) % a=0):=fun h=>e4 (by rw [Int.emod_neg]; exact h)
  simp [e1,e3,e5]
theorem Nm {p a b:Int} (hp:0≤p∧p≤5000) (ha:i64 a) (hb:i64 b) (H:Hp):au Tryz.prog σ mK [I p,I a,I b] H (Bo (uH p a b)) H:=by
 refine bg (fun K hK=>tf.run ?_) (by simp [aK,bt]) rfl H
 have hp64:i64 p:=⟨by omega,by omega⟩
 simp only [fh,aa,ai,decide_eq_true_eq,eI,a_]
 split
 ·rename_i h
  have:=hK Hp.empty
  rwa [show uH p a b=decide (p=b) by unfold uH; rw [if_pos h]] at this
 rename_i h0
 split
 ·exact ak (wi hp64 ha hb h0 _) (hK _)
 rename_i h1
 split
 ·exact ak (wi hp64 ha hb h0 _) (hK _)
 rename_i h2
 split
 ·exact ak (wi hp64 ha hb h0 _) (hK _)
 rename_i h3
 split
 ·exact ak (wi hp64 ha hb h0 _) (hK _)
 rename_i h4
 have e1:wr .i64 (p - b)=p - b:=by rw [cM (by omega) (by omega)]
 have hq:wr .i64 ((p - b).tdiv a)=(p - b).tdiv a:=by
  have hn:((p - b).tdiv a).natAbs≤(p - b).natAbs:=by
   rw [Int.natAbs_tdiv]
   exact Nat.div_le_self _ _
  rw [cM (by omega) (by omega)]
 simp only [ki,aa,e1]
 rw [o7 _ _ _ h0,aa,fh,aa]
 have hK:=hK Hp.empty
 rw [TA h0] at hK
 simp only [ai,decide_eq_true_eq]
 split
 ·rename_i h5
  rw [xz _ _ _ h0,aa,hq]
  simpa [h5] using hK
 ·rename_i h5
  simpa [h5] using hK
end Go.Proofs.YthdcghnjndhecaaGreat.Ev
namespace Go.Proofs.YthdcghnjndhecaaGreat.Ev
set_option linter.unusedVariables false
set_option linter.unusedSimpArgs false
variable {σ:Sig}
theorem SF (s x:ByteArray) (hs:s.data.size<4294967281) (hx:x.data.size≤reachBytes) (h0:tl x≠[]) (H:Hp):au Tryz.prog σ oT [Sx s,Sx x] H (Bo (decide (0≤Go.Lib.index (tl s) (tl x)))) H:=by
 refine bg (fun K hK=>gR.run ?_) (by simp [aK,bt]) rfl H
 have hr:=eJ
 have L0:∀ (k m:Nat) (H:Hp),s.data.size+1 - m=k→m≤s.data.size+1→(∀ j,j<m→Go.Lib.occAt (tl s) (tl x) j=false)→gR.L0 σ K (Sx s) (Sx x) (I (m:Int)) H:=by
  intro k
  induction k with
  | zero =>
   intro m H hk hm hall
   have e1:wr .i64 ((m:Int)+(x.data.size:Int))=(m:Int)+x.data.size:=by rw [cM (by omega) (by omega)]
   refine gR.L0_step ?_
   have hn:¬ ((m:Int)+x.data.size≤s.data.size):=by omega
   simp only [fN,aa,bF,e1,qo,hn,decide_false,ai,Bool.false_eq_true,if_false]
   have:=Go.Lib.index_none (s:=tl s) (sub:=tl x) fun j hj=>hall j (by rw [cS] at hj; omega)
   rw [this] at hK
   exact hK _
  | succ k ih =>
   intro m H hk hm hall
   have e1:wr .i64 ((m:Int)+(x.data.size:Int))=((m+x.data.size:Nat):Int):=by rw [cM (by omega) (by omega)]; omega
   refine gR.L0_step ?_
   by_cases hle:m+x.data.size≤s.data.size
   ·have hle':((m+x.data.size:Nat):Int)≤(s.data.size:Int):=by omega
    simp only [fN,aa,bF,e1,qo,hle',decide_true,ai,if_true]
    rw [F6 (by omega) hle,aa]
    simp only [ml,aa,ai,decide_eq_true_eq]
    have ho:=Go.Lib.occAt_iff_take (tl s) (tl x) m (by rw [cS,cS]; exact hle)
    rw [show m+x.data.size - m=x.data.size by omega]
    rw [cS] at ho
    split
    ·rename_i h
     have h2:((tl s).drop m).take x.data.size=tl x:=by
      have:=congrArg tl h
      rwa [od] at this
     rw [h2] at ho
     have:=Go.Lib.index_first (s:=tl s) (sub:=tl x) (i:=m) (by rw [cS]; omega) (by rw [ho]; simp) hall
     rw [this] at hK
     simpa using hK H
    ·rename_i h
     have h2:¬ ((tl s).drop m).take x.data.size=tl x:=fun e=>h (by rw [e,pj])
     rw [bq (by omega)]
     refine ih (m+1) H (by omega) (by omega) fun j hj=>?_
     by_cases hjm:j<m
     ·exact hall j hjm
     ·have:j=m:=by omega
      subst this
      rw [ho]
      simpa using h2
   ·have hle':¬ ((m+x.data.size:Nat):Int)≤(s.data.size:Int):=by omega
    simp only [fN,aa,bF,e1,qo,hle',decide_false,ai,Bool.false_eq_true,if_false]
    have:=Go.Lib.index_none (s:=tl s) (sub:=tl x) fun j hj=>by
     by_cases hjm:j<m
     ·exact hall j hjm
     ·cases ho:Go.Lib.occAt (tl s) (tl x) j with
      | false=>rfl
      | true =>
       rcases Go.Lib.occAt_room ho with h | h
       ·rw [cS,cS] at h; omega
       ·exact absurd h h0
    rw [this] at hK
    exact hK _
 exact L0 _ 0 _ rfl (Nat.zero_le _) fun j hj=>by omega
theorem zN:∀ {l:List UInt8} {n:Nat},(∀ k,k<n→∃ c,l[k]?=some c∧wht c=false)→(∀ c,l[n]?=some c→wht c=true)→wl l=n
 | [],n,h,_=>by
  cases n with
  | zero=>rfl
  | succ n =>
   obtain ⟨c,hc,_⟩:=h 0 (by omega)
   simp at hc
 | c::l,0,_,h=>by
  have:=h c (by simp)
  simp [wl,List.takeWhile,nw,this]
 | c::l,n+1,h,h2=>by
  obtain ⟨c',hc,hw⟩:=h 0 (by omega)
  simp at hc
  subst hc
  have ih:=zN (l:=l) (n:=n) (fun k hk=>by
   obtain ⟨c',h1,h2⟩:=h (k+1) (by omega)
   exact ⟨c',by simpa using h1,h2⟩) fun c' hc'=>h2 c' (by simpa using hc')
  unfold wl at ih ⊢
  rw [List.takeWhile_cons]
  simp [nw,hw] at ih ⊢
  exact ih
def yw (w:List UInt8):List AV:=[Sx (mk w)]
theorem uZ (s:ByteArray) (hs:s.data.size<4294967281) (H:Hp):au Tryz.prog σ hO [Sx s] H (.imm 1 ((eH (tl s)).map yw)) H:=by
 obtain ⟨Q,hQ⟩:∃ Q:AV→Hp→Prop,∀ r H1,Q r H1 ↔ Gs 1 H1 r ((eH (tl s)).map yw):=⟨_,fun _ _=>Iff.rfl⟩
 have run:∃ r H1,au Tryz.prog σ hO [Sx s] Hp.empty r H1∧Q r H1:=by
  refine aV.run ?_
  have L0:∀ (k i fr:Nat) (H:Hp) (y3:AV) (out:List (List UInt8)),s.data.size+1 - i=k→i≤s.data.size+1→fr≤i→Gs 1 H y3 (out.map yw)→out.length≤fr→eH (tl s)=out++eH ((tl s).drop fr)→(∀ j,fr≤j→j<i→∃ c,(tl s)[j]?=some c∧wht c=false)→aV.L0 σ Q (Sx s) y3 (I (fr:Int)) (I (i:Int)) H:=by
   intro k
   induction k with
   | zero =>
    intro i fr H y3 out hk hi hfr hg ho hw hall
    have:i=s.data.size+1:=by omega
    subst this
    refine aV.L0_step ?_
    have hn:¬ (((s.data.size+1:Nat):Int)≤(s.data.size:Int)):=by omega
    simp only [fN,aa,qo,hn,decide_false,ai,Bool.false_eq_true,if_false]
    by_cases hf:fr≤s.data.size
    ·obtain ⟨c,hc,_⟩:=hall s.data.size hf (by omega)
     have:=(List.getElem?_eq_some_iff.1 hc).1
     rw [cS] at this
     omega
    ·rw [List.drop_eq_nil_of_le (by rw [cS]; omega),lj,List.append_nil] at hw
     rw [hQ,hw]
     exact hg
   | succ k ih =>
    intro i fr H y3 out hk hi hfr hg ho hw hall
    have hle:(i:Int)≤(s.data.size:Int):=by omega
    have fin:∀ (H:Hp),Gs 1 H y3 (out.map yw)→(∀ c,(tl s)[i]?=some c→wht c=true)→ifB (Bo (decide ((fr:Int)<(i:Int)))) (bnd (fM (Sx s) (some (I (fr:Int))) (some (I (i:Int)))) fun x6=>bnd (cj [.string ⟨#[]⟩] 1 1 H [(0,1,x6)]) fun p7=>bnd (eA false 1 16 p7.2 y3 p7.1) fun p8=>aV.J1 σ Q (Sx s) p8.1 (I (fr:Int)) (I (i:Int)) p8.2) (aV.J1 σ Q (Sx s) y3 (I (fr:Int)) (I (i:Int)) H):=by
     intro H hg hend
     have hwl:wl ((tl s).drop fr)=i - fr:=zN (fun k hk=>by
      rw [List.getElem?_drop]
      exact hall (fr+k) (by omega) (by omega)) fun c hc=>hend c (by
       rw [List.getElem?_drop] at hc
       rwa [show fr+(i - fr)=i by omega] at hc)
     simp only [ai,decide_eq_true_eq]
     split
     ·rename_i hlt
      have hlt':fr<i:=by omega
      have hne:(tl s).drop fr≠[]:=by
       intro e
       have:=congrArg List.length e
       rw [List.length_drop,cS,List.length_nil] at this
       omega
      have hwe:=mH hne
      rw [hwl,if_neg (by omega),List.drop_drop,show fr+(i - fr+1)=i+1 by omega] at hwe
      rw [F6 (by omega) (by omega),aa]
      refine fY (y:=Sx (mk (((tl s).drop fr).take (i - fr)))) hg rfl rfl rfl (by simp; omega) (by simp; omega) fun y3' H' hg' _=>?_
      refine aV.J1_step ?_
      simp only [bF,aa]
      rw [bq (by omega)]
      refine aV.J2_step ?_
      simp only [bF,aa]
      rw [bq (by omega)]
      refine ih (i+1) (i+1) H' y3' (out++[((tl s).drop fr).take (i - fr)]) (by omega) (by omega) (Nat.le_refl _) (by rw [List.map_append]; exact hg') (by simp; omega) ?_ fun j h1 h2=>by omega
      rw [hw,hwe]
      simp
     ·rename_i hlt
      have hfi:fr=i:=by omega
      subst hfi
      refine aV.J1_step ?_
      simp only [bF,aa]
      rw [bq (by omega)]
      refine aV.J2_step ?_
      simp only [bF,aa]
      rw [bq (by omega)]
      refine ih (fr+1) (fr+1) H y3 out (by omega) (by omega) (Nat.le_refl _) hg (by omega) ?_ fun j h1 h2=>by omega
      rw [hw]
      congr 1
      by_cases hne:(tl s).drop fr=[]
      ·have:(tl s).drop (fr+1)=[]:=by rw [← List.drop_drop,hne]; rfl
       rw [hne,this]
      ·rw [mH hne,hwl,if_pos (by omega),List.drop_drop]
    refine aV.L0_step ?_
    simp only [fN,aa,qo,hle,decide_true,ai,if_true,fh,decide_eq_true_eq,eI]
    split
    ·rename_i he
     have he':i=s.data.size:=by omega
     have:=fin H hg fun c hc=>by
      have:=(List.getElem?_eq_some_iff.1 hc).1
      rw [cS] at this
      omega
     simpa only [ai,decide_eq_true_eq] using this
    ·rename_i he
     have hlt:i<(tl s).length:=by rw [cS]; omega
     obtain ⟨c,hc⟩:=bp hlt
     rw [yX hc,aa]
     refine ak (FX c _) ?_
     simp only [ai]
     cases hwc:wht c with
     | true =>
      have:=fin H hg fun c' hc'=>by rw [hc] at hc'; cases hc'; exact hwc
      simpa only [ai,decide_eq_true_eq,if_true] using this
     | false =>
      simp only [Bool.false_eq_true,if_false]
      refine aV.J2_step ?_
      simp only [bF,aa]
      rw [bq (by omega)]
      refine ih (i+1) fr H y3 out (by omega) (by omega) (by omega) hg ho hw fun j h1 h2=>?_
      by_cases hj:j<i
      ·exact hall j h1 hj
      ·have:j=i:=by omega
       subst this
       exact ⟨c,hc,hwc⟩
  exact L0 _ 0 0 _ _ [] rfl (Nat.zero_le _) (Nat.le_refl _) .nil (Nat.le_refl _) (by simp) fun j h1 h2=>by omega
 obtain ⟨r,H1,hg,hr⟩:=run
 rw [hQ] at hr
 exact hg.frzR (by simp [aK,bt]) (hr.fz (bC _ (fun _=>rfl) _)) H
end Go.Proofs.YthdcghnjndhecaaGreat.Ev
namespace Go.Proofs.YthdcghnjndhecaaGreat.Ev
set_option linter.unusedVariables false
set_option linter.unusedSimpArgs false
variable {σ:Sig}
theorem oV:∀ (n:Nat) (l:List UInt8),l.length≤n→(eH l).length≤l.length∧∀ w ∈ eH l,w≠[]∧∀ c ∈ w,wht c=false
 | 0,l,h=>by
  have:l=[]:=List.length_eq_zero_iff.1 (by omega)
  subst this
  rw [lj]
  exact ⟨Nat.le_refl _,fun w hw=>by cases hw⟩
 | n+1,l,h=>by
  by_cases hl:l=[]
  ·subst hl
   rw [lj]
   exact ⟨Nat.le_refl _,fun w hw=>by cases hw⟩
  ·have hpos:=List.length_pos_iff.2 hl
   rw [mH hl]
   split
   ·obtain ⟨h1,h2⟩:=oV n (l.drop 1) (by rw [List.length_drop]; omega)
    rw [List.length_drop] at h1
    exact ⟨by omega,h2⟩
   ·rename_i hw
    obtain ⟨h1,h2⟩:=oV n (l.drop (wl l+1)) (by rw [List.length_drop]; omega)
    rw [List.length_drop] at h1
    refine ⟨by rw [List.length_cons]; omega,fun w hm=>?_⟩
    rcases List.mem_cons.1 hm with rfl | hm
    ·refine ⟨fun e=>?_,fun c hc=>?_⟩
     ·have:=congrArg List.length e
      rw [List.length_take,List.length_nil] at this
      have:=Jl l
      omega
     ·obtain ⟨i,hi⟩:=List.getElem?_of_mem hc
      rw [List.getElem?_take] at hi
      split at hi
      ·rename_i hlt
       obtain ⟨c',h3,h4⟩:=KG hlt
       rw [h3] at hi
       cases hi
       exact h4
      ·cases hi
    ·exact h2 w hm
theorem BH {w:List UInt8} (h0:w≠[]) (h:∀ c ∈ w,wht c=false):eH w=[w]:=by
 have hpos:=List.length_pos_iff.2 h0
 have hwl:wl w=w.length:=zN (fun k hk=>⟨w[k],List.getElem?_eq_getElem hk,h _ (List.getElem_mem hk)⟩) fun c hc=>by
  have:=(List.getElem?_eq_some_iff.1 hc).1
  omega
 rw [mH h0,hwl,if_neg (by omega),List.take_length,List.drop_eq_nil_of_le (by omega),lj]
theorem Ob (s t:ByteArray):(match eH (tl t) with | [w]=>decide (mk w=t)&&j6 ((eH (tl s)).map mk) t | _=>false)=(!decide (t=emp)&&pc s t):=by
 have hin:j6 ((eH (tl s)).map mk) t=pc s t:=by
  unfold j6 pc
  rw [Bool.eq_iff_iff,List.any_eq_true,decide_eq_true_eq]
  constructor
  ·rintro ⟨x,hx,hd⟩
   obtain ⟨w,hw,rfl⟩:=List.mem_map.1 hx
   rw [decide_eq_true_eq] at hd
   rw [← hd,od]
   exact hw
  ·exact fun h=>⟨t,List.mem_map.2 ⟨tl t,h,pj t⟩,by simp⟩
 rw [hin]
 by_cases hw:tl t ∈ eH (tl s)
 ·obtain ⟨h1,h2⟩:=(oV _ (tl s) (Nat.le_refl _)).2 _ hw
  rw [BH h1 h2]
  have:t≠emp:=fun e=>h1 (by rw [e]; rfl)
  simp [pj,this]
 ·have:pc s t=false:=by unfold pc; simpa using hw
  rw [this]
  split<;>simp
theorem Ag (l:List (List UInt8)):(.imm 1 (l.map yw):AV)=cG (l.map mk):=by unfold cG; rw [List.map_map]; rfl
theorem Gy {n:Nd} (hl:n.attrs.length≤reachBytes) (ht:∀ p ∈ n.attrs,p.2.data.size<4294967281) {a:At} (ha:a.text.data.size<4294967281) {K:AV→Hp→Prop} {b2 b3:Nat}:∀ (k m:Nat) (H:Hp),n.attrs.length - m=k→m≤n.attrs.length→H.get b2=some (.cells (aY n) true)→H.get b3=some (.cells (dS a) true)→(∀ H,K (Bo (fL (n.attrs.drop m) a)) H)→eB.L0 σ K (.ptr b2 0) (.ptr b3 0) (I (m:Int)) H:=by
 have hre:=eJ
 intro k
 induction k with
 | zero =>
  intro m H hk hm h2 h3 hK
  have:m=n.attrs.length:=by omega
  subst this
  have c2:ldA false 1 H (.ptr b2 4)=some (.imm 2 (n.attrs.map cF)):=by simp [h2,aY]
  refine eB.L0_step ?_
  simp only [bu,Nat.zero_add,aa,c2,bW,List.length_map,a_,Int.lt_irrefl,decide_false,ai,Bool.false_eq_true,if_false]
  simpa [fL] using hK H
 | succ k ih =>
  intro m H hk hm h2 h3 hK
  have hlt:m<n.attrs.length:=by omega
  obtain ⟨x,hx⟩:=bp hlt
  have hxl:=ht x (List.mem_of_getElem? hx)
  rw [bK hx] at hK
  have h1:(m:Int)<n.attrs.length:=by omega
  have c2:ldA false 1 H (.ptr b2 4)=some (.imm 2 (n.attrs.map cF)):=by simp [h2,aY]
  have d0:ldA false 1 H (.ptr b3 0)=some (Sx a.name):=by simp [h3]
  have d1:ldA false 1 H (.ptr b3 1)=some (I a.op):=by simp [h3]
  have d2:ldA false 1 H (.ptr b3 2)=some (Sx a.text):=by simp [h3,dS]
  have s0:ae (.ip (cF x)) 0=some (.ip (cF x)):=rfl
  have s1:ae (.ip (cF x)) 1=some (.ip [Sx x.2]):=rfl
  have l0:ldA false 1 H (.ip (cF x))=some (Sx x.1):=rfl
  have l1:ldA false 1 H (.ip [Sx x.2])=some (Sx x.2):=rfl
  refine eB.L0_step ?_
  simp only [bu,Nat.zero_add,aa,c2,bW,List.length_map,a_,h1,decide_true,ai,if_true,bm hx,s0,s1,l0,l1,d0,d1,d2,nv,fh,ml,decide_eq_true_eq]
  by_cases hn:x.1=a.name
  ·have hat:fL (x::n.attrs.drop (m+1)) a=soB x.2 a:=by simp [fL,hn]
   rw [hat] at hK
   simp only [hn,decide_true,Bool.not_true,Bool.false_eq_true,if_false]
   unfold soB at hK
   split
   ·rename_i h; simp only [h,if_true] at hK; exact hK _
   rename_i h0
   simp only [h0,if_false] at hK
   split
   ·rename_i h; simp only [h,if_true] at hK; exact hK _
   rename_i h1
   simp only [h1,if_false] at hK
   split
   ·rename_i h
    simp only [h,if_true] at hK
    rw [← Ob] at hK
    refine ak (uZ a.text ha _) ?_
    rw [bW,aa,fh,aa,List.length_map]
    simp only [ai,decide_eq_true_eq]
    split
    ·rename_i hl1
     obtain ⟨w,hw⟩:∃ w,eH (tl a.text)=[w]:=List.length_eq_one_iff.1 (by omega)
     rw [hw] at hK
     have hix:az 1 (.imm 1 ((eH (tl a.text)).map yw)) (I 0)=some (.ip (yw w)):=by
      have:(eH (tl a.text))[(0:Nat)]?=some w:=by rw [hw]; rfl
      exact bm this
     have hlw:ldA false 1 H (.ip (yw w))=some (Sx (mk w)):=rfl
     rw [hix,aa,hlw,aa,d2,aa,ml,aa]
     simp only [ai,decide_eq_true_eq]
     split
     ·rename_i hq
      refine ak (uZ x.2 hxl _) ⟨rfl,?_⟩
      rw [d2,aa,Ag]
      have hlen:=(oV _ (tl x.2) (Nat.le_refl _)).1
      rw [cS] at hlen
      refine ak (Au _ (by rw [List.length_map]; omega) _ _) ?_
      simpa [hq] using hK H
     ·rename_i hq
      simpa [hq] using hK H
    ·rename_i hl1
     have:∀ b:List UInt8→Bool,(match eH (tl a.text) with | [w]=>b w | _=>false)=false:=fun b=>by
      split
      ·rename_i w hw; rw [hw] at hl1; simp at hl1
      ·rfl
     rw [this] at hK
     exact hK _
   rename_i h2'
   simp only [h2',if_false] at hK
   split
   ·rename_i h
    simp only [h,if_true] at hK
    split
    ·rename_i he
     simp [he] at hK
     exact hK _
    ·rename_i he
     simp [he] at hK
     rw [HY (by show a.text.data.size+1≤_; omega),aa]
     refine ak (va _ _ _) ?_
     rw [od]
     exact hK _
   rename_i h3'
   simp only [h3',if_false] at hK
   split
   ·rename_i h
    simp only [h,if_true] at hK
    by_cases he:a.text=emp
    ·have he':a.text=⟨#[]⟩:=he
     simp [he'] at hK ⊢
     simpa [emp] using hK H
    ·have he':¬ (a.text=⟨#[]⟩):=he
     simp [he'] at hK ⊢
     refine ak (va _ _ _) ?_
     simpa [he] using hK H
   rename_i h4'
   simp only [h4',if_false] at hK
   split
   ·rename_i h
    simp only [h,if_true] at hK
    by_cases he:a.text=emp
    ·have he':a.text=⟨#[]⟩:=he
     simp [he'] at hK ⊢
     simpa [emp] using hK H
    ·have he':¬ (a.text=⟨#[]⟩):=he
     simp [he'] at hK ⊢
     refine ak (LK _ _ (by omega) _) ?_
     simpa [he] using hK H
   rename_i h5'
   simp only [h5',if_false] at hK
   split
   ·rename_i h
    simp only [h,if_true] at hK
    by_cases he:a.text=emp
    ·have he':a.text=⟨#[]⟩:=he
     simp [he'] at hK ⊢
     simpa [emp] using hK H
    ·have he':¬ (a.text=⟨#[]⟩):=he
     simp [he'] at hK ⊢
     refine ak (SF _ _ hxl (by omega) (fun e=>he (PB e)) _) ?_
     simpa [he] using hK H
   ·rename_i h
    simp only [h,if_false] at hK
    exact hK _
  ·have hat:fL (x::n.attrs.drop (m+1)) a=fL (n.attrs.drop (m+1)) a:=by simp [fL,hn]
   rw [hat] at hK
   simp only [hn,decide_false,Bool.not_false,if_true,bF,aa]
   rw [cn hlt hl (by decide)]
   exact ih (m+1) H (by omega) (by omega) h2 h3 hK
theorem HP (n:Nd) (hl:n.attrs.length≤reachBytes) (ht:∀ p ∈ n.attrs,p.2.data.size<4294967281) (a:At) (ha:a.text.data.size<4294967281) (H:Hp):au Tryz.prog σ lW [.agg (aY n),.agg (dS a)] H (Bo (fL n.attrs a)) H:=by
 refine bg (fun K hK=>eB.run ?_) (by simp [aK,bt,sS,iR]) rfl H
 simp only [cJ]
 exact Gy hl ht ha _ 0 _ rfl (Nat.zero_le _) (by simp) (by simp) (by simpa using hK)
end Go.Proofs.YthdcghnjndhecaaGreat.Ev
namespace Go.Proofs.YthdcghnjndhecaaGreat.Ev
set_option linter.unusedVariables false
set_option linter.unusedSimpArgs false
variable {σ:Sig}
theorem M9 {L:List Nd} {d:List Nat} (hB:cQ L L.length d) {e:Nat} (he:e<L.length):decide ((e:Int)=0)=decide (par L e<0):=by
 by_cases h0:e=0
 ·subst h0
  rw [(hB.root he).1]
  rfl
 ·obtain ⟨p,x,h1,_⟩:=hB.step e (by omega) he
  rw [h1]
  have a1:¬ ((e:Int)=0):=by omega
  have a2:¬ ((p:Int)<0):=by omega
  simp only [a1,a2]
theorem IZ (L:List Nd) (e:Nat):decide (((fe L L.length e).length:Int)=0)=decide (nX L e 0<0):=by
 unfold nX
 cases fe L L.length e with
 | nil=>rfl
 | cons x l =>
  have a1:¬ (((x::l).length:Int)=0):=by simp; omega
  have a2:¬ ((x:Int)<0):=by omega
  simp only [a1,decide_false,List.getElem?_cons_zero,a2]
theorem zF {L:List Nd} {d:List Nat} (hB:cQ L L.length d) (hN:L.length≤4096) {e:Nat} (he:e<L.length) {q:Ps} (hq:i64 q.a∧i64 q.b) {dp:Nat} (hd:dp≤100)
  (hA:(q.kind=7∨q.kind=8)→∀ H,au Tryz.prog σ d7 [dl L d,I (e:Int),sls q.list,I ((dp+1:Nat):Int)] H (Bo (AA L q.list e)) H) (H:Hp) :
  au Tryz.prog σ cA [dl L d,I (e:Int),.agg (bH q),I (dp:Int)] H (Bo (dK (AA L) L e q)) H:=by
 refine bg (fun K hK=>ci.run ?_) (by simp [aK,bt,dC,Bq]) rfl H
 have hpl:=uy L e
 obtain ⟨H1,hH1⟩:∃ H1,H1=Hp.empty.new (.cells (bH q) true):=⟨_,rfl⟩
 have hg:H1.get Hp.empty.n=some (.cells (bH q) true):=by rw [hH1]; simp
 simp only [cJ]
 rw [← hH1]
 generalize Hp.empty.n=b at hg
 have d0:ldA false 1 H1 (.ptr b 0)=some (I q.kind):=by simp [hg]
 have d1:ldA false 1 H1 (.ptr b 1)=some (I q.a):=by simp [hg]
 have d2:ldA false 1 H1 (.ptr b 2)=some (I q.b):=by simp [hg]
 have d3:ldA false 1 H1 (.ptr b 3)=some (sls q.list):=by simp [hg]; rfl
 simp only [bu,Nat.zero_add,aa,d0,d1,d2,fh,ai,decide_eq_true_eq]
 unfold dK at hK
 split
 ·rename_i h
  simp only [h,if_true] at hK
  rw [M9 hB he]
  exact hK _
 rename_i h1
 simp only [h1,if_false] at hK
 split
 ·rename_i h
  simp only [h,if_true] at hK
  refine ak (rh L d hN he _) ?_
  rw [fh,aa]
  exact hK _
 rename_i h2
 simp only [h2,if_false] at hK
 split
 ·rename_i h
  simp only [h,if_true] at hK
  exact ak (yj L d hB hN he _) (hK _)
 rename_i h3
 simp only [h3,if_false] at hK
 split
 ·rename_i h
  simp only [h,if_true] at hK
  refine ak (rh L d hN he _) ?_
  simp only [fh,aa,ai,decide_eq_true_eq]
  split
  ·rename_i hp
   refine ak (yj L d hB hN he _) ?_
   simpa [hp] using hK H1
  ·rename_i hp
   simpa [hp] using hK H1
 rename_i h4
 simp only [h4,if_false] at hK
 split
 ·rename_i h
  simp only [h,if_true] at hK
  refine ak (vS L d hB hN he _) ?_
  have:aG (mv (fe L L.length e))=some (I ((fe L L.length e).length:Int)):=by unfold mv; simp
  rw [this,aa,fh,aa,IZ]
  exact hK _
 rename_i h5
 simp only [h5,if_false] at hK
 split
 ·rename_i h
  simp only [h,if_true] at hK
  refine ak (rh L d hN he _) ⟨rfl,?_⟩
  rw [d1,aa]
  refine ⟨rfl,?_⟩
  rw [d2,aa]
  exact ak (Nm (by omega) hq.1 hq.2 _) (hK _)
 rename_i h6
 simp only [h6,if_false] at hK
 have J0:∀ c:Bool,(c=true ↔ (q.kind=7∨q.kind=8))→ci.J0 σ K (dl L d) (I (e:Int)) (I (dp:Int)) (.ptr b 0) (Bo c) H1:=by
  intro c hc
  refine ci.J0_step ?_
  simp only [ai]
  by_cases hk:q.kind=7∨q.kind=8
  ·rw [hc.2 hk]
   simp only [if_true,bu,Nat.zero_add,aa,d3,bF]
   rw [bq (by omega)]
   refine ak (hA hk _) ?_
   simp only [d0,aa,fh]
   by_cases h7:q.kind=7
   ·have h8:¬ (q.kind=8):=by omega
    simp only [h7,if_true] at hK
    have:=hK H1
    simp only [h8,decide_false]
    cases hb:AA L q.list e<;>simpa [hb] using this
   ·have h8:q.kind=8:=by omega
    simp only [h7,h8,if_false,if_true] at hK
    have:=hK H1
    simp only [h8,decide_true]
    cases hb:AA L q.list e<;>simpa [hb] using this
  ·have:c=false:=by
    cases c with
    | false=>rfl
    | true=>exact absurd (hc.1 rfl) hk
   subst this
   have h7:¬ (q.kind=7):=fun h=>hk (.inl h)
   have h8:¬ (q.kind=8):=fun h=>hk (.inr h)
   simp only [h7,h8,if_false] at hK
   simpa using hK H1
 split
 ·rename_i h
  exact J0 _ (by simp [h])
 ·rename_i h
  exact J0 _ (by simp [h])
end Go.Proofs.YthdcghnjndhecaaGreat.Ev
namespace Go.Proofs.YthdcghnjndhecaaGreat.Ev
set_option linter.unusedVariables false
set_option linter.unusedSimpArgs false
variable {σ:Sig}
section
variable {L:List Nd} {d:List Nat} {e:Nat} {c:Cp} {n:Nd} {dp:Nat} {b6 b9:Nat} {K:AV→Hp→Prop}
theorem SB (hps:c.pseudos.length≤reachBytes) (hP:∀ q ∈ c.pseudos,∀ H,au Tryz.prog σ cA [dl L d,I (e:Int),.agg (bH q),I (dp:Int)] H (Bo (dK (AA L) L e q)) H) {y10 y11 y12:AV}:∀ (k m:Nat) (H:Hp),c.pseudos.length - m=k→m≤c.pseudos.length→H.get b6=some (.cells (bU c) true)→(∀ H,K (Bo ((c.pseudos.drop m).all (dK (AA L) L e))) H) →
  ar.L3 σ K (dl L d) (I (e:Int)) (I (dp:Int)) (.ptr b6 0) (.ptr b9 0) y10 y11 y12 (I (m:Int)) H:=by
 intro k
 induction k with
 | zero =>
  intro m H hk hm h6 hK
  have:m=c.pseudos.length:=by omega
  subst this
  have d4:ldA false 1 H (.ptr b6 4)=some (.imm 4 (c.pseudos.map bH)):=by simp [h6]
  refine ar.L3_step ?_
  simp only [bu,Nat.zero_add,aa,d4,bW,List.length_map,a_,Int.lt_irrefl,decide_false,ai,Bool.false_eq_true,if_false]
  simpa using hK H
 | succ k ih =>
  intro m H hk hm h6 hK
  have hlt:m<c.pseudos.length:=by omega
  obtain ⟨q,hq⟩:=bp hlt
  rw [bK hq,List.all_cons] at hK
  have hlt':(m:Int)<c.pseudos.length:=by omega
  have d4:ldA false 1 H (.ptr b6 4)=some (.imm 4 (c.pseudos.map bH)):=by simp [h6]
  refine ar.L3_step ?_
  simp only [bu,Nat.zero_add,aa,d4,bW,List.length_map,a_,hlt',decide_true,ai,if_true,bm hq,dX,rj]
  refine ak (hP q (List.mem_of_getElem? hq) _) ?_
  simp only [eM,aa,ai]
  cases hb:dK (AA L) L e q with
  | false=>rw [hb] at hK; simpa using hK H
  | true =>
   rw [hb] at hK
   simp only [Bool.not_true,Bool.false_eq_true,if_false,bF,aa]
   rw [cn hlt hps (by decide)]
   exact ih (m+1) H (by omega) (by omega) h6 (by simpa using hK)
theorem SW (has:c.attrs.length≤reachBytes) (hps:c.pseudos.length≤reachBytes) (hn:SmN n) (ha:∀ a ∈ c.attrs,a.text.data.size<4294967281) (hP:∀ q ∈ c.pseudos,∀ H,au Tryz.prog σ cA [dl L d,I (e:Int),.agg (bH q),I (dp:Int)] H (Bo (dK (AA L) L e q)) H) {y10 y11 y14:AV}:∀ (k m:Nat) (H:Hp),c.attrs.length - m=k→m≤c.attrs.length→H.get b6=some (.cells (bU c) true)→H.get b9=some (.cells (aY n) true)→(∀ H,K (Bo ((c.attrs.drop m).all (fL n.attrs)&&c.pseudos.all (dK (AA L) L e))) H) →
  ar.L2 σ K (dl L d) (I (e:Int)) (I (dp:Int)) (.ptr b6 0) (.ptr b9 0) y10 y11 (I (m:Int)) y14 H:=by
 intro k
 induction k with
 | zero =>
  intro m H hk hm h6 h9 hK
  have:m=c.attrs.length:=by omega
  subst this
  have d3:ldA false 1 H (.ptr b6 3)=some (.imm 3 (c.attrs.map dS)):=by simp [h6]
  refine ar.L2_step ?_
  simp only [bu,Nat.zero_add,aa,d3,bW,List.length_map,a_,Int.lt_irrefl,decide_false,ai,Bool.false_eq_true,if_false]
  exact SB hps hP _ 0 H rfl (Nat.zero_le _) h6 (by simpa using hK)
 | succ k ih =>
  intro m H hk hm h6 h9 hK
  have hlt:m<c.attrs.length:=by omega
  obtain ⟨a,hq⟩:=bp hlt
  rw [bK hq,List.all_cons] at hK
  have hlt':(m:Int)<c.attrs.length:=by omega
  have d3:ldA false 1 H (.ptr b6 3)=some (.imm 3 (c.attrs.map dS)):=by simp [h6]
  have d9:ldA true 5 H (.ptr b9 0)=some (.agg (aY n)):=by simp only [aL,h9,aM,List.drop_zero,rM]
  refine ar.L2_step ?_
  simp only [bu,Nat.zero_add,aa,d3,d9,bW,List.length_map,a_,hlt',decide_true,ai,if_true,bm hq,dX,EA]
  refine ak (HP n hn.attrs hn.texts a (ha a (List.mem_of_getElem? hq)) _) ?_
  simp only [eM,aa,ai]
  cases hb:fL n.attrs a with
  | false=>rw [hb] at hK; simpa using hK H
  | true =>
   rw [hb] at hK
   simp only [Bool.not_true,Bool.false_eq_true,if_false,bF,aa]
   rw [cn hlt has (by decide)]
   exact ih (m+1) H (by omega) (by omega) h6 h9 (by simpa using hK)
structure Al (c:Cp):Prop where
 ids:c.ids.length≤reachBytes
 classes:c.classes.length≤reachBytes
 attrs:c.attrs.length≤reachBytes
 ps:c.pseudos.length≤reachBytes
 texts:∀ a ∈ c.attrs,a.text.data.size<4294967281
theorem Sr (hc:Al c) (hn:SmN n) (hP:∀ q ∈ c.pseudos,∀ H,au Tryz.prog σ cA [dl L d,I (e:Int),.agg (bH q),I (dp:Int)] H (Bo (dK (AA L) L e q)) H) {y10 y12 y14:AV}:∀ (k m:Nat) (H:Hp),c.classes.length - m=k→m≤c.classes.length→H.get b6=some (.cells (bU c) true)→H.get b9=some (.cells (aY n) true)→(∀ H,K (Bo ((c.classes.drop m).all (j6 n.classes)&&(c.attrs.all (fL n.attrs)&&c.pseudos.all (dK (AA L) L e)))) H) →
  ar.L1 σ K (dl L d) (I (e:Int)) (I (dp:Int)) (.ptr b6 0) (.ptr b9 0) y10 (I (m:Int)) y12 y14 H:=by
 intro k
 induction k with
 | zero =>
  intro m H hk hm h6 h9 hK
  have:m=c.classes.length:=by omega
  subst this
  have d2:ldA false 1 H (.ptr b6 2)=some (.imm 1 (c.classes.map fun s=>[Sx s])):=by simp [h6,cd,cG]
  refine ar.L1_step ?_
  simp only [bu,Nat.zero_add,aa,d2,bW,List.length_map,a_,Int.lt_irrefl,decide_false,ai,Bool.false_eq_true,if_false]
  exact SW hc.attrs hc.ps hn hc.texts hP _ 0 H rfl (Nat.zero_le _) h6 h9 (by simpa using hK)
 | succ k ih =>
  intro m H hk hm h6 h9 hK
  have hlt:m<c.classes.length:=by omega
  obtain ⟨x,hq⟩:=bp hlt
  rw [bK hq,List.all_cons] at hK
  have hlt':(m:Int)<c.classes.length:=by omega
  have d2:ldA false 1 H (.ptr b6 2)=some (.imm 1 (c.classes.map fun s=>[Sx s])):=by simp [h6,cd,cG]
  have d9:ldA false 1 H (.ptr b9 3)=some (cG n.classes):=by simp [h9,aY]
  have lx:ldA false 1 H (.ip [Sx x])=some (Sx x):=rfl
  have hix:az 1 (.imm 1 (c.classes.map fun s=>[Sx s])) (I (m:Int))=some (.ip [Sx x]):=bm hq
  refine ar.L1_step ?_
  simp only [bu,Nat.zero_add,aa,d2,d9,bW,List.length_map,a_,hlt',decide_true,ai,if_true,hix,lx]
  refine ak (Au n.classes hn.classes x _) ?_
  simp only [eM,aa,ai]
  cases hb:j6 n.classes x with
  | false=>rw [hb] at hK; simpa using hK H
  | true =>
   rw [hb] at hK
   simp only [Bool.not_true,Bool.false_eq_true,if_false,bF,aa]
   rw [cn hlt hc.classes (by decide)]
   exact ih (m+1) H (by omega) (by omega) h6 h9 (by simpa using hK)
theorem S9 (hc:Al c) (hn:SmN n) (hP:∀ q ∈ c.pseudos,∀ H,au Tryz.prog σ cA [dl L d,I (e:Int),.agg (bH q),I (dp:Int)] H (Bo (dK (AA L) L e q)) H) {y11 y12 y14:AV}:∀ (k m:Nat) (H:Hp),c.ids.length - m=k→m≤c.ids.length→H.get b6=some (.cells (bU c) true)→H.get b9=some (.cells (aY n) true)→(∀ H,K (Bo ((c.ids.drop m).all (idB n)&&(c.classes.all (j6 n.classes)&&(c.attrs.all (fL n.attrs)&&c.pseudos.all (dK (AA L) L e))))) H) →
  ar.L0 σ K (dl L d) (I (e:Int)) (I (dp:Int)) (.ptr b6 0) (.ptr b9 0) (I (m:Int)) y11 y12 y14 H:=by
 intro k
 induction k with
 | zero =>
  intro m H hk hm h6 h9 hK
  have:m=c.ids.length:=by omega
  subst this
  have d2:ldA false 1 H (.ptr b6 1)=some (.imm 1 (c.ids.map fun s=>[Sx s])):=by simp [h6,cd,cG]
  refine ar.L0_step ?_
  simp only [bu,Nat.zero_add,aa,d2,bW,List.length_map,a_,Int.lt_irrefl,decide_false,ai,Bool.false_eq_true,if_false]
  exact Sr hc hn hP _ 0 H rfl (Nat.zero_le _) h6 h9 (by simpa using hK)
 | succ k ih =>
  intro m H hk hm h6 h9 hK
  have hlt:m<c.ids.length:=by omega
  obtain ⟨x,hq⟩:=bp hlt
  rw [bK hq,List.all_cons] at hK
  have hlt':(m:Int)<c.ids.length:=by omega
  have d2:ldA false 1 H (.ptr b6 1)=some (.imm 1 (c.ids.map fun s=>[Sx s])):=by simp [h6,cd,cG]
  have d9:ldA false 1 H (.ptr b9 2)=some (Sx n.id):=by simp [h9,aY]
  have lx:ldA false 1 H (.ip [Sx x])=some (Sx x):=rfl
  have hix:az 1 (.imm 1 (c.ids.map fun s=>[Sx s])) (I (m:Int))=some (.ip [Sx x]):=bm hq
  refine ar.L0_step ?_
  simp only [bu,Nat.zero_add,aa,d2,d9,bW,List.length_map,a_,hlt',decide_true,ai,if_true,hix,lx,nv,ml]
  by_cases h1:x=n.id
  ·by_cases h2:n.id=emp
   ·have h2':n.id=⟨#[]⟩:=h2
    have hid:idB n x=false:=by unfold idB; rw [h1,h2]; simp
    rw [hid] at hK
    simp only [h1,h2',decide_true,Bool.not_true,Bool.false_eq_true,if_false,if_true]
    simpa using hK H
   ·have h2':¬ (n.id=⟨#[]⟩):=h2
    have hid:idB n x=true:=by unfold idB; rw [h1]; simp [h2]
    rw [hid] at hK
    simp only [h1,h2',decide_true,decide_false,Bool.not_true,Bool.false_eq_true,if_false,bF,aa]
    rw [cn hlt hc.ids (by decide)]
    exact ih (m+1) H (by omega) (by omega) h6 h9 (by simpa using hK)
  ·have hid:idB n x=false:=by unfold idB; simp [h1]
   rw [hid] at hK
   simp only [h1,decide_false,Bool.not_false,if_true]
   simpa using hK H
end
end Go.Proofs.YthdcghnjndhecaaGreat.Ev
namespace Go.Proofs.YthdcghnjndhecaaGreat.Ev
set_option linter.unusedVariables false
set_option linter.unusedSimpArgs false
variable {σ:Sig}
section
attribute [local irreducible] ar.L0
theorem Hx {L:List Nd} {d:List Nat} (hB:cQ L L.length d) (hN:L.length≤4096) {e:Nat} (he:e<L.length) (hn:SmN (bv (bV L e))) {c:Cp} (hc:Al c) (hq:∀ q ∈ c.pseudos,i64 q.a∧i64 q.b) {dp:Nat} (hd:dp≤100)
  (hA:∀ q ∈ c.pseudos,(q.kind=7∨q.kind=8)→∀ H,au Tryz.prog σ d7 [dl L d,I (e:Int),sls q.list,I ((dp+1:Nat):Int)] H (Bo (AA L q.list e)) H) (H:Hp) :
  au Tryz.prog σ eZ [dl L d,I (e:Int),.agg (bU c),I (dp:Int)] H (Bo (kL (AA L) L e c)) H:=by
 refine bg (fun K hK=>ar.run ?_) (by simp [aK,bt,dC,m5]) rfl H
 have hP:∀ q ∈ c.pseudos,∀ H,au Tryz.prog σ cA [dl L d,I (e:Int),.agg (bH q),I (dp:Int)] H (Bo (dK (AA L) L e q)) H:=fun q h=>zF hB hN he (hq q h) hd (hA q h)
 simp only [cJ]
 refine ak (uf L d he _) ?_
 simp only [eM,aa,ai,Bool.not_true,Bool.false_eq_true,if_false,oD,rsh,rld,rix he,dX,rM,bA,eV,vf,if_true]
 rw [bN,if_pos rfl]
 simp only [de,vf,Qn]
 rw [if_pos ⟨by decide,trivial⟩]
 rw [bj (by rfl)]
 simp only [aa]
 obtain ⟨H3,hH3⟩:∃ H3,H3=((Hp.empty.new (.cells (bU c) true)).new (.cells [I 0,.lit (.string ⟨#[]⟩),.lit (.string ⟨#[]⟩),.lit (.slice none 0 0),.lit (.slice none 0 0)] true)).set (Hp.empty.new (.cells (bU c) true)).n (some (.cells (aY (bv (bV L e))) true)):=⟨_,rfl⟩
 have h6:H3.get Hp.empty.n=some (.cells (bU c) true):=by rw [hH3]; simp
 have h9:H3.get (Hp.empty.new (.cells (bU c) true)).n=some (.cells (aY (bv (bV L e))) true):=by rw [hH3]; simp
 rw [← hH3]
 generalize Hp.empty.n=b6 at h6
 generalize (Hp.empty.new (.cells (bU c) true)).n=b9 at h9
 have d0:ldA false 1 H3 (.ptr b6 0)=some (Sx c.tag):=by simp [h6]
 have d1:ldA false 1 H3 (.ptr b9 1)=some (Sx (bv (bV L e)).tag):=by simp [h9]
 simp only [bu,Nat.zero_add,aa,d0,d1,nv,ai]
 have hK':∀ H,K (Bo (qD (bv (bV L e)) c&&(c.ids.all (idB (bv (bV L e)))&&(c.classes.all (j6 (bv (bV L e)).classes)&&(c.attrs.all (fL (bv (bV L e)).attrs)&&c.pseudos.all (dK (AA L) L e)))))) H:=by
  intro H
  have:=hK H
  unfold kL me at this
  simpa only [Bool.and_assoc] using this
 have go:qD (bv (bV L e)) c=true→ar.L0 σ K (dl L d) (I (e:Int)) (I (dp:Int)) (.ptr b6 0) (.ptr b9 0) (I 0) (.lit undef) (.lit undef) (.lit undef) H3:=by
  intro ht
  refine S9 hc hn hP _ 0 H3 rfl (Nat.zero_le _) h6 h9 fun H=>?_
  have:=hK' H
  rw [ht,Bool.true_and] at this
  exact this
 by_cases ht:c.tag=⟨#[]⟩
 ·simp only [ht,decide_true,Bool.not_true,Bool.false_eq_true,if_false]
  exact go (by unfold qD emp; simp [ht])
 ·by_cases ht2:c.tag=(bv (bV L e)).tag
  ·simp only [ht,ht2,decide_true,decide_false,Bool.not_true,Bool.not_false,Bool.false_eq_true,if_true,if_false]
   have hne:¬ ((bv (bV L e)).tag=⟨#[]⟩):=by rw [← ht2]; exact ht
   simp only [hne,decide_false,Bool.not_false,if_true]
   exact go (by unfold qD; simp [ht2])
  ·simp only [ht,ht2,decide_false,Bool.not_false,if_true]
   have:=hK' H3
   have hb:qD (bv (bV L e)) c=false:=by unfold qD emp; simp [ht,ht2]
   rw [hb] at this
   simpa using this
end
structure Kn (L:List Nd) (s:Sl) (kb M:Nat) (H:Hp):Prop where
 lt:kb<H.n
 get:∃ ks,H.get kb=some (.cells ks true)∧ks.length=M∧∀ e k,e<L.length→k<s.length→∃ v:Int,ks[e*s.length+k]?=some (I v)∧(v=0∨(v=1∧bI (AA L) L s k e=true)∨(v=2∧bI (AA L) L s k e=false))
theorem Kn.keep {L:List Nd} {s:Sl} {kb M:Nat} {H H':Hp} (h:Kn L s kb M H) (hn:H.n≤H'.n) (hg:H'.get kb=H.get kb):Kn L s kb M H':=by
 obtain ⟨ks,h1,h2,h3⟩:=h.get
 exact ⟨Nat.lt_of_lt_of_le h.lt hn,ks,by rw [hg]; exact h1,h2,h3⟩
theorem Kn.new {L:List Nd} {s:Sl} {kb M:Nat} {H:Hp} (h:Kn L s kb M H) (b:Blk):Kn L s kb M (H.new b):=by
 refine h.keep (by simp) ?_
 have:kb≠H.n:=by have:=h.lt; omega
 simp [this]
theorem AI {n a b x y:Nat} (hx:x<n) (hy:y<n) (h:a*n+x=b*n+y):a=b∧x=y:=by
 have h1:(a*n+x) / n=(b*n+y) / n:=by rw [h]
 have hn:0<n:=by omega
 rw [Nat.mul_comm a,Nat.mul_comm b,Nat.mul_add_div hn,Nat.mul_add_div hn,Nat.div_eq_of_lt hx,Nat.div_eq_of_lt hy] at h1
 simp only [Nat.add_zero] at h1
 subst h1
 exact ⟨rfl,by omega⟩
theorem zW:∀ (cs:List AV) (i:Nat) (x:AV),i<cs.length→bO cs i [x]=cs.set i x:=by
 intro cs
 induction cs with
 | nil=>intro i x hi; simp at hi
 | cons c r ih =>
  intro i x hi
  cases i with
  | zero=>simp
  | succ i=>rw [Cm,List.set_cons_succ,ih i x (by simpa using hi)]
theorem Kn.put {L:List Nd} {s:Sl} {kb M:Nat} {H:Hp} (h:Kn L s kb M H) {e k:Nat} (he:e<L.length) (hk:k<s.length) {v:Int} (hv:v=0∨(v=1∧bI (AA L) L s k e=true)∨(v=2∧bI (AA L) L s k e=false)) :
  ∃ H',stA 1 H (.ptr kb (e*s.length+k)) (I v)=some H'∧Kn L s kb M H'∧Kp kb H H'∧ldA false 1 H' (.ptr kb (e*s.length+k))=some (I v):=by
 obtain ⟨ks,h1,h2,h3⟩:=h.get
 obtain ⟨v0,hv0,_⟩:=h3 e k he hk
 have hlt:=(List.getElem?_eq_some_iff.1 hv0).1
 refine ⟨H.set kb (some (.cells (ks.set (e*s.length+k) (I v)) true)),?_,⟨by simpa using h.lt,_,by simp; rfl,by simpa using h2,fun e' k' he' hk'=>?_⟩,⟨by simp,fun j hj hne=>by simp [hne]⟩,?_⟩
 ·have hlt':e*s.length+k+[I v].length≤ks.length:=by simp; omega
  rw [vO,h1]
  simp only [de]
  rw [if_pos ⟨hlt',rfl⟩,zW _ _ _ hlt]
 ·by_cases hi:e*s.length+k=e'*s.length+k'
  ·obtain ⟨rfl,rfl⟩:=AI hk hk' hi
   exact ⟨v,by simp [hlt],hv⟩
  ·obtain ⟨w,hw,hw'⟩:=h3 e' k' he' hk'
   exact ⟨w,by simp [List.getElem?_set,hi,hw],hw'⟩
 ·simp only [aL,ay,if_true,aM]
  rw [List.drop_eq_getElem_cons (by simpa using hlt),jL]
  simp
theorem Kn.put2 {L:List Nd} {s:Sl} {kb M:Nat} {H:Hp} (h:Kn L s kb M H) {e k:Nat} (he:e<L.length) (hk:k<s.length) {v w:Int} (hv:v=0∨(v=1∧bI (AA L) L s k e=true)∨(v=2∧bI (AA L) L s k e=false)) :
  ∃ H1 H',stA 1 H (.ptr kb (e*s.length+k)) (I w)=some H1∧stA 1 H1 (.ptr kb (e*s.length+k)) (I v)=some H'∧Kn L s kb M H'∧Kp kb H H'∧ldA false 1 H' (.ptr kb (e*s.length+k))=some (I v):=by
 obtain ⟨ks,h1,h2,h3⟩:=h.get
 obtain ⟨v0,hv0,_⟩:=h3 e k he hk
 have hlt:=(List.getElem?_eq_some_iff.1 hv0).1
 refine ⟨H.set kb (some (.cells (ks.set (e*s.length+k) (I w)) true)),H.set kb (some (.cells (ks.set (e*s.length+k) (I w)) true)) |>.set kb (some (.cells ((ks.set (e*s.length+k) (I w)).set (e*s.length+k) (I v)) true)),?_,?_,⟨by simpa using h.lt,_,by simp; rfl,by simpa using h2,fun e' k' he' hk'=>?_⟩,⟨by simp,fun j hj hne=>by simp [hne]⟩,?_⟩
 ·have hlt':e*s.length+k+[I w].length≤ks.length:=by simp; omega
  rw [vO,h1]
  simp only [de]
  rw [if_pos ⟨hlt',rfl⟩,zW _ _ _ hlt]
 ·have hlt':e*s.length+k+[I v].length≤(ks.set (e*s.length+k) (I w)).length:=by simp; omega
  rw [vO]
  simp only [ay,if_true,de]
  rw [if_pos ⟨hlt',rfl⟩,zW _ _ _ (by simpa using hlt)]
 ·by_cases hi:e*s.length+k=e'*s.length+k'
  ·obtain ⟨rfl,rfl⟩:=AI hk hk' hi
   exact ⟨v,by simp [hlt],hv⟩
  ·obtain ⟨w,hw,hw'⟩:=h3 e' k' he' hk'
   exact ⟨w,by simp [List.getElem?_set,hi,hw],hw'⟩
 ·simp only [aL,ay,if_true,aM]
  rw [List.drop_eq_getElem_cons (by simpa using hlt),jL]
  simp
structure RSl (L:List Nd) (s:Sl):Prop where
 len:s.length≤50
 c:∀ p ∈ s,Al p.c
 q:∀ p ∈ s,∀ q ∈ p.c.pseudos,i64 q.a∧i64 q.b
theorem pq {L:List Nd} (e:Nat):dA L e=-1∨∃ p:Nat,dA L e=p∧p<e:=by
 unfold dA qu
 cases h:(qg L e).getLast? with
 | none=>exact .inl rfl
 | some j =>
  refine .inr ⟨j,rfl,?_⟩
  have:=List.mem_of_getLast? h
  unfold qg at this
  simp only [List.mem_filter,List.mem_range] at this
  exact this.1
section
attribute [local irreducible] aC.L0 aC.L1 aC.J2 b_.J0
def BN (σ:Sig) (L:List Nd) (d:List Nat) (s:Sl) (dp kb M:Nat) (cap:Option Nat) (i:Nat):Prop:=∀ (e:Nat) (H:Hp) (K:AV→Hp→Prop),e<L.length→Kn L s kb M H→(∀ H',Kn L s kb M H'→Kp kb H H'→K (Bo (bI (AA L) L s i e)) H') →
 av Tryz.prog σ c9 [dl L d,I (e:Int),.agg (aH s),I ((i+1:Nat):Int),I (dp:Int),.sl kb 0 1 M cap] H K
variable {L:List Nd} {d:List Nat} {s:Sl} {dp kb M:Nat} {cap:Option Nat}
theorem CT (hB:cQ L L.length d) (hN:L.length≤4096) {i b8:Nat} (hi:i<100) (ih:BN σ L d s dp kb M cap i) {K:AV→Hp→Prop} {y15:AV}:∀ (f:Nat) (x:Int) (H:Hp),(x=-1∨∃ p:Nat,x=p∧p<f∧p<L.length)→Kn L s kb M H→b8<H.n→b8≠kb→H.get b8=some (.cells (aH s) true) →
  (∀ H',Kn L s kb M H'→Kp kb H H'→K (Bo (decide (0≤x)&&(bI (AA L) L s i x.toNat||dG (bI (AA L) L s i) L 1 f x.toNat))) H') →
  aC.L0 σ K (dl L d) (I ((i+1+1:Nat):Int)) (I (dp:Int)) (.sl kb 0 1 M cap) (.ptr b8 0) (I x) y15 H:=by
 intro f
 induction f with
 | zero =>
  intro x H hx hk h8 hne hg hK
  obtain rfl:x=-1:=by rcases hx with h | ⟨p,_,h,_⟩<;>omega
  refine aC.L0_step ?_
  simp only [im,aa,ai,show ¬ ((0:Int)≤-1) from by decide,decide_false,Bool.false_eq_true,if_false]
  exact aC.J2_step (by simpa using hK H hk (Kp.refl _ _))
 | succ f ihf =>
  intro x H hx hk h8 hne hg hK
  refine aC.L0_step ?_
  rcases hx with rfl | ⟨p,rfl,hpf,hpL⟩
  ·simp only [im,aa,ai,show ¬ ((0:Int)≤-1) from by decide,decide_false,Bool.false_eq_true,if_false]
   exact aC.J2_step (by simpa using hK H hk (Kp.refl _ _))
  have hl:ldA true 1 H (.ptr b8 0)=some (.agg (aH s)):=by simp [hg]
  have hsub:wr .i64 (((i+1+1:Nat):Int) - 1)=((i+1:Nat):Int):=by rw [cM (by omega) (by omega)]; omega
  simp only [im,aa,ai,Int.natCast_nonneg,decide_true,if_true,hl,ki,hsub]
  refine ih p H _ hpL hk fun H1 hk1 hp1=>?_
  simp only [ai]
  simp only [Int.natCast_nonneg,decide_true,Bool.true_and,Int.toNat_natCast] at hK
  cases hb:bI (AA L) L s i p with
  | true =>
   simp only [if_true]
   have:=hK H1 hk1 hp1
   rw [hb] at this
   simpa using this
  | false =>
   simp only [Bool.false_eq_true,if_false]
   refine ak (jy L d hpL _) ?_
   have hpb:=ma hB hpL
   refine ihf (par L p) H1 ?_ hk1 (Nat.lt_of_lt_of_le h8 hp1.up) hne (by rw [hp1.get _ h8 hne]; exact hg) fun H2 hk2 hp2=>?_
   ·rcases hpb with h | ⟨q,h,hq⟩
    ·exact .inl h
    ·exact .inr ⟨q,h,by omega,by omega⟩
   have:=hK H2 hk2 (hp1.trans hp2)
   rw [hb] at this
   have e1:dG (bI (AA L) L s i) L 1 (f+1) p=(decide (0≤par L p)&&(bI (AA L) L s i (par L p).toNat||dG (bI (AA L) L s i) L 1 f (par L p).toNat)):=by
    rw [dG]
    have:cm L p 1=par L p:=by unfold cm; simp
    rw [this]
    have:nF 1=true:=rfl
    rw [this,Bool.true_and]
   rw [← e1]
   simpa using this
theorem E8 (hB:cQ L L.length d) (hN:L.length≤4096) {i b8:Nat} (hi:i<100) (ih:BN σ L d s dp kb M cap i) {K:AV→Hp→Prop} {y13:AV}:∀ (f:Nat) (x:Int) (H:Hp),(x=-1∨∃ p:Nat,x=p∧p<f∧p<L.length)→Kn L s kb M H→b8<H.n→b8≠kb→H.get b8=some (.cells (aH s) true) →
  (∀ H',Kn L s kb M H'→Kp kb H H'→K (Bo (decide (0≤x)&&(bI (AA L) L s i x.toNat||dG (bI (AA L) L s i) L 4 f x.toNat))) H') →
  aC.L1 σ K (dl L d) (I ((i+1+1:Nat):Int)) (I (dp:Int)) (.sl kb 0 1 M cap) (.ptr b8 0) y13 (I x) H:=by
 intro f
 induction f with
 | zero =>
  intro x H hx hk h8 hne hg hK
  obtain rfl:x=-1:=by rcases hx with h | ⟨p,_,h,_⟩<;>omega
  refine aC.L1_step ?_
  simp only [im,aa,ai,show ¬ ((0:Int)≤-1) from by decide,decide_false,Bool.false_eq_true,if_false]
  exact aC.J2_step (by simpa using hK H hk (Kp.refl _ _))
 | succ f ihf =>
  intro x H hx hk h8 hne hg hK
  refine aC.L1_step ?_
  rcases hx with rfl | ⟨p,rfl,hpf,hpL⟩
  ·simp only [im,aa,ai,show ¬ ((0:Int)≤-1) from by decide,decide_false,Bool.false_eq_true,if_false]
   exact aC.J2_step (by simpa using hK H hk (Kp.refl _ _))
  have hl:ldA true 1 H (.ptr b8 0)=some (.agg (aH s)):=by simp [hg]
  have hsub:wr .i64 (((i+1+1:Nat):Int) - 1)=((i+1:Nat):Int):=by rw [cM (by omega) (by omega)]; omega
  simp only [im,aa,ai,Int.natCast_nonneg,decide_true,if_true,hl,ki,hsub]
  refine ih p H _ hpL hk fun H1 hk1 hp1=>?_
  simp only [ai]
  simp only [Int.natCast_nonneg,decide_true,Bool.true_and,Int.toNat_natCast] at hK
  cases hb:bI (AA L) L s i p with
  | true =>
   simp only [if_true]
   have:=hK H1 hk1 hp1
   rw [hb] at this
   simpa using this
  | false =>
   simp only [Bool.false_eq_true,if_false]
   refine ak (mY L d hN hpL _) ?_
   have hpb:=pq (L:=L) p
   refine ihf (dA L p) H1 ?_ hk1 (Nat.lt_of_lt_of_le h8 hp1.up) hne (by rw [hp1.get _ h8 hne]; exact hg) fun H2 hk2 hp2=>?_
   ·rcases hpb with h | ⟨q,h,hq⟩
    ·exact .inl h
    ·exact .inr ⟨q,h,by omega,by omega⟩
   have:=hK H2 hk2 (hp1.trans hp2)
   rw [hb] at this
   have e1:dG (bI (AA L) L s i) L 4 (f+1) p=(decide (0≤dA L p)&&(bI (AA L) L s i (dA L p).toNat||dG (bI (AA L) L s i) L 4 f (dA L p).toNat)):=by
    rw [dG]
    have:cm L p 4=dA L p:=by unfold cm; simp
    rw [this]
    have:nF 4=true:=rfl
    rw [this,Bool.true_and]
   rw [← e1]
   simpa using this
theorem C7 (hB:cQ L L.length d) (hN:L.length≤4096) {i:Nat} (hi:i<100) (ih:BN σ L d s dp kb M cap i) {p:Pt} (hp:s[i+1]?=some p) {e:Nat} (he:e<L.length) {H:Hp} (hk:Kn L s kb M H) {K:AV→Hp→Prop}
  (hK:∀ H',Kn L s kb M H'→Kp kb H H'→K (Bo (dG (bI (AA L) L s i) L p.comb (e+1) e)) H') :
  av Tryz.prog σ gz [dl L d,I (e:Int),.agg (aH s),I ((i+1+1:Nat):Int),I (dp:Int),.sl kb 0 1 M cap] H K:=by
 refine aC.run ?_
 simp only [cJ]
 have hk2:=hk.new (.cells (aH s) true)
 have hkp:=Kp.new kb H (.cells (aH s) true)
 obtain ⟨H2,hH2⟩:∃ H2,H2=H.new (.cells (aH s) true):=⟨_,rfl⟩
 have h8:H2.get H.n=some (.cells (aH s) true):=by rw [hH2]; simp
 have hb8:H.n<H2.n:=by rw [hH2]; simp
 have hne:H.n≠kb:=by have:=hk.lt; omega
 rw [← hH2] at hk2 hkp ⊢
 clear hH2
 generalize H.n=b8 at h8 hb8 hne ⊢
 have hsub:wr .i64 (((i+1+1:Nat):Int) - 1)=((i+1:Nat):Int):=by rw [cM (by omega) (by omega)]; omega
 have hl0:ldA false 1 H2 (.ptr b8 0)=some (.imm 6 (s.map bo)):=by simp [h8,aH]
 have hl:ldA true 1 H2 (.ptr b8 0)=some (.agg (aH s)):=by simp [h8]
 have hix:az 6 (.imm 6 (s.map bo)) (I ((i+1:Nat):Int))=some (.ip (bo p)):=bm hp
 simp only [bu,Nat.zero_add,aa,hl0,ki,hsub,hix,iJ,List.drop_zero,dX,IF,fh,ai,decide_eq_true_eq]
 have K2:∀ H',Kn L s kb M H'→Kp kb H2 H'→K (Bo (dG (bI (AA L) L s i) L p.comb (e+1) e)) H':=fun H' a b=>hK H' a (hkp.trans b)
 rw [dG] at K2
 split
 ·rename_i hc
  refine ak (jy L d he _) ?_
  have hpb:=ma hB he
  refine CT hB hN hi ih e (par L e) H2 ?_ hk2 hb8 hne h8 fun H3 a b=>?_
  ·rcases hpb with h | ⟨q,h,hq⟩
   ·exact .inl h
   ·exact .inr ⟨q,h,by omega,by omega⟩
  have:=K2 H3 a b
  rw [hc] at this
  have e1:cm L e 1=par L e:=by unfold cm; simp
  have e2:nF 1=true:=rfl
  rw [e1,e2,Bool.true_and] at this
  exact this
 rename_i hc1
 split
 ·rename_i hc
  refine ak (jy L d he _) ?_
  have hpb:=ma hB he
  have e1:cm L e 2=par L e:=by unfold cm; simp
  have e2:nF 2=false:=rfl
  rw [hc,e1,e2,Bool.false_and,Bool.or_false] at K2
  simp only [im,aa,ai,decide_eq_true_eq]
  rcases hpb with h | ⟨q,h,hq⟩
  ·rw [h] at K2 ⊢
   simp only [show ¬ ((0:Int)≤-1) from by decide,if_false]
   simpa using K2 H2 hk2 (Kp.refl _ _)
  ·rw [h] at K2
   simp only [h,Int.natCast_nonneg,if_true]
   refine ak (jy L d he _) ?_
   rw [rt]
   refine ⟨rfl,?_⟩
   simp only [hl,aa]
   rw [h]
   refine ih q H2 _ (by omega) hk2 fun H3 a b=>?_
   simpa using K2 H3 a b
 rename_i hc2
 split
 ·rename_i hc
  refine ak (mY L d hN he _) ?_
  have hpb:=pq (L:=L) e
  have e1:cm L e 3=dA L e:=by unfold cm; simp
  have e2:nF 3=false:=rfl
  rw [hc,e1,e2,Bool.false_and,Bool.or_false] at K2
  simp only [im,aa,ai,decide_eq_true_eq]
  rcases hpb with h | ⟨q,h,hq⟩
  ·rw [h] at K2 ⊢
   simp only [show ¬ ((0:Int)≤-1) from by decide,if_false]
   simpa using K2 H2 hk2 (Kp.refl _ _)
  ·rw [h] at K2
   simp only [h,Int.natCast_nonneg,if_true]
   refine ak (mY L d hN he _) ?_
   rw [rt]
   refine ⟨rfl,?_⟩
   simp only [hl,aa]
   rw [h]
   refine ih q H2 _ (by omega) hk2 fun H3 a b=>?_
   simpa using K2 H3 a b
 rename_i hc3
 split
 ·rename_i hc
  refine ak (mY L d hN he _) ?_
  have hpb:=pq (L:=L) e
  refine E8 hB hN hi ih e (dA L e) H2 ?_ hk2 hb8 hne h8 fun H3 a b=>?_
  ·rcases hpb with h | ⟨q,h,hq⟩
   ·exact .inl h
   ·exact .inr ⟨q,h,by omega,by omega⟩
  have:=K2 H3 a b
  rw [hc] at this
  have e1:cm L e 4=dA L e:=by unfold cm; simp
  have e2:nF 4=true:=rfl
  rw [e1,e2,Bool.true_and] at this
  exact this
 rename_i hc4
 refine aC.J2_step ?_
 have e1:cm L e p.comb=-1:=by unfold cm; rw [if_neg (by omega),if_neg (by omega)]
 rw [e1] at K2
 simpa using K2 H2 hk2 (Kp.refl _ _)
def CW (σ:Sig) (L:List Nd) (d:List Nat) (s:Sl) (dp:Nat):Prop:=∀ p ∈ s,∀ q ∈ p.c.pseudos,(q.kind=7∨q.kind=8)→∀ (e:Nat) (H:Hp),e<L.length→au Tryz.prog σ d7 [dl L d,I (e:Int),sls q.list,I ((dp+1:Nat):Int)] H (Bo (AA L q.list e)) H
theorem AH (hB:cQ L L.length d) (hN:L.length≤4096) (hsm:∀ e,e<L.length→SmN (bv (bV L e))) (hs:RSl L s) (hd:dp≤100) (hM:M=L.length*s.length) (hA:CW σ L d s dp) {i:Nat} (hi:i<s.length)
  (ih:∀ j,i=j+1→BN σ L d s dp kb M cap j):BN σ L d s dp kb M cap i:=by
 intro e H K he hk hK
 refine b_.run ?_
 simp only [cJ]
 have hk2:=hk.new (.cells (aH s) true)
 have hkp:=Kp.new kb H (.cells (aH s) true)
 obtain ⟨H2,hH2⟩:∃ H2,H2=H.new (.cells (aH s) true):=⟨_,rfl⟩
 have h8:H2.get H.n=some (.cells (aH s) true):=by rw [hH2]; simp
 have hb8:H.n<H2.n:=by rw [hH2]; simp
 have hne:H.n≠kb:=by have:=hk.lt; omega
 rw [← hH2] at hk2 hkp ⊢
 clear hH2
 generalize H.n=b8 at h8 hb8 hne ⊢
 have hl50:=hs.len
 have hmul:e*s.length≤4096*50:=Nat.mul_le_mul (by omega) hl50
 have e1:wr .i64 ((e:Int)*(s.length:Int))=((e*s.length:Nat):Int):=by
  have:(e:Int)*(s.length:Int)=((e*s.length:Nat):Int):=by simp
  rw [this,cM (by omega) (by omega)]
 have e2:wr .i64 (((e*s.length:Nat):Int)+((i+1:Nat):Int))=((e*s.length+i+1:Nat):Int):=by rw [cM (by omega) (by omega)]; omega
 have e3:wr .i64 (((e*s.length+i+1:Nat):Int) - 1)=((e*s.length+i:Nat):Int):=by rw [cM (by omega) (by omega)]; omega
 have e4:wr .i64 (((i+1:Nat):Int) - 1)=(i:Int):=by rw [cM (by omega) (by omega)]; omega
 have hlt:e*s.length+i<M:=by
  rw [hM]
  have h1:(e+1)*s.length≤L.length*s.length:=Nat.mul_le_mul_right _ he
  rw [Nat.succ_mul] at h1
  omega
 have hl0:ldA false 1 H2 (.ptr b8 0)=some (.imm 6 (s.map bo)):=by simp [h8,aH]
 have hl:ldA true 1 H2 (.ptr b8 0)=some (.agg (aH s)):=by simp [h8]
 have hix:az 1 (.sl kb 0 1 M cap) (I ((e*s.length+i:Nat):Int))=some (.ptr kb (e*s.length+i)):=by
  have a1:((e*s.length+i:Nat):Int)<(M:Int):=by omega
  have a2:(0:Int)≤((e*s.length+i:Nat):Int):=by omega
  simp only [az,ij,a1,a2,decide_true,Bool.and_self,cond_true,Int.toNat_natCast,Nat.zero_add,Nat.mul_one]
 obtain ⟨p,hp⟩:=bp hi
 have hixp:az 6 (.imm 6 (s.map bo)) (I (i:Int))=some (.ip (bo p)):=bm hp
 obtain ⟨ks,g1,g2,g3⟩:=hk2.get
 obtain ⟨v,hv,hv'⟩:=g3 e i he hi
 have hld:ldA false 1 H2 (.ptr kb (e*s.length+i))=some (I v):=by
  rw [aL,g1,aM,bK hv,jL]
 simp only [bu,Nat.zero_add,aa,hl0,bW,List.length_map,AD,bF,ki,e1,e2,e3,e4,hix,hld,fh,ai,decide_eq_true_eq]
 have K2:∀ H',Kn L s kb M H'→Kp kb H2 H'→K (Bo (bI (AA L) L s i e)) H':=fun H' a b=>hK H' a (hkp.trans b)
 have fin:∀ (H3:Hp) (w:Int),Kn L s kb M H3→Kp kb H2 H3→ldA false 1 H3 (.ptr kb (e*s.length+i))=some (I w)→decide (w=1)=bI (AA L) L s i e →
   b_.J0 σ K (.sl kb 0 1 M cap) (I ((e*s.length+i:Nat):Int)) H3:=by
  intro H3 w a b c hw
  refine b_.J0_step ?_
  simp only [hix,aa,c,fh]
  rw [hw]
  exact K2 H3 a b
 have put2:∀ (H3:Hp) (w:Int) (A:Hp→Prop),Kn L s kb M H3→Kp kb H2 H3→(w=0∨(w=1∧bI (AA L) L s i e=true)∨(w=2∧bI (AA L) L s i e=false)) →
   (∀ H4,Kn L s kb M H4→Kp kb H2 H4→ldA false 1 H4 (.ptr kb (e*s.length+i))=some (I w)→A H4)→bnd (stA 1 H3 (.ptr kb (e*s.length+i)) (I w)) A:=by
  intro H3 w A a b hw hA
  obtain ⟨H4,q1,q2,q3,q4⟩:=a.put he hi hw
  rw [q1,aa]
  exact hA H4 q2 (b.trans q3) q4
 by_cases hv0:v=0
 ·simp only [hv0,if_true]
  have hld5:ldA true 5 H2 (.ip ((bo p).drop 1))=some (.agg (bU p.c)):=by rw [dm]; simp
  simp only [hixp,aa,iJ,hld5]
  have hpm:=List.mem_of_getElem? hp
  refine ak (Hx hB hN he (hsm e he) (hs.c p hpm) (hs.q p hpm) hd (fun q hq hkd H=>hA p hpm q hq hkd e H he) _) ?_
  simp only [ai]
  cases hcB:kL (AA L) L e p.c with
  | false =>
   have hf:bI (AA L) L s i e=false:=by
    cases i with
    | zero=>simp only [bI,hp]; exact hcB
    | succ i=>simp only [bI,hp,hcB,Bool.false_and]
   simp only [Bool.false_eq_true,if_false]
   refine put2 H2 2 _ hk2 (Kp.refl _ _) (.inr (.inr ⟨rfl,hf⟩)) fun H4 a b c=>?_
   exact fin H4 2 a b c (by rw [hf]; rfl)
  | true =>
   simp only [if_true]
   cases i with
   | zero =>
    have hf:bI (AA L) L s 0 e=true:=by simp only [bI,hp]; exact hcB
    have:((0+1:Nat):Int)=1:=rfl
    simp only [this,if_true]
    have bad:∀ (H3:Hp) (w:Int) (A:Hp→Prop),Kn L s kb M H3→Kp kb H2 H3→(∀ H5 H6,stA 1 H3 (.ptr kb (e*s.length+0)) (I 2)=some H5→stA 1 H5 (.ptr kb (e*s.length+0)) (I 1)=some H6→Kn L s kb M H6→Kp kb H2 H6→ldA false 1 H6 (.ptr kb (e*s.length+0))=some (I 1)→A H6) →
      bnd (stA 1 H3 (.ptr kb (e*s.length+0)) (I 2)) fun H5=>bnd (stA 1 H5 (.ptr kb (e*s.length+0)) (I 1)) A:=by
     intro H3 w A a b h
     obtain ⟨H5,H6,q1,q2,q3,q4,q5⟩:=a.put2 he hi (v:=1) (w:=2) (.inr (.inl ⟨rfl,hf⟩))
     rw [q1,aa,q2,aa]
     exact h H5 H6 q1 q2 q3 (b.trans q4) q5
    refine bad H2 1 _ hk2 (Kp.refl _ _) fun H5 H6 _ _ a b c=>?_
    exact fin H6 1 a b c (by rw [hf]; rfl)
   | succ i =>
    have hne1:¬ (((i+1+1:Nat):Int)=1):=by omega
    simp only [hne1,if_false,hl,aa]
    refine C7 hB hN (by omega) (ih i rfl) hp he hk2 fun H3 hk3 hp3=>?_
    have hfr:bI (AA L) L s (i+1) e=dG (bI (AA L) L s i) L p.comb (e+1) e:=by simp only [bI,hp,hcB,Bool.true_and]
    rw [← hfr]
    simp only [ai]
    cases hf:bI (AA L) L s (i+1) e with
    | true =>
     obtain ⟨H5,H6,q1,q2,q3,q4,q5⟩:=hk3.put2 he hi (v:=1) (w:=2) (.inr (.inl ⟨rfl,hf⟩))
     rw [q1,aa]
     simp only [if_true]
     rw [q2,aa]
     exact fin H6 1 q3 (hp3.trans q4) q5 (by rw [hf]; rfl)
    | false =>
     refine put2 H3 2 _ hk3 hp3 (.inr (.inr ⟨rfl,hf⟩)) fun H4 a b c=>?_
     simp only [Bool.false_eq_true,if_false]
     exact fin H4 2 a b c (by rw [hf]; rfl)
 ·simp only [hv0,if_false]
  refine fin H2 v hk2 (Kp.refl _ _) hld ?_
  rcases hv' with h | ⟨h,hf⟩ | ⟨h,hf⟩
  ·exact absurd h hv0
  ·rw [h,hf]; rfl
  ·rw [h,hf]; rfl
theorem SY (hB:cQ L L.length d) (hN:L.length≤4096) (hsm:∀ e,e<L.length→SmN (bv (bV L e))) (hs:RSl L s) (hd:dp≤100) (hM:M=L.length*s.length) (hA:CW σ L d s dp):∀ (i:Nat),i<s.length→BN σ L d s dp kb M cap i:=by
 intro i
 induction i with
 | zero=>exact fun hi=>AH hB hN hsm hs hd hM hA hi (fun j h=>absurd h (by omega))
 | succ i ih =>
  intro hi
  refine AH hB hN hsm hs hd hM hA hi fun j h=>?_
  have:j=i:=by omega
  subst this
  exact ih (by omega)
end
end Go.Proofs.YthdcghnjndhecaaGreat.Ev
namespace Go.Proofs.YthdcghnjndhecaaGreat.Ev
set_option linter.unusedVariables false
set_option linter.unusedSimpArgs false
variable {σ:Sig} {L:List Nd} {d:List Nat}
def QZ:Nat→List Sl→Prop
 | 0,_=>False
 | f+1,l=>l.length≤reachBytes∧∀ s ∈ l,s.length≤50∧∀ p ∈ s,Al p.c∧∀ q ∈ p.c.pseudos,(i64 q.a∧i64 q.b)∧((q.kind=7∨q.kind=8)→QZ f q.list)
def frB (L:List Nd) (s:Sl) (e:Nat):Bool:=!decide (s.length=0)&&bI (AA L) L s (s.length - 1) e
theorem Bt (hB:cQ L L.length d) (hN:L.length≤4096) (hsm:∀ e,e<L.length→SmN (bv (bV L e))) {s:Sl} (hs:RSl L s) {dp:Nat} (hd:dp≤100) (hA:CW σ L d s dp) {e:Int} (H:Hp) :
  au Tryz.prog σ dP [dl L d,I e,.agg (aH s),I (dp:Int)] H (Bo (decide (0≤e)&&decide (e<L.length)&&frB L s e.toNat)) H:=by
 refine bg (fun K hK=>iz.run ?_) (by simp [aK,bt,dC,gP]) rfl H
 simp only [cJ]
 refine ak (FM L d e _) ?_
 simp only [eM,aa,ai]
 cases hin:(decide (0≤e)&&decide (e<L.length)) with
 | false=>rw [hin] at hK; simpa using hK _
 | true =>
 rw [hin] at hK
 simp only [Bool.true_and] at hK
 simp only [Bool.and_eq_true,decide_eq_true_eq] at hin
 obtain ⟨en,rfl⟩:∃ en:Nat,e=(en:Int):=⟨e.toNat,by omega⟩
 have he:en<L.length:=by omega
 rw [Int.toNat_natCast] at hK
 obtain ⟨H2,hH2⟩:∃ H2,H2=Hp.empty.new (.cells (aH s) true):=⟨_,rfl⟩
 have h1:H2.get Hp.empty.n=some (.cells (aH s) true):=by rw [hH2]; simp
 have hlt:Hp.empty.n<H2.n:=by rw [hH2]; simp
 rw [← hH2]
 generalize Hp.empty.n=b1 at h1 hlt ⊢
 have hl0:ldA false 1 H2 (.ptr b1 0)=some (.imm 6 (s.map bo)):=by simp [h1,aH]
 simp only [Bool.not_true,Bool.false_eq_true,if_false,bu,Nat.zero_add,aa,hl0,bW,List.length_map,fh,ai,decide_eq_true_eq]
 split
 ·rename_i h0
  have h0':s.length=0:=by omega
  have:frB L s en=false:=by unfold frB; simp [h0']
  rw [this] at hK
  exact hK _
 rename_i h0
 have h0':¬ s.length=0:=by omega
 have hl50:=hs.len
 have hmul:L.length*s.length≤4096*50:=Nat.mul_le_mul hN hl50
 have e1:wr .i64 ((L.length:Int)*(s.length:Int))=((L.length*s.length:Nat):Int):=by
  have:(L.length:Int)*(s.length:Int)=((L.length*s.length:Nat):Int):=by simp
  rw [this,cM (by omega) (by omega)]
 obtain ⟨M,hM⟩:∃ M,M=L.length*s.length:=⟨_,rfl⟩
 rw [← hM] at e1 hmul
 have e3:yc [.int .i64 0] 1 8 H2 (I (M:Int)) (I (M:Int))=some (.sl H2.n 0 1 M (some M),H2.new (.cells (oZ [.int .i64 0] (M*1)) true)):=by
  have a:(0:Int)≤M:=by omega
  have b:M≤9223372036854775807:=by omega
  have c:8*M≤281474976710656:=by omega
  simp [yc,ij,a,rp,b,c]
 simp only [oD,rsh,rld,BA,aa,AD,e1,e3]
 have g1:ldA true 1 (H2.new (.cells (oZ [.int .i64 0] (M*1)) true)) (.ptr b1 0)=some (.agg (aH s)):=by
  have:b1≠H2.n:=by omega
  simp [this,h1]
 have g0:ldA false 1 (H2.new (.cells (oZ [.int .i64 0] (M*1)) true)) (.ptr b1 0)=some (.imm 6 (s.map bo)):=by
  have:b1≠H2.n:=by omega
  simp [this,h1,aH]
 simp only [g1,g0,aa,bW,List.length_map]
 have hkn:Kn L s H2.n M (H2.new (.cells (oZ [.int .i64 0] (M*1)) true)):=by
  refine ⟨by simp,_,by simp; rfl,by simp [oZ],fun e k he hk=>⟨0,?_,.inl rfl⟩⟩
  have h2:(e+1)*s.length≤L.length*s.length:=Nat.mul_le_mul_right _ he
  rw [Nat.succ_mul] at h2
  have h3:e*s.length+k<M:=by omega
  unfold oZ
  rw [List.getElem?_map,List.getElem?_range (by omega)]
  simp [Nat.mod_one]
 have hn1:(s.length:Int)=((s.length - 1+1:Nat):Int):=by omega
 rw [hn1]
 refine SY hB hN hsm hs hd hM hA (s.length - 1) (by omega) en _ _ he hkn fun H4 _ _=>?_
 have:frB L s en=bI (AA L) L s (s.length - 1) en:=by unfold frB; simp [h0']
 rw [← this]
 exact hK _
section
attribute [local irreducible] cy.L0
theorem OS (hB:cQ L L.length d) (hN:L.length≤4096) (hsm:∀ e,e<L.length→SmN (bv (bV L e))):∀ (f:Nat) (l:List Sl) (dp:Nat),f≤12→QZ f l→m9 f l→dp+f≤100 →
  (∀ s ∈ l,RSl L s∧CW σ L d s dp)∧∀ (e:Nat) (H:Hp),e<L.length→au Tryz.prog σ d7 [dl L d,I (e:Int),sls l,I (dp:Int)] H (Bo (AA L l e)) H:=by
 intro f
 induction f with
 | zero=>intro l dp _ h; exact h.elim
 | succ f ih =>
  intro l dp hf hl hn hd
  have hb:∀ s ∈ l,RSl L s∧CW σ L d s dp:=by
   intro s hs
   have h1:=hl.2 s hs
   refine ⟨⟨h1.1,fun p hp=>(h1.2 p hp).1,fun p hp q hq=>((h1.2 p hp).2 q hq).1⟩,fun p hp q hq hk e H he=>?_⟩
   exact (ih q.list (dp+1) (by omega) (((h1.2 p hp).2 q hq).2 hk) (hn s hs p hp q hq) (by omega)).2 e H he
  refine ⟨hb,fun e H he=>?_⟩
  refine bg (fun K hK=>cy.run ?_) (by simp [aK,bt,dC,tT]) rfl H
  rw [← CJ hn hf] at hK
  have L0:∀ (k m:Nat) (H:Hp),l.length - m=k→m≤l.length→(∀ H,K (Bo ((l.drop m).any fun s=>frB L s e)) H)→cy.L0 σ K (dl L d) (I (e:Int)) (sls l) (I (dp:Int)) (I (m:Int)) H:=by
   intro k
   induction k with
   | zero =>
    intro m H hk hm hK
    have:m=l.length:=by omega
    subst this
    refine cy.L0_step ?_
    simp
    simpa using hK H
   | succ k ihk =>
    intro m H hk hm hK
    have hlt:m<l.length:=by omega
    obtain ⟨s,hs⟩:=bp hlt
    rw [bK hs,List.any_cons] at hK
    have hlt':(m:Int)<l.length:=by omega
    have hix:az 1 (sls l) (I (m:Int))=some (.ip (aH s)):=bm hs
    refine cy.L0_step ?_
    simp only [kv,aa,a_,hlt',decide_true,ai,if_true,hix,dX,lY]
    have h1:=hb s (List.mem_of_getElem? hs)
    refine ak (Bt hB hN hsm h1.1 (by omega) h1.2 _) ?_
    have i1:(0:Int)≤(e:Int):=by omega
    have i2:(e:Int)<(L.length:Int):=by omega
    simp only [i1,i2,decide_true,Bool.and_self,Bool.true_and,Int.toNat_natCast]
    cases hb:frB L s e with
    | true=>rw [hb] at hK; simpa using hK H
    | false =>
     rw [hb] at hK
     simp only [ai,Bool.false_eq_true,if_false,bF,aa]
     rw [cn hlt hl.1 (by decide)]
     exact ihk (m+1) H (by omega) (by omega) (by simpa using hK)
  exact L0 _ 0 _ rfl (Nat.zero_le _) hK
end
end Go.Proofs.YthdcghnjndhecaaGreat.Ev
