/- The walks, part 6: the evaluator, the functions, the laws. Conditions: none. -/
import Derived.Test.YthdcghnjndhecaaGreatZ5
namespace Go.Proofs.YthdcghnjndhecaaGreat.Ev
set_option linter.unusedVariables false
set_option linter.unusedSimpArgs false
variable {σ:Sig}
structure Lk where
 part:Pt
 lists:List (List Nat)
def encN (n:Nat):List AV:=[I (n:Int)]
def ints (l:List Nat):AV:=.imm 1 (l.map encN)
def encLk (x:Lk):List AV:=encPt x.part++[.imm 1 (x.lists.map fun l=>[ints l])]
def chainV (c:List Lk):AV:=.imm 7 (c.map encLk)
theorem noId_ints (l:List Nat):noId (ints l)=true:=by unfold ints; simp only [noId]; exact noIds_map _ (fun _=>rfl) _
theorem noId_lk (x:Lk):noIds (encLk x)=true:=by
 unfold encLk
 exact noIds_app (noId_Pt _) (by simp only [noIds,noId,noIds_map _ (show ∀ l,noIds [ints l]=true from fun l=>by simp [noIds,noId_ints]),Bool.and_self])
@[simp] theorem len_lk (x:Lk):(encLk x).length=7:=by simp [encLk]
def encQ (n i e:Nat) (a:Bool):List AV:=[I (n:Int),I (i:Int),I (e:Int),Bo a]
abbrev qKK:List KK:=[.int .i64,.int .i64,.int .i64,.bool]
theorem encQ_inj {n i e n' i' e':Nat} {a a':Bool} (h:encQ n i e a=encQ n' i' e' a'):n=n'∧i=i'∧e=e'∧a=a':=by
 simp only [encQ,List.cons.injEq,AV.lit.injEq,Value.int.injEq,Value.bool.injEq,true_and,and_true] at h
 exact ⟨by omega,by omega,by omega,h.2.2.2⟩
def MemoOk (N:Nat) (T:Nat→Nat→Nat→Bool→Bool) (es:List (AV × AV)):Prop:=∀ p ∈ es,∃ n i e a,n<N∧p=(.agg (encQ n i e a),Bo (T n i e a))∧kOk true qKK p.1=true
theorem memo_find {N:Nat} {T:Nat→Nat→Nat→Bool→Bool}:∀ {es:List (AV × AV)},MemoOk N T es→∀ n i e a,mfind (.agg (encQ n i e a)) es=none∨mfind (.agg (encQ n i e a)) es=some (Bo (T n i e a))
 | [],_,n,i,e,a=>.inl rfl
 | (x,y)::r,h,n,i,e,a=>by
  obtain ⟨n',i',e',a',_,hp,_⟩:=h (x,y) (by simp)
  cases hp
  unfold mfind
  by_cases he:AV.agg (encQ n' i' e' a')=.agg (encQ n i e a)
  ·rw [if_pos he]
   obtain ⟨rfl,rfl,rfl,rfl⟩:=encQ_inj (AV.agg.inj he)
   exact .inr rfl
  ·rw [if_neg he]
   exact memo_find (fun p hp=>h p (by simp [hp])) n i e a
theorem memo_put {N:Nat} {T:Nat→Nat→Nat→Bool→Bool} {n i e:Nat} {a:Bool} (hnN:n<N) (hk:kOk true qKK (.agg (encQ n i e a))=true):∀ {es:List (AV × AV)},MemoOk N T es→MemoOk N T (mput (.agg (encQ n i e a)) (Bo (T n i e a)) es)
 | [],_=>fun p hp=>by
  simp [mput] at hp
  subst hp
  exact ⟨n,i,e,a,hnN,rfl,hk⟩
 | (x,y)::r,h=>by
  obtain ⟨n',i',e',a',hn',hp,hk'⟩:=h (x,y) (by simp)
  cases hp
  unfold mput
  by_cases he:AV.agg (encQ n' i' e' a')=.agg (encQ n i e a)
  ·rw [if_pos he]
   intro p hp
   rcases List.mem_cons.1 hp with rfl | hp
   ·exact ⟨n,i,e,a,hnN,by rw [he],by rw [he]; exact hk⟩
   ·exact h p (by simp [hp])
  ·rw [if_neg he]
   intro p hp
   rcases List.mem_cons.1 hp with rfl | hp
   ·exact ⟨n',i',e',a',hn',rfl,hk'⟩
   ·exact memo_put hnN hk (fun p hp=>h p (by simp [hp])) p hp
theorem memo_all {N:Nat} {T:Nat→Nat→Nat→Bool→Bool} {es:List (AV × AV)} (h:MemoOk N T es):es.all (fun p=>kOk true qKK p.1)=true:=by
 rw [List.all_eq_true]
 intro p hp
 obtain ⟨n,i,e,a,_,_,hk⟩:=h p hp
 exact hk
structure Asks (t:AV) (C:List (List Lk)) (T:Nat→Nat→Nat→Bool→Bool) (ab mb:Nat) (cs:AV) (H:Hp):Prop where
 gab:H.get ab=some (.cells [t,cs,.mp mb] true)
 nab:ab<H.n
 nmb:mb<H.n
 ne:ab≠mb
 gcs:Gs 1 H cs (C.map fun c=>[chainV c])
 csm:¬ own cs mb
 memo:∃ es,H.get mb=some (.map es)∧MemoOk C.length T es
structure Kp (mb:Nat) (H H':Hp):Prop where
 up:H.n≤H'.n
 get:∀ (j:Nat),j<H.n→j≠mb→H'.get j=H.get j
theorem Kp.refl (mb:Nat) (H:Hp):Kp mb H H:=⟨Nat.le_refl _,fun _ _ _=>rfl⟩
theorem Kp.trans {mb:Nat} {H H1 H2:Hp} (h:Kp mb H H1) (k:Kp mb H1 H2):Kp mb H H2:=⟨Nat.le_trans h.up k.up,fun j hj hne=>by rw [k.get j (Nat.lt_of_lt_of_le hj h.up) hne,h.get j hj hne]⟩
theorem Kp.new (mb:Nat) (H:Hp) (b:Blk):Kp mb H (H.new b):=by
 refine ⟨by simp,fun j hj _=>?_⟩
 have:j≠H.n:=by omega
 simp [this]
theorem Kp.setN {mb:Nat} {H H':Hp} (h:Kp mb H H') {j:Nat} (hj:H.n≤j) (b:Option Blk):Kp mb H (H'.set j b):=by
 refine ⟨by simpa using h.up,fun i hi hne=>?_⟩
 have:i≠j:=by omega
 simp [this]; exact h.get i hi hne
theorem Asks.keep {t:AV} {C:List (List Lk)} {T:Nat→Nat→Nat→Bool→Bool} {ab mb:Nat} {cs:AV} {H H':Hp} (h:Asks t C T ab mb cs H) (hn:H.n≤H'.n) (hg:∀ j,j<H.n→H'.get j=H.get j):Asks t C T ab mb cs H':=by
 obtain ⟨es,he,hm⟩:=h.memo
 exact ⟨by rw [hg _ h.nab]; exact h.gab,Nat.lt_of_lt_of_le h.nab hn,Nat.lt_of_lt_of_le h.nmb hn,h.ne,h.gcs.keep (fun j hj=>hg j (h.gcs.lt hj)) hn,h.csm,es,by rw [hg _ h.nmb]; exact he,hm⟩
theorem Asks.new {t:AV} {C:List (List Lk)} {T:Nat→Nat→Nat→Bool→Bool} {ab mb:Nat} {cs:AV} {H:Hp} (h:Asks t C T ab mb cs H) (b:Blk):Asks t C T ab mb cs (H.new b):=by
 refine h.keep (by simp) fun j hj=>?_
 have:j≠H.n:=by omega
 simp [this]
theorem Asks.setN {t:AV} {C:List (List Lk)} {T:Nat→Nat→Nat→Bool→Bool} {ab mb:Nat} {cs:AV} {H0 H:Hp} (h0:Asks t C T ab mb cs H0) (h:Asks t C T ab mb cs H) {j:Nat} (hj:H0.n≤j) (b:Option Blk):Asks t C T ab mb cs (H.set j b):=by
 obtain ⟨es,he,hm⟩:=h.memo
 have a1:=h0.nab
 have a2:=h0.nmb
 have e1:ab≠j:=by omega
 have e2:mb≠j:=by omega
 refine ⟨by simp [e1,h.gab],by simpa using h.nab,by simpa using h.nmb,h.ne,h.gcs.keep (fun i hi=>?_) (by simp),h.csm,es,by simp [e2,he],hm⟩
 have:=h0.gcs.lt hi
 have:i≠j:=by omega
 simp [this]
theorem Asks.pure {L:List Nd} {d:List Nat} {C:List (List Lk)} {T:Nat→Nat→Nat→Bool→Bool} {ab mb:Nat} {cs:AV} {H:Hp} (h:Asks (domT L d) C T ab mb cs H) {f:Nat} {xs:List AV} {r:AV}
  (hg:Good Tryz.prog σ f (.ip (domT L d::[])::xs) Hp.empty r Hp.empty) (hx:noIds xs=true) (hr:plainV r=true):Good Tryz.prog σ f (.ptr ab 0::xs) H r H:=by
 refine hg.frzA (.cons (.ptr (fun _=>domT L d) h.gab (fun j y hj=>?_) (fun j y hj=>?_)) (FzL.refl hx)) hr
 ·have:j=0:=by have:=(List.getElem?_eq_some_iff.1 hj).1; simp at this; omega
  subst this; simp
 ·have:j=0:=by have:=(List.getElem?_eq_some_iff.1 hj).1; simp at this; omega
  subst this
  simp at hj; subst hj
  exact .refl (noId_domT L d)
theorem once_sp {t:AV} {C:List (List Lk)} {T:Nat→Nat→Nat→Bool→Bool} {ab mb:Nat} {cs:AV} {H:Hp} (h:Asks t C T ab mb cs H) {n i e:Nat} {a:Bool} (hnN:n<C.length) (hk:kOk true qKK (.agg (encQ n i e a))=true) {fv:AV} {K:AV→Hp→Prop}
  (how:∀ H1 (K1:AV→Hp→Prop),Asks t C T ab mb cs H1→Kp mb H H1→(∀ H2,Asks t C T ab mb cs H2→Kp mb H1 H2→K1 (Bo (T n i e a)) H2)→callV Tryz.prog σ fv [] H1 K1)
  (hK:∀ H',Asks t C T ab mb cs H'→Kp mb H H'→K (Bo (T n i e a)) H'):callK Tryz.prog σ n_match_asked_once [.ptr ab 0,.agg (encQ n i e a),fv] H K:=by
 obtain ⟨es,hes,hm⟩:=h.memo
 have e1:ab≠H.n:=by have:=h.nab; omega
 have e2:mb≠H.n:=by have:=h.nmb; omega
 refine match_asked_once.run ?_
 have hl:ldL true 4 (encQ n i e a)=some (.agg (encQ n i e a)):=rfl
 simp only [boxK_agg,n_ptr,bnd_some,sh_ptr,Nat.zero_add,ld_ptr,hp_get_new,e1,if_false,if_true,h.gab,ldO_cells,List.drop_zero,hl]
 simp only [List.drop,ldL_one,bnd_some,lookR,hp_get_new,e2,if_false,hes,hk,memo_all hm,Bool.and_self,cond_true]
 rcases memo_find hm n i e a with hf | hf
 ·rw [hf]
  simp [mres]
  refine how _ _ (h.new _) (Kp.new _ _ _) fun H2 h2 k2=>?_
  obtain ⟨es2,hes2,hm2⟩:=h2.memo
  have hbox:H2.get H.n=some (.cells (encQ n i e a) true):=by rw [k2.get H.n (by simp) (Ne.symm e2)]; simp
  simp only [h2.gab,ldO_cells,List.drop_succ_cons,List.drop_zero,ldL_one,bnd_some,hbox,hl,putR,hes2,hk,memo_all hm2,isAny_lit,Bool.not_false,Bool.and_self,cond_true]
  refine hK _ ?_ ?_
  ·refine ⟨by simp [h2.ne,h2.gab],by simpa using h2.nab,by simpa using h2.nmb,h2.ne,h2.gcs.keep (fun j hj=>?_) (by simp),h2.csm,_,by simp,memo_put hnN hk hm2⟩
   have:j≠mb:=fun e=>h2.csm (e ▸ hj)
   simp [this]
  ·have:=(Kp.new mb H (.cells (encQ n i e a) true)).trans k2
   exact ⟨by simpa using this.up,fun j hj hne=>by simp [hne]; exact this.get j hj hne⟩
 ·rw [hf]
  simp [mres]
  exact hK _ (h.new _) (Kp.new _ _ _)
end Go.Proofs.YthdcghnjndhecaaGreat.Ev
namespace Go.Proofs.YthdcghnjndhecaaGreat.Ev
set_option linter.unusedVariables false
set_option linter.unusedSimpArgs false
variable {σ:Sig}
def FitC (c:Cp):Prop:=c.ids.length≤5∧c.classes.length≤5∧c.attrs.length≤5∧c.pseudos.length≤5
def FitL:Nat→List Sl→Prop
 | 0,_=>False
 | f+1,l=>∀ s ∈ l,s.length≤60∧∀ p ∈ s,FitC p.c∧∀ q ∈ p.c.pseudos,FitL f q.list
def FitS (f:Nat) (s:Sl):Prop:=s.length≤60∧∀ p ∈ s,FitC p.c∧∀ q ∈ p.c.pseudos,FitL f q.list
def FitP (f:Nat) (p:Pt):Prop:=FitC p.c∧∀ q ∈ p.c.pseudos,FitL f q.list
def DearP (f:Nat) (l:List Sl) (n:Int):Prop:=0≤n∧n≤200*4 ^ f∧(n≤40→FitL f l)
theorem dear_step (f:Nat) (hf:f≤10) (ih:∀ l,slsWf Lmax l→∃ n,(∀ H,Good Tryz.prog σ n_law10_dear [sls l,I ((11 - f:Nat):Int)] H (I n) H)∧DearP f l n) (l:List Sl) (hl:slsWf Lmax l) :
  ∃ n,(∀ H,Good Tryz.prog σ n_law10_dear [sls l,I ((10 - f:Nat):Int)] H (I n) H)∧DearP (f+1) l n:=by
 have h4:4 ^ f ≥ 1:=Nat.one_le_pow _ _ (by omega)
 have h4b:4 ^ f≤1048576:=by
  calc 4 ^ f≤4 ^ 10:=Nat.pow_le_pow_right (by omega) hf
   _=1048576:=by decide
 have hpow:(200*4 ^ (f+1):Int)=800*4 ^ f:=by rw [Int.pow_succ]; omega
 have cast4:((4 ^ f:Nat):Int)=(4:Int) ^ f:=by simp
 let K:AV→Hp→Prop:=fun r _=>∃ n,r=I n∧DearP (f+1) l n
 have stop:∀ H,K (I 100) H:=fun H=>⟨100,rfl,by omega,by rw [hpow]; omega,fun h=>by omega⟩
 have L0:∀ (d k:Nat) (H:Hp) (n:Int) (y7 y8 y9 y10:AV),l.length - k=d→k≤l.length→0≤n→n≤200*4 ^ (f+1)→(n≤40→∀ s ∈ l.take k,FitS f s) →
   law10_dear.L0 σ K (sls l) (I ((10 - f:Nat):Int)) (I n) (I k) y7 y8 y9 y10 H:=by
  intro d
  induction d with
  | zero =>
   intro k H n y7 y8 y9 y10 hd hk hn hn2 hfit
   have e:k=l.length:=by omega
   subst e
   refine law10_dear.L0_step ?_
   simp [sls]
   exact ⟨n,rfl,hn,hn2,fun h=>by simpa [FitL,FitS] using hfit h⟩
  | succ d ihd =>
   intro k H n y7 y8 y9 y10 hd hk hn hn2 hfit
   have hlt:k<l.length:=by omega
   obtain ⟨s,hs⟩:=get_lt hlt
   have hsw:=hl.2 s (List.mem_of_getElem? hs)
   have htake:∀ (P:Sl→Prop),(∀ x ∈ l.take k,P x)→P s→∀ x ∈ l.take (k+1),P x:=by
    intro P h1 h2 x hx
    rw [List.take_add_one,hs] at hx
    simp only [Option.toList_some,List.mem_append,List.mem_singleton] at hx
    rcases hx with hx | rfl
    ·exact h1 x hx
    ·exact h2
   have L1:∀ (d2 j:Nat) (H:Hp) (n:Int) (y9 y10:AV),s.length - j=d2→j≤s.length→s.length≤60→0≤n→n≤200*4 ^ (f+1)→(n≤40→(∀ s ∈ l.take k,FitS f s)∧∀ p ∈ s.take j,FitP f p) →
     law10_dear.L1 σ K (sls l) (I ((10 - f:Nat):Int)) (I n) (I k) (.imm 6 (s.map encPt)) (I j) y9 y10 H:=by
    intro d2
    induction d2 with
    | zero =>
     intro j H n y9 y10 hd2 hj h60 hn hn2 hfit2
     have e:j=s.length:=by omega
     subst e
     refine law10_dear.L1_step ?_
     simp
     rw [wr_succL hlt hl.1]
     exact ihd (k+1) H n _ _ _ _ (by omega) (by omega) hn hn2 fun h=>htake _ (hfit2 h).1 ⟨h60,by simpa [FitP] using (hfit2 h).2⟩
    | succ d2 ihd2 =>
     intro j H n y9 y10 hd2 hj h60 hn hn2 hfit2
     have hjlt:j<s.length:=by omega
     obtain ⟨p,hp⟩:=get_lt hjlt
     have hpw:=(Pt.wf_iff.1 (hsw.2 p (List.mem_of_getElem? hp))).2
     have htake2:∀ (P:Pt→Prop),(∀ x ∈ s.take j,P x)→P p→∀ x ∈ s.take (j+1),P x:=by
      intro P h1 h2 x hx
      rw [List.take_add_one,hp] at hx
      simp only [Option.toList_some,List.mem_append,List.mem_singleton] at hx
      rcases hx with hx | rfl
      ·exact h1 x hx
      ·exact h2
     have L2:∀ (d3 i:Nat) (H:Hp) (n:Int) (id:Nat),H.get id=some (.cells (encCp p.c) true)→p.c.pseudos.length - i=d3→i≤p.c.pseudos.length→FitC p.c→0≤n→n≤200*4 ^ (f+1) →
       (n≤40→(∀ s ∈ l.take k,FitS f s)∧(∀ p ∈ s.take j,FitP f p)∧∀ q ∈ p.c.pseudos.take i,FitL f q.list) →
       law10_dear.L2 σ K (sls l) (I ((10 - f:Nat):Int)) (I n) (I k) (.imm 6 (s.map encPt)) (I j) (.ptr id 0) (I i) H:=by
      intro d3
      induction d3 with
      | zero =>
       intro i H n id hid hd3 hi hc hn hn2 hfit3
       have e:i=p.c.pseudos.length:=by omega
       subst e
       refine law10_dear.L2_step ?_
       simp [hid,encCp_eq]
       rw [wr_succL hjlt hsw.1]
       exact ihd2 (j+1) H n _ _ (by omega) (by omega) h60 hn hn2 fun h=>⟨(hfit3 h).1,htake2 _ (hfit3 h).2.1 ⟨hc,by simpa using (hfit3 h).2.2⟩⟩
      | succ d3 ihd3 =>
       intro i H n id hid hd3 hi hc hn hn2 hfit3
       have hilt:i<p.c.pseudos.length:=by omega
       obtain ⟨q,hq⟩:=get_lt hilt
       have hqw:=(Ps.wf_iff.1 (hpw.ps q (List.mem_of_getElem? hq))).2.2.2
       obtain ⟨m,hm,hm0,hm1,hm2⟩:=ih q.list hqw
       refine law10_dear.L2_step ?_
       have e1:wr .i64 (((10 - f:Nat):Int)+1)=((11 - f:Nat):Int):=by rw [wr64 (by omega) (by omega)]; omega
       simp [hid,encCp_eq,ix_map hq,encPs_eq,hilt]
       split
       ·rename_i hlt100
        refine callK_of (by rw [e1]; exact hm H) ?_
        simp only [b_mul,bnd_some,b_add]
        have e2:wr .i64 (3*m)=3*m:=wr64 (by omega) (by omega)
        have e3:wr .i64 (n+3*m)=n+3*m:=wr64 (by omega) (by omega)
        rw [e2,e3,wr_succL hilt hpw.psL]
        refine ihd3 (i+1) H (n+3*m) id hid (by omega) (by omega) hc (by omega) (by rw [hpow]; omega) fun h=>?_
        have:=hfit3 (by omega)
        refine ⟨this.1,this.2.1,fun x hx=>?_⟩
        rw [List.take_add_one,hq] at hx
        simp only [Option.toList_some,List.mem_append,List.mem_singleton] at hx
        rcases hx with hx | rfl
        ·exact this.2.2 x hx
        ·exact hm2 (by omega)
       ·rw [wr_succL hjlt hsw.1]
        refine ihd2 (j+1) H n _ _ (by omega) (by omega) h60 hn hn2 fun h=>by omega
     refine law10_dear.L1_step ?_
     simp [ix_map hp,ldL_all,overlay_all,encPt_eq,encCp_eq,hjlt]
     split
     ·rename_i hlt100
      have e1:wr .i64 (n+1)=n+1:=wr64 (by omega) (by omega)
      have e2:wr .i64 (n+1+((10 - f:Nat):Int))=n+1+((10 - f:Nat):Int):=wr64 (by omega) (by omega)
      simp only [e1,e2]
      split
      ·exact stop Hp.empty
      split
      ·exact stop Hp.empty
      split
      ·exact stop Hp.empty
      split
      ·exact stop Hp.empty
      ·refine L2 _ 0 _ _ H.n ?_ rfl (Nat.zero_le _) ⟨by omega,by omega,by omega,by omega⟩ (by omega) (by rw [hpow]; omega) fun h=>?_
       ·simp [encCp_eq]
       ·have:=hfit2 (by omega)
        exact ⟨this.1,this.2,fun x hx=>by simp at hx⟩
     ·rw [wr_succL hlt hl.1]
      exact ihd (k+1) H n _ _ _ _ (by omega) (by omega) hn hn2 fun h=>by omega
   refine law10_dear.L0_step ?_
   simp only [sls]
   simp [ix_map hs,encSl,hlt]
   have go:s.length≤60→∀ H,law10_dear.L1 σ K (.imm 1 (l.map encSl)) (I ((10 - f:Nat):Int)) (I n) (I k) (.imm 6 (s.map encPt)) (I 0) y9 y10 H :=
    fun h60 H=>L1 _ 0 H n y9 y10 rfl (Nat.zero_le _) h60 hn hn2 fun h=>⟨hfit h,fun x hx=>by simp at hx⟩
   split
   ·split
    ·split
     ·exact stop Hp.empty
     ·split
      ·exact stop Hp.empty
      ·exact go (by omega) _
    ·split
     ·exact stop Hp.empty
     ·exact go (by omega) _
   ·exact ⟨n,rfl,hn,hn2,fun h=>by omega⟩
 have run:∃ r H1,Good Tryz.prog σ n_law10_dear [sls l,I ((10 - f:Nat):Int)] Hp.empty r H1∧K r H1:=by
  refine law10_dear.run ?_
  simp
  rw [if_neg (by omega)]
  exact L0 _ 0 _ 0 _ _ _ _ rfl (Nat.zero_le _) (by omega) (by rw [hpow]; omega) fun _ x hx=>by simp at hx
 obtain ⟨r,H1,hg,n,rfl,hd⟩:=run
 exact ⟨n,fun H=>hg.over (by simp [noIds,noId]) rfl H,hd⟩
theorem dear_ok:∀ (f:Nat),f≤11→∀ (l:List Sl),slsWf Lmax l→∃ n,(∀ H,Good Tryz.prog σ n_law10_dear [sls l,I ((11 - f:Nat):Int)] H (I n) H)∧DearP f l n
 | 0,_,l,hl=>by
  have run:∃ r H1,Good Tryz.prog σ n_law10_dear [sls l,I ((11 - 0:Nat):Int)] Hp.empty r H1∧r=I 100:=law10_dear.run (by simp)
  obtain ⟨r,H1,hg,rfl⟩:=run
  exact ⟨100,fun H=>hg.over (by simp [noIds,noId]) rfl H,by omega,by simp,fun h=>by omega⟩
 | f+1,hf,l,hl=>by
  have:=dear_step f (by omega) (dear_ok f (by omega)) l hl
  rwa [show 10 - f=11 - (f+1) by omega] at this
theorem Dear_ok (l:List Sl) (hl:slsWf Lmax l):∃ b,(∀ H,Good Tryz.prog σ n_law10_Dear [sls l] H (Bo b) H)∧(b=false→FitL 11 l):=by
 obtain ⟨n,hn,h0,h1,h2⟩:=dear_ok (σ:=σ) 11 (by omega) l hl
 have run:∃ r H1,Good Tryz.prog σ n_law10_Dear [sls l] Hp.empty r H1∧r=Bo (decide (40<n)):=by
  refine law10_Dear.run (callK_of (hn _) ?_)
  simp
 obtain ⟨r,H1,hg,rfl⟩:=run
 exact ⟨_,fun H=>hg.over (by simp [noIds,noId]) rfl H,fun h=>h2 (by simpa using h)⟩
end Go.Proofs.YthdcghnjndhecaaGreat.Ev
namespace Go.Proofs.YthdcghnjndhecaaGreat.Ev
set_option linter.unusedVariables false
set_option linter.unusedSimpArgs false
variable {σ:Sig}
def aheadF (g:Nat→Bool) (L:List Nd) (k:Int):Nat→Nat→Bool
 | 0,_=>false
 | f+1,e=>decide (0≤standI L e k)&&(g (standI L e k).toNat||(farB k&&aheadF g L k f (standI L e k).toNat))
def pseudoB (any:List Sl→Nat→Bool) (L:List Nd) (e:Nat) (q:Ps):Bool :=
 if q.kind=1 then decide (par L e<0) else if q.kind=2 then decide (place L e=1) else if q.kind=3 then lastB L e else if q.kind=4 then decide (place L e=1)&&lastB L e
 else if q.kind=5 then decide (childI L e 0<0) else if q.kind=6 then nthB (place L e) q.a q.b else if q.kind=7 then !any q.list e else if q.kind=8 then any q.list e else false
def compB (any:List Sl→Nat→Bool) (L:List Nd) (e:Nat) (c:Cp):Bool:=plainB (lowN (ndAt L e)) c&&c.pseudos.all (pseudoB any L e)
def frontB (any:List Sl→Nat→Bool) (L:List Nd) (s:Sl):Nat→Nat→Bool
 | 0,e=>match s[0]? with
  | some p=>compB any L e p.c
  | none=>false
 | i+1,e=>match s[i+1]? with
  | some p=>compB any L e p.c&&aheadF (frontB any L s i) L p.comb (e+1) e
  | none=>false
def anyS (any:List Sl→Nat→Bool) (L:List Nd) (l:List Sl) (e:Nat):Bool:=l.any fun s=>!decide (s.length=0)&&frontB any L s (s.length - 1) e
def anyB (L:List Nd):Nat→List Sl→Nat→Bool
 | 0,_,_=>false
 | f+1,l,e=>anyS (anyB L f) L l e
def Nest:Nat→List Sl→Prop
 | 0,_=>False
 | f+1,l=>∀ s ∈ l,∀ p ∈ s,∀ q ∈ p.c.pseudos,Nest f q.list
theorem FitL.nest:∀ {f:Nat} {l:List Sl},FitL f l→Nest f l
 | 0,l,h=>h
 | f+1,l,h=>fun s hs p hp q hq=>(((h s hs).2 p hp).2 q hq).nest
theorem compB_congr {any any':List Sl→Nat→Bool} {L:List Nd} {c:Cp} (h:∀ q ∈ c.pseudos,∀ e,any q.list e=any' q.list e) (e:Nat):compB any L e c=compB any' L e c:=by
 unfold compB
 congr 1
 rw [Bool.eq_iff_iff,List.all_eq_true,List.all_eq_true]
 have:∀ q ∈ c.pseudos,pseudoB any L e q=pseudoB any' L e q:=fun q hq=>by unfold pseudoB; rw [h q hq]
 exact ⟨fun h q hq=>by rw [← this q hq]; exact h q hq,fun h q hq=>by rw [this q hq]; exact h q hq⟩
theorem aheadF_congr {g g':Nat→Bool} {L:List Nd} {k:Int} (h:∀ e,g e=g' e):∀ (f e:Nat),aheadF g L k f e=aheadF g' L k f e
 | 0,e=>rfl
 | f+1,e=>by unfold aheadF; rw [h,aheadF_congr h f]
theorem frontB_congr {any any':List Sl→Nat→Bool} {L:List Nd} {s:Sl} (h:∀ p ∈ s,∀ q ∈ p.c.pseudos,∀ e,any q.list e=any' q.list e):∀ (i e:Nat),frontB any L s i e=frontB any' L s i e
 | 0,e=>by
  unfold frontB
  cases hs:s[0]? with
  | none=>rfl
  | some p=>exact compB_congr (h p (List.mem_of_getElem? hs)) e
 | i+1,e=>by
  unfold frontB
  cases hs:s[i+1]? with
  | none=>rfl
  | some p =>
   simp only
   rw [compB_congr (h p (List.mem_of_getElem? hs)) e,aheadF_congr (frontB_congr h i)]
theorem anyS_congr {any any':List Sl→Nat→Bool} {L:List Nd} {l:List Sl} (h:∀ s ∈ l,∀ p ∈ s,∀ q ∈ p.c.pseudos,∀ e,any q.list e=any' q.list e) (e:Nat):anyS any L l e=anyS any' L l e:=by
 unfold anyS
 rw [Bool.eq_iff_iff,List.any_eq_true,List.any_eq_true]
 have:∀ s ∈ l,(!decide (s.length=0)&&frontB any L s (s.length - 1) e)=(!decide (s.length=0)&&frontB any' L s (s.length - 1) e):=fun s hs=>by rw [frontB_congr (h s hs)]
 exact ⟨fun ⟨s,hs,h⟩=>⟨s,hs,by rw [← this s hs]; exact h⟩,fun ⟨s,hs,h⟩=>⟨s,hs,by rw [this s hs]; exact h⟩⟩
theorem anyB_nest {L:List Nd}:∀ (f g:Nat) (l:List Sl) (e:Nat),Nest f l→f≤g→anyB L g l e=anyB L f l e
 | 0,g,l,e,h,_=>h.elim
 | f+1,0,l,e,h,hfg=>by omega
 | f+1,g+1,l,e,h,hfg=>by
  unfold anyB
  exact anyS_congr (fun s hs p hp q hq e=>anyB_nest f g q.list e (h s hs p hp q hq) (by omega)) e
def AA (L:List Nd):List Sl→Nat→Bool:=anyB L 12
theorem AA_eq {L:List Nd} {f:Nat} {l:List Sl} (h:Nest f l) (hf:f≤12) (e:Nat):anyS (AA L) L l e=AA L l e:=by
 show anyB L 13 l e=anyB L 12 l e
 rw [anyB_nest f 13 l e h (by omega),anyB_nest f 12 l e h hf]
def selC (C:List (List Lk)) (n:Nat):Sl:=(C.getD n []).map (·.part)
def Tru (L:List Nd) (C:List (List Lk)) (n i e:Nat):Bool→Bool
 | false=>frontB (AA L) L (selC C n) i e
 | true=>match (selC C n)[i]? with
  | some p=>aheadF (frontB (AA L) L (selC C n) (i - 1)) L p.comb (e+1) e
  | none=>false
def RepC (R:List Sl→List Nat→Prop) (C:List (List Lk)) (s:Sl) (n:Nat):Prop :=
 ∃ c,C[n]?=some c∧c.map (·.part)=s∧∀ (k:Nat) (x:Lk),c[k]?=some x→x.lists.length=x.part.c.pseudos.length∧∀ (j:Nat) (q:Ps) (ns:List Nat),x.part.c.pseudos[j]?=some q→x.lists[j]?=some ns→R q.list ns
def Rep (C:List (List Lk)):Nat→List Sl→List Nat→Prop
 | 0,_,_=>False
 | f+1,l,ns=>ns.length=l.length∧∀ (i:Nat) (s:Sl) (n:Nat),l[i]?=some s→ns[i]?=some n→RepC (Rep C f) C s n
theorem RepC.sel {R:List Sl→List Nat→Prop} {C:List (List Lk)} {s:Sl} {n:Nat} (h:RepC R C s n):selC C n=s:=by
 obtain ⟨c,hc,hs,_⟩:=h
 unfold selC
 rw [List.getD_eq_getElem?_getD,hc]
 exact hs
structure LkOk (x:Lk):Prop where
 c:CpOk x.part.c
 ps:∀ q ∈ x.part.c.pseudos,i64 q.a∧i64 q.b
 ls:∀ l ∈ x.lists,l.length≤reachBytes
structure Mc (σ:Sig) (L:List Nd) (d:List Nat) (C:List (List Lk)):Prop where
 hC:HasC σ
 hB:Built L L.length d
 hN:L.length≤4096
 sm:∀ e,e<L.length→SmN (lowN (ndAt L e))
 cl:C.length≤reachBytes
 ll:∀ c ∈ C,c.length≤reachBytes
 lk:∀ c ∈ C,∀ x ∈ c,LkOk x
theorem Gs.ld1 {H:Hp} {x v:AV} {rows:List (List AV)} {n:Nat} (h:Gs 1 H x rows) (hn:rows[n]?=some [v]):∃ p,ixaSl 1 x (I (n:Int))=some p∧ldA false 1 H p=some v:=by
 have hlt:=(List.getElem?_eq_some_iff.1 hn).1
 cases h with
 | nil=>simp at hlt
 | sl hl hg hsz =>
  rename_i id ex
  refine ⟨.ptr id (0+(n:Int).toNat*1),ix_sl (by omega) (by omega),?_⟩
  have:=flat_drop hsz hlt
  rw [List.getElem?_eq_getElem hlt] at hn
  rw [Option.some.inj hn] at this
  simp [hg]
  rw [Nat.mul_one] at this
  rw [this]
  simp
section
variable {L:List Nd} {d:List Nat} {C:List (List Lk)}
def AskK (σ:Sig) (L:List Nd) (d:List Nat) (C:List (List Lk)) (f:Nat) (xs:List AV) (b:Bool):Prop :=
 ∀ (ab mb:Nat) (cs:AV) (H:Hp) (K:AV→Hp→Prop),Asks (domT L d) C (Tru L C) ab mb cs H→(∀ H',Asks (domT L d) C (Tru L C) ab mb cs H'→Kp mb H H'→K (Bo b) H')→callK Tryz.prog σ f (.ptr ab 0::xs) H K
theorem AskK.pure {f:Nat} {xs:List AV} {b:Bool} (h:∀ H,Good Tryz.prog σ f (.ip (domT L d::[])::xs) H (Bo b) H) (hx:noIds xs=true):AskK σ L d C f xs b :=
 fun ab mb cs H K hA hK=>callK_of (hA.pure (h Hp.empty) hx rfl) (hK H hA (.refl _ _))
def AnyOk (σ:Sig) (L:List Nd) (d:List Nat) (C:List (List Lk)) (f:Nat):Prop:=∀ (l:List Sl) (ns:List Nat),Rep C f l ns→Nest f l→f≤12→ns.length≤reachBytes→∀ e,e<L.length→AskK σ L d C n_match_asked_any [I (e:Int),ints ns] (AA L l e)
theorem pseudo_sp (M:Mc σ L d C) {f:Nat} (hA:AnyOk σ L d C f) (hf:f≤12) {q:Ps} (hq:i64 q.a∧i64 q.b) {ns:List Nat} (hr:(q.kind=7∨q.kind=8)→Rep C f q.list ns) (hnest:(q.kind=7∨q.kind=8)→Nest f q.list) (hns:ns.length≤reachBytes) {e:Nat} (he:e<L.length) :
  AskK σ L d C n_match_asked_pseudo [I (e:Int),.agg (encPs q),ints ns] (pseudoB (AA L) L e q):=by
 intro ab mb cs H K hA0 hK
 have hpar:=par_bd M.hB he
 have hpl:=place_bd L e
 have e1:ab≠H.n:=by have:=hA0.nab; omega
 have a1:=hA0.new (.cells (encPs q) true)
 have k1:=Kp.new mb H (.cells (encPs q) true)
 refine match_asked_pseudo.run ?_
 simp [encPs_eq,e1,hA0.gab]
 have e2:∀ Ks:AV→Hp→Prop,Ks=Ks:=fun _=>rfl
 unfold pseudoB at hK
 have hH:Hp.new H (.cells [I q.kind,I q.a,I q.b,.imm 1 (q.list.map encSl)] true)=Hp.new H (.cells (encPs q) true):=by rw [encPs_eq]
 rw [hH]
 obtain ⟨H1,hH1⟩:∃ H1,H1=H.new (.cells (encPs q) true):=⟨_,rfl⟩
 have gq:H1.get H.n=some (.cells [I q.kind,I q.a,I q.b,.imm 1 (q.list.map encSl)] true):=by rw [hH1,← encPs_eq]; simp
 rw [← hH1] at a1 k1 ⊢
 have pur:∀ {g:Nat} {xs:List AV} {b:Bool},(∀ H,Good Tryz.prog σ g (.ip (domT L d::[])::xs) H (Bo b) H)→noIds xs=true→Good Tryz.prog σ g (.ptr ab 0::xs) H1 (Bo b) H1:=fun h hx=>a1.pure (h Hp.empty) hx rfl
 split
 ·rename_i h
  rw [if_pos h] at hK
  refine callK_of (Parent_ok L d M.hN he _) ?_
  simpa using hK H1 a1 k1
 rename_i h1
 rw [if_neg h1] at hK
 split
 ·rename_i h
  rw [if_pos h] at hK
  refine callK_of (Place_ok L d M.hN he _) ?_
  simpa using hK H1 a1 k1
 rename_i h2
 rw [if_neg h2] at hK
 split
 ·rename_i h
  rw [if_pos h] at hK
  exact callK_of (pur (fun H=>lastM_ok M.hB M.hN he [] rfl H) rfl) (hK H1 a1 k1)
 rename_i h3
 rw [if_neg h3] at hK
 split
 ·rename_i h
  rw [if_pos h] at hK
  refine callK_of (Place_ok L d M.hN he _) ?_
  simp
  split
  ·rename_i hp
   simp [hp] at hK
   exact callK_of (pur (fun H=>lastM_ok M.hB M.hN he [] rfl H) rfl) (hK H1 a1 k1)
  ·rename_i hp
   simp [hp] at hK
   exact hK H1 a1 k1
 rename_i h4
 rw [if_neg h4] at hK
 split
 ·rename_i h
  rw [if_pos h] at hK
  have:=Child_ok (σ:=σ) L d M.hN (k:=0) he
  refine callK_of (this _) ?_
  simpa using hK H1 a1 k1
 rename_i h5
 rw [if_neg h5] at hK
 split
 ·rename_i h
  rw [if_pos h] at hK
  refine callK_of (Place_ok L d M.hN he _) ?_
  simp [gq]
  refine callK_of (nth_ok ?_ hq.1 hq.2 _) (hK H1 a1 k1)
  have:=M.hN
  unfold i64
  omega
 rename_i h6
 rw [if_neg h6] at hK
 split
 ·rename_i h
  rw [if_pos h] at hK
  refine hA q.list ns (hr (.inl h)) (hnest (.inl h)) hf hns e he ab mb cs H1 _ a1 fun H2 a2 k2=>?_
  simp
  exact hK H2 a2 (k1.trans k2)
 rename_i h7
 rw [if_neg h7] at hK
 split
 ·rename_i h
  rw [if_pos h] at hK
  exact hA q.list ns (hr (.inr h)) (hnest (.inr h)) hf hns e he ab mb cs H1 _ a1 fun H2 a2 k2=>hK H2 a2 (k1.trans k2)
 ·rename_i h
  rw [if_neg h] at hK
  exact hK H1 a1 k1
theorem lk_c (x:Lk):ldL true 5 ((encLk x).drop 1)=some (.agg (encCp x.part.c)):=by
 have e:(encLk x).drop 1=encCp x.part.c++[.imm 1 (x.lists.map fun l=>[ints l])]:=by
  unfold encLk; rw [encPt_eq]; rfl
 rw [e,ldL_agg (by simp)]
 rw [List.take_append_of_le_length (by simp),List.take_of_length_le (by simp)]
theorem lk_ps (x:Lk):ldL false 1 ((encLk x).drop 5)=some (.imm 4 (x.part.c.pseudos.map encPs)):=by
 unfold encLk; rw [encPt_eq,encCp_eq]; rfl
theorem lk_ls (x:Lk):ldL false 1 ((encLk x).drop 6)=some (.imm 1 (x.lists.map fun l=>[ints l])):=by
 unfold encLk; rw [encPt_eq,encCp_eq]; rfl
theorem lk_comb (x:Lk):ldL false 1 (encLk x)=some (I x.part.comb):=by
 unfold encLk; rw [encPt_eq]; rfl
section
attribute [local irreducible] match_asked_compound.L0
theorem compound_sp (M:Mc σ L d C) {f:Nat} (hA:AnyOk σ L d C f) (hf:f≤12) {x:Lk} (hx:LkOk x) (hl:x.lists.length=x.part.c.pseudos.length) (hr:∀ (j:Nat) (q:Ps) (ns:List Nat),x.part.c.pseudos[j]?=some q→x.lists[j]?=some ns→Rep C f q.list ns) (hn:∀ q ∈ x.part.c.pseudos,Nest f q.list) {e:Nat} (he:e<L.length) :
  AskK σ L d C n_match_asked_compound [I (e:Int),.agg (encLk x)] (compB (AA L) L e x.part.c):=by
 intro ab mb cs H K hA0 hK
 have a1:=hA0.new (.cells (encLk x) true)
 have k1:=Kp.new mb H (.cells (encLk x) true)
 have hml:mb≠H.n:=by have:=hA0.nmb; omega
 have hm1:mb<H.n:=hA0.nmb
 have hps:=hx.c.ps
 have L0:∀ (m k:Nat) (H1:Hp),x.part.c.pseudos.length - m=k→m≤x.part.c.pseudos.length→Asks (domT L d) C (Tru L C) ab mb cs H1→Kp mb (H.new (.cells (encLk x) true)) H1 →
   (∀ H',Asks (domT L d) C (Tru L C) ab mb cs H'→Kp mb H H'→K (Bo ((x.part.c.pseudos.drop m).all (pseudoB (AA L) L e))) H')→match_asked_compound.L0 σ K (.ptr ab 0) (I (e:Int)) (.ptr H.n 0) (.imm 4 (x.part.c.pseudos.map encPs)) (I x.part.c.pseudos.length) (I m) H1:=by
  intro m k
  revert m
  induction k with
  | zero =>
   intro m H1 hk hm h1 kp hK
   have:m=x.part.c.pseudos.length:=by omega
   subst this
   refine match_asked_compound.L0_step ?_
   simp
   simpa using hK H1 h1 (k1.trans kp)
  | succ k ih =>
   intro m H1 hk hm h1 kp hK
   have hlt:m<x.part.c.pseudos.length:=by omega
   obtain ⟨q,hq⟩:=get_lt hlt
   obtain ⟨ns,hns⟩:=get_lt (l:=x.lists) (k:=m) (by omega)
   have hqm:=List.mem_of_getElem? hq
   rw [drop_get hq] at hK
   have hlt':(m:Int)<x.part.c.pseudos.length:=by omega
   have gx:H1.get H.n=some (.cells (encLk x) true):=by rw [kp.get H.n (by simp) (Ne.symm hml)]; simp
   have hup:=kp.up
   simp at hup
   have n1:H.n≠H1.n:=by omega
   refine match_asked_compound.L0_step ?_
   have hls:ixaSl 1 (.imm 1 (x.lists.map fun l=>[ints l])) (I (m:Int))=some (.ip [ints ns]):=by
    have:=ix_map (f:=fun l:List Nat=>[ints l]) (sz:=1) hns
    exact this
   simp only [b_lss,hlt',decide_true,bnd_some,ifB_lit,if_true,ix_map hq,ld_ip,ldL_ps,allocK_eq]
   have hst:stA 4 (H1.new (.cells [I 0,I 0,I 0,.lit (.slice none 0 0)] true)) (.ptr H1.n 0) (.agg (encPs q))=some ((H1.new (.cells [I 0,I 0,I 0,.lit (.slice none 0 0)] true)).set H1.n (some (.cells (encPs q) true))):=by
    simp
    rw [ov_Ps q (by simp)]
   rw [hst,bnd_some]
   simp only [ld_ptr,hp_get_set,if_true,ldO_cells,List.drop_zero,ldL_ps,bnd_some,sh_ptr,Nat.zero_add,n1,if_false,hp_get_new,gx,lk_ls]
   rw [hls,bnd_some]
   simp only [ld_ip,ldL_one,bnd_some]
   have a2:=h1.setN (h1.new (.cells [I 0,I 0,I 0,.lit (.slice none 0 0)] true)) (Nat.le_refl H1.n) (some (.cells (encPs q) true))
   have k2:=(Kp.new mb H1 (.cells [I 0,I 0,I 0,.lit (.slice none 0 0)] true)).setN (Nat.le_refl H1.n) (some (.cells (encPs q) true))
   refine pseudo_sp M hA hf (hx.ps q hqm) (fun _=>hr m q ns hq hns) (fun _=>hn q hqm) (hx.ls ns (List.mem_of_getElem? hns)) he ab mb cs _ _ a2 fun H2 a3 k3=>?_
   simp only [u_not,bnd_some,ifB_lit]
   cases hb:pseudoB (AA L) L e q with
   | false =>
    simp [hb] at hK
    simp
    exact hK H2 a3 (k1.trans (kp.trans (k2.trans k3)))
   | true =>
    simp [hb] at hK
    simp
    rw [wr_succL hlt hps (by decide)]
    exact ih (m+1) H2 (by omega) (by omega) a3 (kp.trans (k2.trans k3)) (by simpa using hK)
 refine match_asked_compound.run ?_
 simp only [boxK_agg,sh_ptr,Nat.zero_add,ld_ptr,hp_get_new,if_true,ldO_cells,lk_c,bnd_some]
 refine callK_of (a1.pure (plain_ok M.hC M.hN he (M.sm e he) hx.c [] rfl Hp.empty) (by simp [noIds,noId,noId_Cp]) rfl) ?_
 simp only [u_not,bnd_some,ifB_lit]
 unfold compB at hK
 cases hb:plainB (lowN (ndAt L e)) x.part.c with
 | false =>
  simp [hb] at hK
  simp
  exact hK _ a1 k1
 | true =>
  simp [hb] at hK
  simp [lk_ps]
  exact L0 0 _ _ rfl (Nat.zero_le _) a1 (.refl _ _) (by simpa using hK)
end
theorem standI_lt (M:Mc σ L d C) {e:Nat} (he:e<L.length) (k:Int):standI L e k<e:=by
 unfold standI
 split
 ·rcases par_bd M.hB he with h | ⟨p,h,hp⟩
  ·omega
  ·omega
 ·split
  ·unfold before lastI
   cases h:(sibs L e).getLast? with
   | none=>simp<;>omega
   | some j =>
    have:=List.mem_of_getLast? h
    unfold sibs at this
    simp only [List.mem_filter,List.mem_range] at this
    simp; omega
  ·omega
theorem standI_ge (M:Mc σ L d C) {e:Nat} (he:e<L.length) (k:Int):-1≤standI L e k:=by
 unfold standI
 split
 ·rcases par_bd M.hB he with h | ⟨p,h,hp⟩
  ·omega
  ·omega
 ·split
  ·unfold before lastI
   cases h:(sibs L e).getLast? with
   | none=>simp
   | some j=>simp<;>omega
  ·omega
theorem aheadF_fuel (M:Mc σ L d C) (g:Nat→Bool) (k:Int):∀ (f f' e:Nat),e<L.length→e<f→e<f'→aheadF g L k f e=aheadF g L k f' e
 | 0,f',e,_,h,_=>by omega
 | f+1,0,e,_,_,h=>by omega
 | f+1,f'+1,e,he,h1,h2=>by
  unfold aheadF
  have:=standI_lt M he k
  by_cases h:0≤standI L e k
  ·rw [aheadF_fuel M g k f f' _ (by omega) (by omega) (by omega)]
  ·simp [h]
theorem chain_at (M:Mc σ L d C) {ab mb:Nat} {cs:AV} {H:Hp} (hA:Asks (domT L d) C (Tru L C) ab mb cs H) {n i:Nat} {c:List Lk} {x:Lk} (hc:C[n]?=some c) (hx:c[i]?=some x) :
  ∃ p,ixaSl 1 cs (I (n:Int))=some p∧ldA false 1 H p=some (chainV c)∧ixaSl 7 (chainV c) (I (i:Int))=some (.ip (encLk x)):=by
 obtain ⟨p,h1,h2⟩:=hA.gcs.ld1 (n:=n) (v:=chainV c) (by rw [List.getElem?_map,hc]; rfl)
 exact ⟨p,h1,h2,ix_map hx⟩
theorem is_step (M:Mc σ L d C) {f:Nat} (hA:AnyOk σ L d C f) (hf:f≤12) {n:Nat} {s:Sl} (hr:RepC (Rep C f) C s n) (hn:∀ p ∈ s,∀ q ∈ p.c.pseudos,Nest f q.list) (hn9:n<9000000000000000000) (i:Nat) (hi:i<s.length) (hi9:i<9000000000000000000)
  (hah:i≠0→∀ e,e<L.length→AskK σ L d C n_match_asked_ahead [I (n:Int),I (i:Int),I (e:Int)] (Tru L C n i e true)) (e:Nat) (he:e<L.length) :
  AskK σ L d C n_match_asked_is [I (n:Int),I (i:Int),I (e:Int)] (Tru L C n i e false):=by
 intro ab mb cs H K hA0 hK
 obtain ⟨c,hc,hcs,hcl⟩:=hr
 have hsel:selC C n=s:=RepC.sel ⟨c,hc,hcs,hcl⟩
 obtain ⟨x,hx⟩:=get_lt (l:=c) (k:=i) (by rw [← List.length_map (f:=(·.part)),hcs]; exact hi)
 have hcm:=List.mem_of_getElem? hc
 have hxm:=List.mem_of_getElem? hx
 have hlk:=M.lk c hcm x hxm
 obtain ⟨hl1,hl2⟩:=hcl i x hx
 have hsx:s[i]?=some x.part:=by rw [← hcs,List.getElem?_map,hx]; rfl
 have hbx:∀ (v:AV) (H:Hp) (K:AV→Hp→Prop),v.isAny=false→v.cells=[v]→boxK v H K=K (.ptr H.n 0) (H.new (.cells [v] true)):=fun v H K h1 h2=>boxK_one h1 h2 H K
 have tr:Tru L C n i e false=(compB (AA L) L e x.part.c&&(decide (i=0)||Tru L C n i e true)):=by
  unfold Tru
  simp only [hsel]
  cases i with
  | zero=>unfold frontB; simp [hsx]
  | succ i=>rw [frontB]; simp [hsx]
 refine match_asked_is.run ?_
 rw [hbx _ _ _ rfl rfl,hbx _ _ _ rfl rfl,hbx _ _ _ rfl rfl,hbx _ _ _ rfl rfl]
 obtain ⟨H4,hH4⟩:∃ H4,H4=(((H.new (.cells [.ptr ab 0] true)).new (.cells [I (n:Int)] true)).new (.cells [I (i:Int)] true)).new (.cells [I (e:Int)] true):=⟨_,rfl⟩
 have a4:Asks (domT L d) C (Tru L C) ab mb cs H4:=by rw [hH4]; exact (((hA0.new _).new _).new _).new _
 have k4:Kp mb H H4:=by rw [hH4]; exact (((Kp.new mb H _).trans (Kp.new mb _ _)).trans (Kp.new mb _ _)).trans (Kp.new mb _ _)
 have q1:¬ (H.n=H.n+1+1+1):=by omega
 have q2:¬ (H.n=H.n+1+1):=by omega
 have q3:¬ (H.n+1=H.n+1+1+1):=by omega
 have g0:H4.get H.n=some (.cells [.ptr ab 0] true):=by rw [hH4]; simp [q1,q2]
 have g1:H4.get (H.n+1)=some (.cells [I (n:Int)] true):=by rw [hH4]; simp [q3]
 have g2:H4.get (H.n+1+1)=some (.cells [I (i:Int)] true):=by rw [hH4]; simp
 have g3:H4.get (H.n+1+1+1)=some (.cells [I (e:Int)] true):=by rw [hH4]; simp
 have n4:H4.n=H.n+4:=by rw [hH4]; rfl
 rw [← hH4]
 simp only [Hp.n_new]
 rw [ld2 g0,bnd_some,ld2 g1,bnd_some,ld2 g2,bnd_some,ld2 g3,bnd_some]
 have hb:bldR [I 0,I 0,I 0,.lit (.bool false)] [(0,1,I (n:Int)),(1,1,I (i:Int)),(2,1,I (e:Int)),(3,1,Bo false)]=some (encQ n i e false):=rfl
 rw [hb,bnd_some]
 have mbl:=hA0.nmb
 refine once_sp (n:=n) (i:=i) (e:=e) (a:=false) a4 (List.getElem?_eq_some_iff.1 hc).1 rfl (fun H1 K1 h1 kp1 hK1=>?_) (fun H' h' kp'=>hK H' h' (k4.trans kp'))
 have keep:∀ {H2:Hp},Kp mb H4 H2→∀ {j:Nat} {v:AV},H.n≤j→j<H.n+4→H4.get j=some (.cells [v] true)→H2.get j=some (.cells [v] true):=fun kp j v h1 h2 hg=>by rw [kp.get j (by omega) (by omega)]; exact hg
 rw [callV_fn',List.nil_append]
 refine match_asked_is_1.run ?_
 obtain ⟨p,c1,c2,c3⟩:=chain_at M h1 hc hx
 have hlx:ldL true 7 (encLk x)=some (.agg (encLk x)):=ldL_all (len_lk x)
 have hcab:ldA false 1 H1 (.ptr ab 1)=some cs:=by simp [h1.gab]
 rw [ld2 (keep kp1 (by omega) (by omega) g0),bnd_some,ld2 (keep kp1 (by omega) (by omega) g3),bnd_some,bnd_some,n_ptr,bnd_some,sh_ptr,bnd_some,hcab,bnd_some,ld2 (keep kp1 (by omega) (by omega) g1),bnd_some,c1,bnd_some,c2,bnd_some,ld2 (keep kp1 (by omega) (by omega) g2),bnd_some,c3,bnd_some,ld_ip,hlx,bnd_some]
 refine compound_sp M hA hf hlk hl1 hl2 (hn x.part (List.mem_of_getElem? hsx)) he ab mb cs H1 _ h1 fun H2 h2 kp2=>?_
 simp only [ifB_lit]
 rw [tr] at hK1
 cases hcb:compB (AA L) L e x.part.c with
 | false =>
  simp [hcb] at hK1
  simp
  exact hK1 H2 h2 kp2
 | true =>
  simp [hcb] at hK1
  simp only [if_true]
  have kp12:=kp1.trans kp2
  rw [ld2 (keep kp12 (by omega) (by omega) g2),bnd_some,b_eql,bnd_some]
  simp only [ifB_lit,decide_eq_true_eq]
  split
  ·rename_i h0
   have h0':i=0:=by omega
   simp [h0'] at hK1
   exact hK1 H2 h2 kp2
  ·rename_i h0
   have h0':i≠0:=by omega
   simp [h0'] at hK1
   rw [ld2 (keep kp12 (by omega) (by omega) g0),bnd_some,ld2 (keep kp12 (by omega) (by omega) g1),bnd_some,bnd_some,ld2 (keep kp12 (by omega) (by omega) g3),bnd_some]
   exact hah h0' e he ab mb cs H2 _ h2 fun H3 h3 kp3=>hK1 H3 h3 (kp2.trans kp3)
theorem ahead_step (M:Mc σ L d C) {n:Nat} {c:List Lk} (hc:C[n]?=some c) (hn9:n<9000000000000000000) {i:Nat} {x:Lk} (hx:c[i+1]?=some x) (hi9:i+1<9000000000000000000)
  (hsx:(selC C n)[i+1]?=some x.part) (his:∀ e,e<L.length→AskK σ L d C n_match_asked_is [I (n:Int),I (i:Int),I (e:Int)] (Tru L C n i e false)) :
  ∀ (m e:Nat),e<m→e<L.length→AskK σ L d C n_match_asked_ahead [I (n:Int),I ((i+1:Nat):Int),I (e:Int)] (Tru L C n (i+1) e true):=by
 intro m
 induction m with
 | zero=>intro e h; omega
 | succ m ih =>
  intro e hem he ab mb cs H K hA0 hK
  have hlt:=standI_lt M he x.part.comb
  have hge:=standI_ge M he x.part.comb
  have trE:∀ e,e<L.length→Tru L C n (i+1) e true=aheadF (frontB (AA L) L (selC C n) i) L x.part.comb (e+1) e:=fun e he=>by
   unfold Tru
   simp only [hsx,Nat.add_sub_cancel]
  have tr:Tru L C n (i+1) e true=(decide (0≤standI L e x.part.comb)&&(Tru L C n i (standI L e x.part.comb).toNat false||(farB x.part.comb&&Tru L C n (i+1) (standI L e x.part.comb).toNat true))):=by
   rw [trE e he]
   by_cases h:0≤standI L e x.part.comb
   ·rw [trE _ (by omega),aheadF]
    rw [aheadF_fuel M (frontB (AA L) L (selC C n) i) x.part.comb e ((standI L e x.part.comb).toNat+1) (standI L e x.part.comb).toNat (by omega) (by omega) (by omega)]
    rfl
   ·rw [aheadF]; simp [h]
  have hbx:∀ (v:AV) (H:Hp) (K:AV→Hp→Prop),v.isAny=false→v.cells=[v]→boxK v H K=K (.ptr H.n 0) (H.new (.cells [v] true)):=fun v H K h1 h2=>boxK_one h1 h2 H K
  refine match_asked_ahead.run ?_
  rw [hbx _ _ _ rfl rfl,hbx _ _ _ rfl rfl,hbx _ _ _ rfl rfl]
  obtain ⟨H3,hH3⟩:∃ H3,H3=((H.new (.cells [.ptr ab 0] true)).new (.cells [I (n:Int)] true)).new (.cells [I ((i+1:Nat):Int)] true):=⟨_,rfl⟩
  have a3:Asks (domT L d) C (Tru L C) ab mb cs H3:=by rw [hH3]; exact ((hA0.new _).new _).new _
  have k3:Kp mb H H3:=by rw [hH3]; exact ((Kp.new mb H _).trans (Kp.new mb _ _)).trans (Kp.new mb _ _)
  have q2:¬ (H.n=H.n+1+1):=by omega
  have g0:H3.get H.n=some (.cells [.ptr ab 0] true):=by rw [hH3]; simp [q2]
  have g1:H3.get (H.n+1)=some (.cells [I (n:Int)] true):=by rw [hH3]; simp
  have g2:H3.get (H.n+1+1)=some (.cells [I ((i+1:Nat):Int)] true):=by rw [hH3]; simp
  have n3:H3.n=H.n+1+1+1:=by rw [hH3]; rfl
  rw [← hH3]
  simp only [Hp.n_new]
  obtain ⟨p,c1,c2,c3⟩:=chain_at M a3 hc hx
  have hcab:ldA false 1 H3 (.ptr ab 1)=some cs:=by simp [a3.gab]
  rw [ld2 g0,bnd_some,bnd_some,n_ptr,bnd_some,sh_ptr,bnd_some,hcab,bnd_some,ld2 g1,bnd_some,c1,bnd_some,c2,bnd_some,ld2 g2,bnd_some,c3,bnd_some,sh_ip,bnd_some,List.drop_zero,sh_ip,bnd_some,List.drop_zero,ld_ip,lk_comb,bnd_some]
  refine callK_of (a3.pure (stands_ok M.hN he x.part.comb [] rfl Hp.empty) rfl (by simp [plainV,plainVs])) ?_
  simp only [x_tup,List.getElem?_cons_zero,List.getElem?_cons_succ,bnd_some,allocK_eq,Hp.n_new]
  obtain ⟨H5,hH5⟩:∃ H5,H5=(((H3.new (.cells [I 0] true)).new (.cells [Bo false] true)).set H3.n (some (.cells [I (standI L e x.part.comb)] true))).set (H3.n+1) (some (.cells [Bo (farB x.part.comb)] true)):=⟨_,rfl⟩
  have s1:stA 1 ((H3.new (.cells [I 0] true)).new (.cells [Bo false] true)) (.ptr H3.n 0) (I (standI L e x.part.comb))=some (((H3.new (.cells [I 0] true)).new (.cells [Bo false] true)).set H3.n (some (.cells [I (standI L e x.part.comb)] true))):=by simp
  have s2:stA 1 (((H3.new (.cells [I 0] true)).new (.cells [Bo false] true)).set H3.n (some (.cells [I (standI L e x.part.comb)] true))) (.ptr (H3.n+1) 0) (Bo (farB x.part.comb))=some H5:=by rw [hH5]; simp
  rw [s1,bnd_some,s2,bnd_some]
  have a5:Asks (domT L d) C (Tru L C) ab mb cs H5:=by
   rw [hH5]
   exact a3.setN (a3.setN ((a3.new _).new _) (Nat.le_refl _) _) (by omega) _
  have k5:Kp mb H3 H5:=by
   rw [hH5]
   exact ((((Kp.new mb H3 _).trans (Kp.new mb _ _))).setN (Nat.le_refl _) _).setN (by omega) _
  have mbl:=hA0.nmb
  have n5:H5.n=H.n+1+1+1+1+1:=by rw [hH5]; simp [n3]
  have r0:H5.get H.n=some (.cells [.ptr ab 0] true):=by rw [k5.get _ (by omega) (by omega)]; exact g0
  have r1:H5.get (H.n+1)=some (.cells [I (n:Int)] true):=by rw [k5.get _ (by omega) (by omega)]; exact g1
  have r2:H5.get (H.n+1+1)=some (.cells [I ((i+1:Nat):Int)] true):=by rw [k5.get _ (by omega) (by omega)]; exact g2
  have r3:H5.get H3.n=some (.cells [I (standI L e x.part.comb)] true):=by rw [hH5]; simp
  have r4:H5.get (H3.n+1)=some (.cells [Bo (farB x.part.comb)] true):=by rw [hH5]; simp
  clear hH5 s1 s2
  rw [ld2 r3,bnd_some,b_geq,bnd_some]
  simp only [ifB_lit,decide_eq_true_eq]
  rw [tr] at hK
  split
  ·rename_i h0
   rw [ld2 r0,bnd_some,ld2 r1,bnd_some,ld2 r2,bnd_some]
   have hb:bldR [I 0,I 0,I 0,.lit (.bool false)] [(0,1,I (n:Int)),(1,1,I ((i+1:Nat):Int)),(2,1,I (e:Int)),(3,1,Bo true)]=some (encQ n (i+1) e true):=rfl
   rw [hb,bnd_some]
   refine once_sp (n:=n) (i:=i+1) (e:=e) (a:=true) a5 (List.getElem?_eq_some_iff.1 hc).1 rfl (fun H1 K1 h1 kp1 hK1=>?_) (fun H' h' kp'=>?_)
   ·have keep:∀ {H2:Hp},Kp mb H5 H2→∀ {j:Nat} {v:AV},H.n≤j→j<H.n+5→H5.get j=some (.cells [v] true)→H2.get j=some (.cells [v] true):=fun kp j v h1 h2 hg=>by rw [kp.get j (by omega) (by omega)]; exact hg
    obtain ⟨x',hx'⟩:∃ k:Nat,standI L e x.part.comb=k:=⟨(standI L e x.part.comb).toNat,by omega⟩
    rw [tr,hx'] at hK1
    rw [hx'] at r3 hlt
    simp only [Int.toNat_natCast] at hK1
    rw [callV_fn',List.nil_append]
    refine match_asked_ahead_1.run ?_
    have e1:wr .i64 (((i+1:Nat):Int) - 1)=(i:Int):=by rw [wr64 (by omega) (by omega)]; omega
    rw [ld2 (keep kp1 (by omega) (by omega) r0),bnd_some,ld2 (keep kp1 (by omega) (by omega) r1),bnd_some,ld2 (keep kp1 (by omega) (by omega) r2),bnd_some,b_sub,bnd_some,e1,ld2 (keep kp1 (by omega) (by omega) r3),bnd_some]
    refine his x' (by omega) ab mb cs H1 _ h1 fun H2 h2 kp2=>?_
    simp only [ifB_lit]
    have kp12:=kp1.trans kp2
    have h0':(0:Int)≤(x':Int):=by omega
    cases hf:Tru L C n i x' false with
    | true =>
     simp [hf,h0'] at hK1
     simp
     exact hK1 H2 h2 kp2
    | false =>
     simp [hf,h0'] at hK1
     simp only [Bool.false_eq_true,if_false]
     rw [ld2 (keep kp12 (by omega) (by omega) r4),bnd_some]
     simp only [ifB_lit]
     cases hfar:farB x.part.comb with
     | false =>
      simp [hfar] at hK1
      simp
      exact hK1 H2 h2 kp2
     | true =>
      simp [hfar] at hK1
      simp only [if_true]
      rw [ld2 (keep kp12 (by omega) (by omega) r0),bnd_some,ld2 (keep kp12 (by omega) (by omega) r1),bnd_some,ld2 (keep kp12 (by omega) (by omega) r2),bnd_some,ld2 (keep kp12 (by omega) (by omega) r3),bnd_some]
      exact ih x' (by omega) (by omega) ab mb cs H2 _ h2 fun H3' h3 kp3=>hK1 H3' h3 (kp2.trans kp3)
   ·rw [← tr] at hK
    exact hK H' h' (k3.trans (k5.trans kp'))
  ·rename_i h0
   have:decide (0≤standI L e x.part.comb)=false:=by simpa using h0
   rw [this,Bool.false_and] at hK
   exact hK H5 a5 (k3.trans k5)
theorem is_sp (M:Mc σ L d C) {f:Nat} (hA:AnyOk σ L d C f) (hf:f≤12) {n:Nat} {s:Sl} (hr:RepC (Rep C f) C s n) (hn:∀ p ∈ s,∀ q ∈ p.c.pseudos,Nest f q.list) (hn9:n<9000000000000000000):∀ (i:Nat),i<s.length→i<9000000000000000000→∀ e,e<L.length →
  AskK σ L d C n_match_asked_is [I (n:Int),I (i:Int),I (e:Int)] (Tru L C n i e false)
 | 0,hi,hi9,e,he=>is_step M hA hf hr hn hn9 0 hi hi9 (fun h=>absurd rfl h) e he
 | i+1,hi,hi9,e,he=>by
  refine is_step M hA hf hr hn hn9 (i+1) hi hi9 (fun _ e he=>?_) e he
  obtain ⟨c,hc,hcs,hcl⟩:=hr
  obtain ⟨x,hx⟩:=get_lt (l:=c) (k:=i+1) (by rw [← List.length_map (f:=(·.part)),hcs]; exact hi)
  have hsel:selC C n=s:=RepC.sel ⟨c,hc,hcs,hcl⟩
  have hsx:(selC C n)[i+1]?=some x.part:=by rw [hsel,← hcs,List.getElem?_map,hx]; rfl
  exact ahead_step M hc hn9 hx hi9 hsx (fun e he=>is_sp M hA hf ⟨c,hc,hcs,hcl⟩ hn hn9 i (by omega) (by omega) e he) (e+1) e (by omega) he
section
attribute [local irreducible] match_asked_any.L0
theorem any_step (M:Mc σ L d C) {f:Nat} (hA:AnyOk σ L d C f) (hf:f+1≤12):AnyOk σ L d C (f+1):=by
 intro l ns hr hn _ hns e he ab mb cs H K hA0 hK
 rw [← AA_eq hn hf] at hK
 obtain ⟨hlen,hrep⟩:=hr
 have L0:∀ (m k:Nat) (H1:Hp),ns.length - m=k→m≤ns.length→Asks (domT L d) C (Tru L C) ab mb cs H1→Kp mb H H1→(∀ H',Asks (domT L d) C (Tru L C) ab mb cs H'→Kp mb H H'→K (Bo (anyS (AA L) L (l.drop m) e)) H') →
   match_asked_any.L0 σ K (.ptr ab 0) (I (e:Int)) (ints ns) (I ns.length) (I m) H1:=by
  intro m k
  revert m
  induction k with
  | zero =>
   intro m H1 hk hm h1 kp hK
   have:m=ns.length:=by omega
   subst this
   refine match_asked_any.L0_step ?_
   simp
   have:=hK H1 h1 kp
   rw [hlen,List.drop_length] at this
   exact this
  | succ k ih =>
   intro m H1 hk hm h1 kp hK
   have hlt:m<ns.length:=by omega
   obtain ⟨n,hnn⟩:=get_lt hlt
   obtain ⟨s,hs⟩:=get_lt (l:=l) (k:=m) (by omega)
   have hrc:=hrep m s n hs hnn
   rw [drop_get hs] at hK
   have hlt':(m:Int)<ns.length:=by omega
   obtain ⟨c,hc,hcs,hcl⟩:=hrc
   have hcm:=List.mem_of_getElem? hc
   have hcl2:c.length=s.length:=by rw [← hcs,List.length_map]
   obtain ⟨p,c1,c2⟩:=h1.gcs.ld1 (n:=n) (v:=chainV c) (by rw [List.getElem?_map,hc]; rfl)
   have hcab:ldA false 1 H1 (.ptr ab 1)=some cs:=by simp [h1.gab]
   have hix:ixaSl 1 (ints ns) (I (m:Int))=some (.ip (encN n)):=ix_map hnn
   have hllen:lenSl (chainV c)=some (I (s.length:Int)):=by unfold chainV; simp [hcl2]
   have hl9:=M.ll c hcm
   rw [reach_eq] at hl9 hns
   have hn9:n<9000000000000000000:=by
    have:=(List.getElem?_eq_some_iff.1 hc).1
    have:=M.cl
    rw [reach_eq] at this
    omega
   have hsel:selC C n=s:=RepC.sel ⟨c,hc,hcs,hcl⟩
   refine match_asked_any.L0_step ?_
   have hle:ldL false 1 (encN n)=some (I (n:Int)):=rfl
   simp only [b_lss,hlt',decide_true,bnd_some,ifB_lit,if_true,hix,ld_ip,hle,n_ptr,sh_ptr,hcab,c1,c2,hllen,b_gtr,decide_eq_true_eq]
   have hcons:anyS (AA L) L (s::l.drop (m+1)) e=((!decide (s.length=0)&&frontB (AA L) L s (s.length - 1) e)||anyS (AA L) L (l.drop (m+1)) e):=by simp [anyS]
   rw [hcons] at hK
   split
   ·rename_i h0
    have e1:wr .i64 ((s.length:Int) - 1)=((s.length - 1:Nat):Int):=by rw [wr64 (by omega) (by omega)]; omega
    simp only [b_sub,bnd_some,e1]
    refine is_sp M hA (by omega) ⟨c,hc,hcs,hcl⟩ (fun p hp q hq=>hn s (List.mem_of_getElem? hs) p hp q hq) hn9 (s.length - 1) (by omega) (by omega) e he ab mb cs H1 _ h1 fun H2 h2 kp2=>?_
    have htr:Tru L C n (s.length - 1) e false=frontB (AA L) L s (s.length - 1) e:=by unfold Tru; simp only [hsel]
    rw [htr]
    have h0':¬ (s.length=0):=by omega
    simp only [ifB_lit]
    cases hfr:frontB (AA L) L s (s.length - 1) e with
    | true =>
     rw [hfr] at hK
     simp [h0'] at hK
     simp
     exact hK H2 h2 (kp.trans kp2)
    | false =>
     rw [hfr] at hK
     simp at hK
     simp
     rw [wr_succ (by omega)]
     exact ih (m+1) H2 (by omega) (by omega) h2 (kp.trans kp2) hK
   ·rename_i h0
    have h0':s.length=0:=by omega
    simp [h0'] at hK
    simp only [b_add,bnd_some]
    rw [wr_succ (by omega)]
    exact ih (m+1) H1 (by omega) (by omega) h1 kp hK
 refine match_asked_any.run ?_
 have:lenSl (ints ns)=some (I (ns.length:Int)):=by unfold ints; simp
 rw [this,bnd_some]
 exact L0 0 _ H rfl (Nat.zero_le _) hA0 (.refl _ _) (by simpa using hK)
theorem any_ok (M:Mc σ L d C):∀ (f:Nat),f≤12→AnyOk σ L d C f
 | 0,_=>fun l ns hr=>hr.elim
 | f+1,hf=>any_step M (any_ok M f (by omega)) hf
end
end
end Go.Proofs.YthdcghnjndhecaaGreat.Ev
namespace Go.Proofs.YthdcghnjndhecaaGreat.Ev
set_option linter.unusedVariables false
set_option linter.unusedSimpArgs false
variable {σ:Sig}
def mayQ (g:List Sl→Nat→Bool) (dp:Nat) (q:Ps):Bool:=if q.kind=7∨q.kind=8 then !decide (dp=0)&&g q.list (dp - 1) else true
def mayC (g:List Sl→Nat→Bool) (dp:Nat) (c:Cp):Bool:=c.pseudos.all (mayQ g dp)
def mayS (g:List Sl→Nat→Bool) (dp:Nat) (s:Sl):Bool:=decide (s.length≤50)&&s.all fun p=>mayC g dp p.c
def mayF:Nat→List Sl→Nat→Bool
 | 0,_,_=>false
 | f+1,l,dp=>l.all (mayS (mayF f) dp)
section
attribute [local irreducible] match_may.L0 match_may.L1 match_mayCompound.L0 match_mayCompound.J1
def MayOk (σ:Sig) (f:Nat):Prop:=∀ (l:List Sl) (dp:Nat) (H:Hp),slsWf Lmax l→Nest f l→dp≤8→Good Tryz.prog σ n_match_may [sls l,I (dp:Int)] H (Bo (mayF f l dp)) H
theorem mayC_ok {f:Nat} (ih:MayOk σ f) (c:Cp) (hc:CpWf Lmax c) (hn:∀ q ∈ c.pseudos,Nest f q.list) (dp:Nat) (hd:dp≤8) (H:Hp):Good Tryz.prog σ n_match_mayCompound [.agg (encCp c),I (dp:Int)] H (Bo (mayC (mayF f) dp c)) H:=by
 refine good_by (fun K hK=>match_mayCompound.run ?_) (by simp [noIds,noId,noId_Cp]) rfl H
 have L0:∀ (m k:Nat) (H:Hp),c.pseudos.length - m=k→m≤c.pseudos.length→(∀ H,K (Bo ((c.pseudos.drop m).all (mayQ (mayF f) dp))) H)→match_mayCompound.L0 σ K (I (dp:Int)) (.imm 4 (c.pseudos.map encPs)) (I c.pseudos.length) (I m) H:=by
  intro m k
  revert m
  induction k with
  | zero =>
   intro m H hk hm hK
   have:m=c.pseudos.length:=by omega
   subst this
   refine match_mayCompound.L0_step ?_
   simp
   simpa using hK H
  | succ k ihk =>
   intro m H hk hm hK
   have hlt:m<c.pseudos.length:=by omega
   obtain ⟨q,hq⟩:=get_lt hlt
   have hqm:=List.mem_of_getElem? hq
   have hqw:=(Ps.wf_iff.1 (hc.ps q hqm)).2.2.2
   rw [drop_get hq,List.all_cons] at hK
   have hlt':(m:Int)<c.pseudos.length:=by omega
   have next:∀ H,mayQ (mayF f) dp q=true→match_mayCompound.J1 σ K (I (dp:Int)) (.imm 4 (c.pseudos.map encPs)) (I c.pseudos.length) (I m) H:=by
    intro H ht
    refine match_mayCompound.J1_step ?_
    simp
    rw [wr_succL hlt hc.psL]
    refine ihk (m+1) H (by omega) (by omega) fun H'=>?_
    have:=hK H'
    rwa [ht,Bool.true_and] at this
   have ask:∀ (H:Hp),(q.kind=7∨q.kind=8)→H.get (H.n - 1)=some (.cells (encPs q) true)→ifB (Bo (decide ((dp:Int)=0))) (K (Bo false) H) (bnd (ldA false 1 H (.ptr (H.n - 1) 3)) fun x22=>bnd (binR .sub (I (dp:Int)) (I 1)) fun x23=>callK Tryz.prog σ n_match_may [x22,x23] H fun x24 H25=>bnd (unR .not x24) fun x26=>ifB x26 (K (Bo false) H25) (match_mayCompound.J1 σ K (I (dp:Int)) (.imm 4 (c.pseudos.map encPs)) (I c.pseudos.length) (I m) H25)):=by
    intro H hkq hg
    simp only [ifB_lit,decide_eq_true_eq]
    have hQ:mayQ (mayF f) dp q=(!decide (dp=0)&&mayF f q.list (dp - 1)):=by unfold mayQ; rw [if_pos hkq]
    split
    ·rename_i h0
     have h0':dp=0:=by omega
     have:=hK H
     rw [hQ] at this
     simpa [h0'] using this
    ·rename_i h0
     have h0':¬ (dp=0):=by omega
     have e1:wr .i64 ((dp:Int) - 1)=((dp - 1:Nat):Int):=by rw [wr64 (by omega) (by omega)]; omega
     simp only [ld_ptr,hg,ldO_cells,f_encPs3,bnd_some,b_sub,e1]
     refine callK_of (ih q.list (dp - 1) H hqw (hn q hqm) (by omega)) ?_
     simp only [u_not,bnd_some,ifB_lit]
     cases hb:mayF f q.list (dp - 1) with
     | false =>
      have:=hK H
      rw [hQ] at this
      simpa [h0',hb] using this
     | true =>
      simp
      exact next H (by rw [hQ]; simp [h0',hb])
   refine match_mayCompound.L0_step ?_
   have hst:stA 4 (H.new (.cells [I 0,I 0,I 0,.lit (.slice none 0 0)] true)) (.ptr H.n 0) (.agg (encPs q))=some ((H.new (.cells [I 0,I 0,I 0,.lit (.slice none 0 0)] true)).set H.n (some (.cells (encPs q) true))):=by
    simp
    rw [ov_Ps q (by simp)]
   simp only [b_lss,hlt',decide_true,bnd_some,ifB_lit,if_true,ix_map hq,ld_ip,ldL_ps,allocK_eq,hst,sh_ptr,Nat.zero_add,ld_ptr,hp_get_set,ldO_cells,List.drop_zero,f_encPs0,b_neq]
   have hask:=ask ((H.new (.cells [I 0,I 0,I 0,.lit (.slice none 0 0)] true)).set H.n (some (.cells (encPs q) true)))
   simp only [Hp.n_set,Hp.n_new,Nat.add_sub_cancel,ld_ptr,hp_get_set,if_true,ldO_cells] at hask
   by_cases h7:q.kind=7
   ·simp only [h7,decide_true,Bool.not_true,Bool.false_eq_true,if_false,b_eql,bnd_some]
    exact hask (.inl h7) trivial
   ·simp only [h7,decide_false,Bool.not_false,if_true]
    by_cases h8:q.kind=8
    ·simp only [h8,decide_true,Bool.not_true,Bool.false_eq_true,if_false,b_eql,bnd_some]
     exact hask (.inr h8) trivial
    ·simp only [h8,decide_false,Bool.not_false,if_true]
     exact next _ (by unfold mayQ; rw [if_neg (by omega)])
 simp only [boxK_agg,sh_ptr,bnd_some,Nat.zero_add,ld_ptr,hp_get_new,if_true,ldO_cells,f_encCp4,len_imm,List.length_map]
 exact L0 0 _ _ rfl (Nat.zero_le _) (by simpa [mayC] using hK)
theorem may_step {f:Nat} (ih:MayOk σ f):MayOk σ (f+1):=by
 intro l dp H hl hn hd
 refine good_by (fun K hK=>match_may.run ?_) (by simp [noIds,noId]) rfl H
 have L0:∀ (m k:Nat) (H:Hp) (y20 y21 y22:AV),l.length - m=k→m≤l.length→(∀ H,K (Bo ((l.drop m).all (mayS (mayF f) dp))) H)→match_may.L0 σ K (I (dp:Int)) (sls l) (I l.length) (I m) y20 y21 y22 H:=by
  intro m k
  revert m
  induction k with
  | zero =>
   intro m H y20 y21 y22 hk hm hK
   have:m=l.length:=by omega
   subst this
   refine match_may.L0_step ?_
   simp
   simpa using hK H
  | succ k ihk =>
   intro m H y20 y21 y22 hk hm hK
   have hlt:m<l.length:=by omega
   obtain ⟨s,hs⟩:=get_lt hlt
   have hsm:=List.mem_of_getElem? hs
   have hsw:=hl.2 s hsm
   rw [drop_get hs,List.all_cons] at hK
   have hlt':(m:Int)<l.length:=by omega
   have L1:∀ (j k2:Nat) (H:Hp),s.length - j=k2→j≤s.length→(∀ H,K (Bo ((s.drop j).all (fun p=>mayC (mayF f) dp p.c)&&(l.drop (m+1)).all (mayS (mayF f) dp))) H) →
     match_may.L1 σ K (I (dp:Int)) (sls l) (I l.length) (I m) (.imm 6 (s.map encPt)) (I s.length) (I j) H:=by
    intro j k2
    revert j
    induction k2 with
    | zero =>
     intro j H hk2 hj hK
     have:j=s.length:=by omega
     subst this
     refine match_may.L1_step ?_
     simp
     rw [wr_succL hlt hl.1]
     exact ihk (m+1) H _ _ _ (by omega) (by omega) (by simpa using hK)
    | succ k2 ih2 =>
     intro j H hk2 hj hK
     have hjlt:j<s.length:=by omega
     obtain ⟨p,hp⟩:=get_lt hjlt
     have hpm:=List.mem_of_getElem? hp
     have hpw:=(Pt.wf_iff.1 (hsw.2 p hpm)).2
     rw [drop_get hp,List.all_cons] at hK
     have hjlt':(j:Int)<s.length:=by omega
     have hst:stA 6 (H.new (.cells [I 0,Sx ⟨#[]⟩,.lit (.slice none 0 0),.lit (.slice none 0 0),.lit (.slice none 0 0),.lit (.slice none 0 0)] true)) (.ptr H.n 0) (.agg (encPt p))=some ((H.new (.cells [I 0,Sx ⟨#[]⟩,.lit (.slice none 0 0),.lit (.slice none 0 0),.lit (.slice none 0 0),.lit (.slice none 0 0)] true)).set H.n (some (.cells (encPt p) true))):=by
      simp
      rw [ov_Pt p (by simp)]
     refine match_may.L1_step ?_
     have hd1:(encPt p).drop 1=encCp p.c:=by rw [encPt_eq]; rfl
     simp only [b_lss,hjlt',decide_true,bnd_some,ifB_lit,if_true,ix_map hp,ld_ip,ldL_pt,allocK_eq,hst,sh_ptr,Nat.zero_add,ld_ptr,hp_get_set,ldO_cells,hd1,ldL_cp]
     refine callK_of (mayC_ok ih p.c hpw (fun q hq=>hn s hsm p hpm q hq) dp hd _) ?_
     simp only [u_not,bnd_some,ifB_lit]
     cases hb:mayC (mayF f) dp p.c with
     | false =>
      rw [hb] at hK
      simpa using hK _
     | true =>
      rw [hb] at hK
      simp
      rw [wr_succL hjlt hsw.1]
      exact ih2 (j+1) _ (by omega) (by omega) (by simpa using hK)
   refine match_may.L0_step ?_
   have hst:stA 1 (H.new (.cells [.lit (.slice none 0 0)] true)) (.ptr H.n 0) (.agg (encSl s))=some ((H.new (.cells [.lit (.slice none 0 0)] true)).set H.n (some (.cells (encSl s) true))):=by
    simp [encSl]
   have hix:ixaSl 1 (sls l) (I (m:Int))=some (.ip (encSl s)):=ix_map hs
   simp only [b_lss,hlt',decide_true,bnd_some,ifB_lit,if_true,hix,ld_ip,ldL_sl,allocK_eq,hst,sh_ptr,Nat.zero_add,ld_ptr,hp_get_set,ldO_cells,List.drop_zero,f_encSl0,len_imm,List.length_map,b_gtr,decide_eq_true_eq]
   have hS:mayS (mayF f) dp s=(decide (s.length≤50)&&s.all fun p=>mayC (mayF f) dp p.c):=rfl
   rw [hS] at hK
   split
   ·rename_i h50
    have:¬ (s.length≤50):=by omega
    simpa [this] using hK _
   ·rename_i h50
    have:s.length≤50:=by omega
    refine L1 0 _ _ rfl (Nat.zero_le _) ?_
    simpa [this] using hK
 simp
 exact L0 0 _ _ _ _ _ rfl (Nat.zero_le _) (by simpa [mayF] using hK)
theorem may_ok:∀ (f:Nat),MayOk σ f
 | 0=>fun l dp H hl hn=>hn.elim
 | f+1=>may_step (may_ok f)
end
end Go.Proofs.YthdcghnjndhecaaGreat.Ev
namespace Go.Proofs.YthdcghnjndhecaaGreat.Ev
set_option linter.unusedVariables false
set_option linter.unusedSimpArgs false
variable {σ:Sig}
def HFz (H H2:Hp):Prop:=∃ Hd:Hp,H2.n=H.n∧Hd.n=H.n∧(∀ id k,Hd.get id=some k→H.get id=some k∧H2.get id=none)∧(∀ id k2,H2.get id=some k2→∃ k1,H.get id=some k1∧FzB Hd k1 k2)
theorem FzT.refl {Hd:Hp}:∀ (T:List AV),FzT Hd T T
 | []=>.nil
 | x::T=>.same (.refl T)
theorem HFz.wk {H H2:Hp} (h:HFz H H2) (T:List AV):Wk σ T H T H2:=by
 obtain ⟨Hd,h1,h2,h3,h4⟩:=h
 exact Wk.frz h1 h2 h3 h4 (.refl T)
theorem HFz.loop {P:Program} {C:Ctx P} {c:Code} {T:List AV} {H H2:Hp} {Q:Exit→List AV→Hp→Prop} (k:HFz H H2) (h:LoopP C c T H2 Q):LoopP C c T H Q:=LoopP.conv (k.wk T) h
theorem frz_in {szc sz:Nat} {H:Hp} {y x:AV} {rows:List (List AV)} {row:List AV} {rs:List (List AV)} (hy:Gs szc H y (rows++[row])) (hx:Gs sz H x rs) (hn:noIdss rs=true) {j:Nat} (hj:row[j]?=some x) (hd:∀ i,own y i→¬ own x i) :
  ∃ H2,HFz H H2∧H2.n=H.n∧Gs szc H2 y (rows++[row.set j (.imm sz rs)])∧∀ i,¬ own y i→¬ own x i→H2.get i=H.get i:=by
 have hjl:=(List.getElem?_eq_some_iff.1 hj).1
 generalize hr:rows++[row]=rr at hy
 cases hy with
 | nil=>simp at hr
 | sl hlt hg hsz =>
  rename_i id ex
  have hrow:row.length=szc:=hsz row (by rw [← hr]; simp)
  have hrr:rr.length=rows.length+1:=by rw [← hr]; simp
  have hget:rr[rows.length]?=some row:=by rw [← hr]; simp
  have hk:=rows_flat hsz rows.length row j x hget hj
  obtain ⟨Hd,H2,h1,h2,h3,h4,h5,h6,h7⟩:=frz_one hx hn hg hk (hd id rfl)
  have hflat:rr.flatten.set (rows.length*szc+j) (.imm sz rs)=(rows++[row.set j (.imm sz rs)]).flatten:=by
   have hkl:=(List.getElem?_eq_some_iff.1 hk).1
   rw [← ovl_set hkl,flat_overlay (by simp; omega) hsz (by omega)]
   have e1:rr[rows.length]=row:=by
    rw [List.getElem?_eq_getElem (by omega)] at hget
    exact Option.some.inj hget
   have e2:overlay row j [AV.imm sz rs]=row.set j (.imm sz rs):=ovl_set hjl
   simp only [e1,e2]
   rw [← hr]
   simp
  rw [hflat] at h6
  have hl:rr.length=(rows++[row.set j (.imm sz rs)]).length:=by rw [hrr]; simp
  refine ⟨H2,⟨Hd,h2,h1,h3,h4⟩,h2,?_,fun i hi hi2=>h7 i (fun e=>hi e.symm) hi2⟩
  rw [hl]
  exact .sl (by omega) h6 (fun r hr'=>by
   rcases List.mem_append.1 hr' with h | h
   ·exact hsz r (by rw [← hr]; simp [h])
   ·simp at h; subst h; simpa using hrow)
abbrev NB:Nat:=1048576
def cntF:Nat→List Sl→Nat
 | 0,_=>0
 | f+1,l=>(l.map fun s=>1+(s.map fun p=>(p.c.pseudos.map fun q=>cntF f q.list).sum).sum).sum
def SlsOk:Nat→List Sl→Prop
 | 0,_=>False
 | f+1,l=>l.length≤NB∧∀ s ∈ l,s.length≤NB∧∀ p ∈ s,CpOk p.c∧p.c.pseudos.length≤NB∧∀ q ∈ p.c.pseudos,(i64 q.a∧i64 q.b)∧SlsOk f q.list
structure ChOk (c:List Lk):Prop where
 len:c.length≤NB
 lk:∀ x ∈ c,LkOk x
theorem Rep.mono {C D:List (List Lk)}:∀ {f:Nat} {l:List Sl} {ns:List Nat},Rep C f l ns→Rep (C++D) f l ns
 | 0,l,ns,h=>h
 | f+1,l,ns,h=>⟨h.1,fun i s n hs hn=>by
  obtain ⟨c,h1,h2,h3⟩:=h.2 i s n hs hn
  refine ⟨c,by rw [List.getElem?_append_left (List.getElem?_eq_some_iff.1 h1).1]; exact h1,h2,fun k x hx=>⟨(h3 k x hx).1,fun j q ns' hq hns=>((h3 k x hx).2 j q ns' hq hns).mono⟩⟩⟩
structure AddH (t:AV) (C:List (List Lk)) (ab mb:Nat) (cs:AV) (H:Hp):Prop where
 gab:H.get ab=some (.cells [t,cs,.mp mb] true)
 nab:ab<H.n
 gcs:Gs 1 H cs (C.map fun c=>[chainV c])
 csab:¬ own cs ab
structure AFr (H:Hp) (cs:AV) (ab:Nat) (H':Hp) (cs':AV):Prop where
 up:H.n≤H'.n
 get:∀ (j:Nat),j<H.n→j≠ab→¬ own cs j→H'.get j=H.get j
 mine:∀ j,own cs' j→own cs j∨H.n≤j
theorem AFr.refl (H:Hp) (cs:AV) (ab:Nat):AFr H cs ab H cs:=⟨Nat.le_refl _,fun _ _ _ _=>rfl,fun j h=>.inl h⟩
theorem AFr.trans {H H1 H2:Hp} {cs cs1 cs2:AV} {ab:Nat} (h:AFr H cs ab H1 cs1) (k:AFr H1 cs1 ab H2 cs2):AFr H cs ab H2 cs2:=by
 refine ⟨Nat.le_trans h.up k.up,fun j hj hne ho=>?_,fun j hj=>?_⟩
 ·rw [k.get j (Nat.lt_of_lt_of_le hj h.up) hne (fun hc=>by
   rcases h.mine j hc with h | h
   ·exact ho h
   ·omega),h.get j hj hne ho]
 ·rcases k.mine j hj with h1 | h1
  ·exact h.mine j h1
  ·have:=h.up; exact .inr (by omega)
theorem AFr.loc {H H1 H2:Hp} {cs cs1:AV} {ab:Nat} (h:AFr H cs ab H1 cs1) (hn:H1.n≤H2.n) (hg:∀ j,j<H.n→H2.get j=H1.get j):AFr H cs ab H2 cs1 :=
 ⟨Nat.le_trans h.up hn,fun j hj hne ho=>by rw [hg j hj,h.get j hj hne ho],h.mine⟩
theorem AddH.loc {t:AV} {C:List (List Lk)} {ab mb:Nat} {cs:AV} {H H':Hp} (h:AddH t C ab mb cs H) (hn:H.n≤H'.n) (h1:H'.get ab=H.get ab) (h2:∀ j,own cs j→H'.get j=H.get j):AddH t C ab mb cs H' :=
 ⟨by rw [h1]; exact h.gab,Nat.lt_of_lt_of_le h.nab hn,h.gcs.keep h2 hn,h.csab⟩
def AddOk (σ:Sig) (f:Nat):Prop:=∀ (l:List Sl),SlsOk f l→∀ (t:AV) (C:List (List Lk)) (ab mb:Nat) (cs:AV) (H:Hp) (K:AV→Hp→Prop),AddH t C ab mb cs H→C.length+cntF f l≤NB →
 (∀ (H':Hp) (cs':AV) (C2:List (List Lk)) (r:AV) (ns:List Nat),AddH t (C++C2) ab mb cs' H'→Rep (C++C2) f l ns→C2.length=cntF f l→(∀ c ∈ C2,ChOk c)→Gs 1 H' r (ns.map encN)→(∀ j,own r j→H.n≤j∧¬ own cs' j)→AFr H cs ab H' cs'→K r H') →
 callK Tryz.prog σ n_match_asked_add [.ptr ab 0,sls l] H K
structure AS (t:AV) (C0:List (List Lk)) (ab mb:Nat) (H0:Hp) (cs0:AV) (C2:List (List Lk)) (cs:AV) (H:Hp) (y5:AV) (ns:List Nat):Prop where
 add:AddH t (C0++C2) ab mb cs H
 fr:AFr H0 cs0 ab H cs
 ok:∀ c ∈ C2,ChOk c
 out:Gs 1 H y5 (ns.map encN)
 o5:∀ j,own y5 j→H0.n≤j∧¬ own cs j
structure Mine (H0:Hp) (cs y5:AV) (sz:Nat) (H:Hp) (x:AV) (rows:List (List AV)):Prop where
 gs:Gs sz H x rows
 o:∀ j,own x j→H0.n≤j∧¬ own cs j∧¬ own y5 j
theorem AS.loc {t:AV} {C0 C2:List (List Lk)} {ab mb:Nat} {H0 H H':Hp} {cs0 cs y5:AV} {ns:List Nat} (h:AS t C0 ab mb H0 cs0 C2 cs H y5 ns) (hab:ab<H0.n) (hn:H.n≤H'.n) (hg:∀ j,j<H0.n→H'.get j=H.get j) (h1:∀ j,own cs j→H'.get j=H.get j) (h5:∀ j,own y5 j→H'.get j=H.get j):AS t C0 ab mb H0 cs0 C2 cs H' y5 ns :=
 ⟨h.add.loc hn (hg _ hab) h1,h.fr.loc hn hg,h.ok,h.out.keep h5 hn,h.o5⟩
theorem Mine.loc {H0 H H':Hp} {cs y5 x:AV} {sz:Nat} {rows:List (List AV)} (h:Mine H0 cs y5 sz H x rows) (hn:H.n≤H'.n) (h1:∀ j,own x j→H'.get j=H.get j):Mine H0 cs y5 sz H' x rows:=⟨h.gs.keep h1 hn,h.o⟩
theorem L0_fz {K:AV→Hp→Prop} {y0 y5 y8 y11 y14 y15 y16 y21 y22 y23 y31 y32 y33:AV} {H H2:Hp} (k:HFz H H2) (h:match_asked_add.L0 σ K y0 y5 y8 y11 y14 y15 y16 y21 y22 y23 y31 y32 y33 H2):match_asked_add.L0 σ K y0 y5 y8 y11 y14 y15 y16 y21 y22 y23 y31 y32 y33 H:=fun js=>k.loop (h js)
theorem L1_fz {K:AV→Hp→Prop} {y0 y5 y8 y11 y14 y15 y16 y21 y22 y23 y31 y32 y33:AV} {H H2:Hp} (k:HFz H H2) (h:match_asked_add.L1 σ K y0 y5 y8 y11 y14 y15 y16 y21 y22 y23 y31 y32 y33 H2):match_asked_add.L1 σ K y0 y5 y8 y11 y14 y15 y16 y21 y22 y23 y31 y32 y33 H:=fun js=>k.loop (h js)
theorem L2_fz {K:AV→Hp→Prop} {y0 y5 y8 y11 y14 y15 y16 y21 y22 y23 y31 y32 y33:AV} {H H2:Hp} (k:HFz H H2) (h:match_asked_add.L2 σ K y0 y5 y8 y11 y14 y15 y16 y21 y22 y23 y31 y32 y33 H2):match_asked_add.L2 σ K y0 y5 y8 y11 y14 y15 y16 y21 y22 y23 y31 y32 y33 H:=fun js=>k.loop (h js)
def lsRow (l:List Nat):List AV:=[ints l]
section
attribute [local irreducible] match_asked_add.L0 match_asked_add.L1 match_asked_add.L2
theorem noId_lsRows (l:List (List Nat)):noIdss (l.map lsRow)=true:=noIds_map _ (fun l=>by simp [lsRow,noIds,noId_ints]) l
theorem encLk_eq (p:Pt) (lsl:List (List Nat)):encLk ⟨p,lsl⟩=encPt p++[.imm 1 (lsl.map lsRow)]:=rfl
theorem add_L2 {f:Nat} (ih:AddOk σ f) {t:AV} {C0:List (List Lk)} {ab mb:Nat} {H0:Hp} {cs0:AV} (hab:ab<H0.n) {K:AV→Hp→Prop} {y5:AV} {ns:List Nat} {cl:List Lk} {p:Pt} (hpl:p.c.pseudos.length≤NB) (hp:∀ q ∈ p.c.pseudos,(i64 q.a∧i64 q.b)∧SlsOk f q.list)
  {y14 y15 y16 y21 y22:AV} {j:Nat} (hj:j<NB) (hcl:cl.length≤j) {R:Nat} {P:List (List Lk)→Prop}
  (hK:∀ (H:Hp) (cs:AV) (C2:List (List Lk)) (y8 y11:AV) (lsl:List (List Nat)) (y31 y32 y33:AV),AS t C0 ab mb H0 cs0 C2 cs H y5 ns→P C2→Mine H0 cs y5 7 H y8 ((cl++[Lk.mk p lsl]).map encLk)→lsl.length=p.c.pseudos.length→(∀ (j:Nat) (q:Ps) (ns':List Nat),p.c.pseudos[j]?=some q→lsl[j]?=some ns'→Rep (C0++C2) f q.list ns')→(∀ l ∈ lsl,l.length≤NB) →
   (C0++C2).length+R≤NB→match_asked_add.L1 σ K (.ptr ab 0) y5 y8 y11 y14 y15 y16 y21 y22 (I ((j+1:Nat):Int)) y31 y32 y33 H) :
  ∀ (m k:Nat) (H:Hp) (cs:AV) (C2:List (List Lk)) (y8:AV) (xb:Nat) (lv:AV) (lsl:List (List Nat)),p.c.pseudos.length - k=m→k≤p.c.pseudos.length→AS t C0 ab mb H0 cs0 C2 cs H y5 ns→(∀ D,C2 <+: D→D.length=C2.length+((p.c.pseudos.drop k).map fun q=>cntF f q.list).sum→P D)→Mine H0 cs y5 7 H y8 (cl.map encLk)→H.get xb=some (.cells (encPt p++[lv]) true)→H0.n≤xb→xb<H.n→¬ own cs xb→¬ own y5 xb→¬ own y8 xb →
   Mine H0 cs y5 1 H lv (lsl.map lsRow)→¬ own lv xb→(∀ i,own lv i→¬ own y8 i)→lsl.length=k→(∀ (j:Nat) (q:Ps) (ns':List Nat),p.c.pseudos[j]?=some q→lsl[j]?=some ns'→Rep (C0++C2) f q.list ns')→(∀ l ∈ lsl,l.length≤NB) →
   (C0++C2).length+(((p.c.pseudos.drop k).map fun q=>cntF f q.list).sum+R)≤NB →
   match_asked_add.L2 σ K (.ptr ab 0) y5 y8 (.ptr xb 0) y14 y15 y16 y21 y22 (I (j:Int)) (.imm 4 (p.c.pseudos.map encPs)) (I p.c.pseudos.length) (I (k:Int)) H:=by
 have hNB:NB=1048576:=rfl
 intro m
 induction m with
 | zero =>
  intro k H cs C2 y8 xb lv lsl hm hk hA hP h8 gx hx0 hxn hxc hx5 hx8 hl hlx hl8 hlk hrep hlen hcnt
  have:k=p.c.pseudos.length:=by omega
  subst this
  refine match_asked_add.L2_step ?_
  have hl7:ldL true 7 (encPt p++[lv])=some (.agg (encPt p++[lv])):=ldL_all (by simp)
  simp only [b_lss,Int.lt_irrefl,decide_false,bnd_some,ifB_lit,Bool.false_eq_true,if_false,ld_ptr,gx,ldO_cells,List.drop_zero,hl7]
  have hone:(encPt p++[lv]).all AV.one=true:=by simp [hl.gs.one]
  refine bnd_app1 (y:=.agg (encPt p++[lv])) h8.gs (by simp) rfl hone (by simp; omega) (by simp; omega) fun y8' H2 g8 f8=>?_
  simp only [b_add,bnd_some]
  rw [wr_succ (by omega)]
  have own8:∀ i,own y8' i→H0.n≤i∧¬ own cs i∧¬ own y5 i∧¬ own lv i:=fun i hi=>by
   rcases f8.mine i hi with h | h
   ·exact ⟨(h8.o i h).1,(h8.o i h).2.1,(h8.o i h).2.2,fun h'=>hl8 i h' h⟩
   ·have h0:=hA.fr.up
    exact ⟨by omega,fun h'=>by have:=hA.add.gcs.lt h'; omega,fun h'=>by have:=hA.out.lt h'; omega,fun h'=>by have:=hl.gs.lt h'; omega⟩
  have keep:∀ i,i<H.n→¬ own y8 i→H2.get i=H.get i:=fun i hi ho=>f8.same i hi ho
  have hA2:AS t C0 ab mb H0 cs0 C2 cs H2 y5 ns:=hA.loc hab f8.grow (fun i hi=>keep i (by have:=hA.fr.up; omega) (fun h=>by have:=(h8.o i h).1; omega)) (fun i hi=>keep i (hA.add.gcs.lt hi) (fun h=>(h8.o i h).2.1 hi)) (fun i hi=>keep i (hA.out.lt hi) (fun h=>(h8.o i h).2.2 hi))
  have hl2:Gs 1 H2 lv (lsl.map lsRow):=hl.gs.keep (fun i hi=>keep i (hl.gs.lt hi) (hl8 i hi)) f8.grow
  have hcells:(AV.agg (encPt p++[lv])).cells=encPt p++[lv]:=rfl
  rw [hcells] at g8
  obtain ⟨H3,z1,z2,z3,z4⟩:=frz_in (j:=6) g8 hl2 (noId_lsRows lsl) (by rw [List.getElem?_append_right (by simp)]; simp) (fun i hi=>(own8 i hi).2.2.2)
  have hrow:(encPt p++[lv]).set 6 (.imm 1 (lsl.map lsRow))=encLk ⟨p,lsl⟩:=by
   rw [encLk_eq,List.set_append_right _ _ (by simp)]
   simp
  rw [hrow] at z3
  have z3':Gs 7 H3 y8' ((cl++[Lk.mk p lsl]).map encLk):=by simpa using z3
  have fin:match_asked_add.L1 σ K (.ptr ab 0) y5 y8' (.ptr xb 0) y14 y15 y16 y21 y22 (I ((j+1:Nat):Int)) (.imm 4 (p.c.pseudos.map encPs)) (I p.c.pseudos.length) (I (p.c.pseudos.length:Int)) H3:=by
   refine hK H3 cs C2 y8' (.ptr xb 0) lsl _ _ _ ?_ (hP C2 (List.prefix_refl _) (by simp)) ⟨z3',fun i hi=>⟨(own8 i hi).1,(own8 i hi).2.1,(own8 i hi).2.2.1⟩⟩ hlk hrep hlen (by simp at hcnt ⊢; omega)
   refine hA2.loc hab (by omega) (fun i hi=>z4 i (fun h=>by have:=(own8 i h).1; omega) (fun h=>by have:=(hl.o i h).1; omega)) (fun i hi=>z4 i (fun h=>(own8 i h).2.1 hi) (fun h=>(hl.o i h).2.1 hi)) (fun i hi=>z4 i (fun h=>(own8 i h).2.2.1 hi) (fun h=>(hl.o i h).2.2 hi))
  exact L1_fz z1 fin
 | succ m ihm =>
  intro k H cs C2 y8 xb lv lsl hm hk hA hP h8 gx hx0 hxn hxc hx5 hx8 hl hlx hl8 hlk hrep hlen hcnt
  have hlt:k<p.c.pseudos.length:=by omega
  obtain ⟨q,hq⟩:=get_lt hlt
  have hqm:=List.mem_of_getElem? hq
  have hlt':(k:Int)<p.c.pseudos.length:=by omega
  rw [drop_get hq,List.map_cons,List.sum_cons] at hcnt
  have hdq:p.c.pseudos.drop k=q::p.c.pseudos.drop (k+1):=drop_get hq
  refine match_asked_add.L2_step ?_
  obtain ⟨H6,hH6⟩:∃ H6,H6=(H.new (.cells [I 0,I 0,I 0,.lit (.slice none 0 0)] true)).set H.n (some (.cells (encPs q) true)):=⟨_,rfl⟩
  have hst:stA 4 (H.new (.cells [I 0,I 0,I 0,.lit (.slice none 0 0)] true)) (.ptr H.n 0) (.agg (encPs q))=some H6:=by
   rw [hH6]
   simp
   rw [ov_Ps q (by simp)]
  have k6:∀ i,i<H.n→H6.get i=H.get i:=fun i hi=>by
   have:i≠H.n:=by omega
   rw [hH6]; simp [this]
  have n6:H6.n=H.n+1:=by rw [hH6]; rfl
  have g6:H6.get H.n=some (.cells (encPs q) true):=by rw [hH6]; simp
  clear hH6
  have gx6:H6.get xb=some (.cells (encPt p++[lv]) true):=by rw [k6 xb hxn]; exact gx
  have hd6:ldL false 1 ((encPt p++[lv]).drop 6)=some lv:=by rw [List.drop_append_of_le_length (by simp),List.drop_of_length_le (by simp)]; simp
  simp only [b_lss,hlt',decide_true,bnd_some,ifB_lit,if_true,ix_map hq,ld_ip,ldL_ps,allocK_eq,hst,sh_ptr,Nat.zero_add,ld_ptr,gx6,ldO_cells,hd6,g6,f_encPs3]
  have hA6:AS t C0 ab mb H0 cs0 C2 cs H6 y5 ns:=hA.loc hab (by omega) (fun i hi=>k6 i (by have:=hA.fr.up; omega)) (fun i hi=>k6 i (hA.add.gcs.lt hi)) (fun i hi=>k6 i (hA.out.lt hi))
  refine ih q.list (hp q hqm).2 t (C0++C2) ab mb cs H6 _ hA6.add (by omega) fun H' cs' D r ns' a1 a2 a3 a4 a5 a6 a7=>?_
  have hxab:xb≠ab:=by omega
  have k7:∀ i,H0.n≤i→i<H6.n→¬ own cs i→H'.get i=H6.get i:=fun i h1 h2 h3=>a7.get i h2 (by omega) h3
  have gx7:H'.get xb=some (.cells (encPt p++[lv]) true):=by rw [k7 xb hx0 (by omega) hxc]; exact gx6
  have up7:=a7.up
  have cs7:∀ i,own cs' i→own cs i∨H6.n≤i:=a7.mine
  have hl7:Mine H0 cs' y5 1 H' lv (lsl.map lsRow):=by
   refine ⟨hl.gs.keep (fun i hi=>?_) (by omega),fun i hi=>⟨(hl.o i hi).1,fun h=>?_,(hl.o i hi).2.2⟩⟩
   ·have:=hl.gs.lt hi
    rw [k7 i (hl.o i hi).1 (by omega) (hl.o i hi).2.1,k6 i this]
   ·rcases cs7 i h with h | h
    ·exact (hl.o i hi).2.1 h
    ·have:=hl.gs.lt hi; omega
  have h87:Mine H0 cs' y5 7 H' y8 (cl.map encLk):=by
   refine ⟨h8.gs.keep (fun i hi=>?_) (by omega),fun i hi=>⟨(h8.o i hi).1,fun h=>?_,(h8.o i hi).2.2⟩⟩
   ·have:=h8.gs.lt hi
    rw [k7 i (h8.o i hi).1 (by omega) (h8.o i hi).2.1,k6 i this]
   ·rcases cs7 i h with h | h
    ·exact (h8.o i hi).2.1 h
    ·have:=h8.gs.lt hi; omega
  have hA7:AS t C0 ab mb H0 cs0 (C2++D) cs' H' y5 ns:=by
   refine ⟨by rw [← List.append_assoc]; exact a1,hA6.fr.trans a7,fun c hc=>?_,hA6.out.keep (fun i hi=>?_) a7.up,fun i hi=>⟨(hA.o5 i hi).1,fun h=>?_⟩⟩
   ·rcases List.mem_append.1 hc with h | h
    ·exact hA.ok c h
    ·exact a4 c h
   ·exact k7 i (hA.o5 i hi).1 (hA6.out.lt hi) (hA.o5 i hi).2
   ·rcases cs7 i h with h | h
    ·exact (hA.o5 i hi).2 h
    ·have:=hA.out.lt hi; omega
  have hxc7:¬ own cs' xb:=fun h=>by
   rcases cs7 xb h with h | h
   ·exact hxc h
   ·omega
  have hl7':∀ i,own lv i→i<H'.n:=fun i hi=>hl7.gs.lt hi
  have one7:AV.one r=true:=a5.one
  have cel7:=a5.cells
  have hxn7:xb≠H'.n:=by omega
  simp only [kp_ptr,gx7]
  refine ⟨by rw [gx6],?_⟩
  have hlenN:lsl.length<NB:=by omega
  refine bnd_app1k (y:=r) (rows:=lsl.map lsRow) (by simp [hxn7,gx7]) hl7.gs (by rw [cel7.1]; rfl) cel7.2 (by rw [cel7.1]; simpa using one7) (by simp; omega) (by simp; omega) fun lv' H2 g2 f2=>?_
  rw [cel7.1] at g2
  have ownl:∀ i,own lv' i→own lv i∨(H'.n≤i∧i<H2.n):=f2.mine
  have k8:∀ i,i<H'.n→¬ own lv i→H2.get i=H'.get i:=fun i h1 h2=>f2.same i h1 h2
  have gx8:H2.get xb=some (.cells (encPt p++[lv]) true):=by rw [k8 xb (by omega) hlx]; exact gx7
  have hst2:=g2.st (id:=xb) (off:=6) gx8 (by simp)
  have hset:(encPt p++[lv]).set 6 lv'=encPt p++[lv']:=by
   rw [List.set_append_right _ _ (by simp)]
   simp
  rw [hset] at hst2
  simp only [hst2,bnd_some,b_add]
  rw [wr_succ (by omega)]
  obtain ⟨H3,hH3⟩:∃ H3,H3=H2.set xb (some (.cells (encPt p++[lv']) true)):=⟨_,rfl⟩
  rw [← hH3]
  have k9:∀ i,i≠xb→H3.get i=H2.get i:=fun i hi=>by rw [hH3]; simp [hi]
  have gx9:H3.get xb=some (.cells (encPt p++[lv']) true):=by rw [hH3]; simp
  have n9:H3.n=H2.n:=by rw [hH3]; rfl
  clear hH3
  have grow2:=f2.grow
  have lvx:¬ own lv' xb:=fun h=>by
   rcases ownl xb h with h | h
   ·exact hlx h
   ·omega
  have rx:¬ own r xb:=fun h=>by have:=(a6 xb h).1; omega
  have rlv:∀ i,own lv' i→¬ own r i:=fun i hi h=>by
   rcases ownl i hi with h1 | h1
   ·have:=(a6 i h).1; have:=hl.gs.lt h1; omega
   ·have:=a5.lt h; omega
  have g9:Gs 1 H3 lv' (lsl.map lsRow++[[r]]):=g2.keep (fun i hi=>k9 i (fun e=>lvx (e ▸ hi))) (by omega)
  have gr9:Gs 1 H3 r (ns'.map encN):=a5.keep (fun i hi=>by
   rw [k9 i (fun e=>rx (e ▸ hi)),k8 i (a5.lt hi) (fun h=>by have:=(a6 i hi).1; have:=hl.gs.lt h; omega)]) (by omega)
  obtain ⟨H4,z1,z2,z3,z4⟩:=frz_in (j:=0) g9 gr9 (noIds_map _ (fun _=>rfl) _) rfl rlv
  have hrow:([r]:List AV).set 0 (.imm 1 (ns'.map encN))=lsRow ns':=rfl
  rw [hrow] at z3
  have z3':Gs 1 H4 lv' ((lsl++[ns']).map lsRow):=by simpa using z3
  have same:∀ i,i<H'.n→i≠xb→¬ own lv i→¬ own r i→H4.get i=H'.get i:=fun i h1 h2 h3 h4=>by
   rw [z4 i (fun h=>by
    rcases ownl i h with h | h
    ·exact h3 h
    ·omega) h4,k9 i h2,k8 i h1 h3]
  have hA4:AS t C0 ab mb H0 cs0 (C2++D) cs' H4 y5 ns:=by
   refine hA7.loc hab (by omega) (fun i hi=>same i (by have:=hA7.fr.up; omega) (by omega) (fun h=>by have:=(hl.o i h).1; omega) (fun h=>by have:=(a6 i h).1; have:=hA.fr.up; omega)) (fun i hi=>same i (a1.gcs.lt hi) (fun e=>hxc7 (e ▸ hi)) (fun h=>(hl7.o i h).2.1 hi) (fun h=>(a6 i h).2 hi)) (fun i hi=>same i (hA7.out.lt hi) (fun e=>hx5 (e ▸ hi)) (fun h=>(hl.o i h).2.2 hi) (fun h=>by have:=(a6 i h).1; have:=hA.out.lt hi; omega))
  refine L2_fz z1 ?_
  refine ihm (k+1) H4 cs' (C2++D) y8 xb lv' (lsl++[ns']) (by omega) (by omega) hA4 (fun D2 hpre hD2=>?_) (h87.loc (by omega) fun i hi=>?_) ?_ hx0 (by omega) hxc7 hx5 hx8 ⟨z3',fun i hi=>?_⟩ lvx (fun i hi h=>?_) (by simp [hlk]) (fun j q' ns2 hq' hns2=>?_) (fun l hl=>?_) ?_
  ·refine hP D2 ((List.prefix_append C2 D).trans hpre) ?_
   rw [hD2,hdq,List.map_cons,List.sum_cons,List.length_append,a3]
   omega
  ·exact same i (by have:=h8.gs.lt hi; omega) (fun e=>hx8 (e ▸ hi)) (fun h=>hl8 i h hi) (fun h=>by have:=(a6 i h).1; have:=h8.gs.lt hi; omega)
  ·rw [z4 xb lvx rx]; exact gx9
  ·rcases ownl i hi with h | h
   ·exact hl7.o i h
   ·exact ⟨by omega,fun h'=>by have:=a1.gcs.lt h'; omega,fun h'=>by have:=hA7.out.lt h'; omega⟩
  ·rcases ownl i hi with h1 | h1
   ·exact hl8 i h1 h
   ·have:=h8.gs.lt h; omega
  ·rw [← List.append_assoc]
   by_cases hjk:j<lsl.length
   ·rw [List.getElem?_append_left hjk] at hns2
    exact (hrep j q' ns2 hq' hns2).mono
   ·rw [List.getElem?_append_right (by omega)] at hns2
    have h1:=(List.getElem?_eq_some_iff.1 hns2).1
    simp at h1
    have:j=k:=by omega
    subst this
    rw [hq] at hq'
    cases hq'
    simp [hlk] at hns2
    subst hns2
    exact a2
  ·rcases List.mem_append.1 hl with h | h
   ·exact hlen l h
   ·simp at h
    subst h
    have hsl:=(hp q hqm).2
    cases f with
    | zero=>exact hsl.elim
    | succ f =>
     have:=a2.1
     have:=hsl.1
     omega
  ·rw [← List.append_assoc,List.length_append,a3]
   omega
def LinkRep (C:List (List Lk)) (f:Nat) (cl:List Lk):Prop:=∀ (k:Nat) (x:Lk),cl[k]?=some x→x.lists.length=x.part.c.pseudos.length∧∀ (j:Nat) (q:Ps) (ns:List Nat),x.part.c.pseudos[j]?=some q→x.lists[j]?=some ns→Rep C f q.list ns
def cntP (f:Nat) (p:Pt):Nat:=(p.c.pseudos.map fun q=>cntF f q.list).sum
def SlOk (f:Nat) (s:Sl):Prop:=s.length≤NB∧∀ p ∈ s,CpOk p.c∧p.c.pseudos.length≤NB∧∀ q ∈ p.c.pseudos,(i64 q.a∧i64 q.b)∧SlsOk f q.list
theorem add_L1 {f:Nat} (ih:AddOk σ f) {t:AV} {C0:List (List Lk)} {ab mb:Nat} {H0:Hp} {cs0:AV} (hab:ab<H0.n) {K:AV→Hp→Prop} {y5:AV} {ns:List Nat} (hns:ns.length<NB) {s:Sl} (hs:SlOk f s) {y14 y15:AV} {m0:Nat} (hm0:m0<NB) {R:Nat} {Q:List (List Lk)→Prop}
  (hK:∀ (H:Hp) (cs:AV) (C2:List (List Lk)) (y5' y8 y11 y21 y22 y23 y31 y32 y33:AV) (cl:List Lk),AS t C0 ab mb H0 cs0 (C2++[cl]) cs H y5' (ns++[(C0++C2).length])→Q C2→cl.map (·.part)=s→LinkRep (C0++C2) f cl→(C0++C2).length+1+R≤NB →
   match_asked_add.L0 σ K (.ptr ab 0) y5' y8 y11 y14 y15 (I ((m0+1:Nat):Int)) y21 y22 y23 y31 y32 y33 H) :
  ∀ (n2 j:Nat) (H:Hp) (cs:AV) (C2:List (List Lk)) (y8 y11 y31 y32 y33:AV) (cl:List Lk),s.length - j=n2→j≤s.length→AS t C0 ab mb H0 cs0 C2 cs H y5 ns→(∀ D,C2 <+: D→D.length=C2.length+((s.drop j).map (cntP f)).sum→Q D)→Mine H0 cs y5 7 H y8 (cl.map encLk)→cl.map (·.part)=s.take j→LinkRep (C0++C2) f cl→(∀ x ∈ cl,LkOk x) →
   (C0++C2).length+(((s.drop j).map (cntP f)).sum+(1+R))≤NB →
   match_asked_add.L1 σ K (.ptr ab 0) y5 y8 y11 y14 y15 (I (m0:Int)) (.imm 6 (s.map encPt)) (I s.length) (I (j:Int)) y31 y32 y33 H:=by
 have hNB:NB=1048576:=rfl
 intro n2
 induction n2 with
 | zero =>
  intro j H cs C2 y8 y11 y31 y32 y33 cl hn hj hA hQ h8 hparts hrep hlk hcnt
  have:j=s.length:=by omega
  subst this
  rw [List.take_length] at hparts
  have hcl:cl.length=s.length:=by rw [← hparts,List.length_map]
  refine match_asked_add.L1_step ?_
  have hcs1:ldA false 1 H (.ptr ab 1)=some cs:=by simp [hA.add.gab]
  have hlenC:lenSl cs=some (I ((C0++C2).length:Int)):=by rw [hA.add.gcs.len,List.length_map]
  simp only [b_lss,Int.lt_irrefl,decide_false,bnd_some,ifB_lit,Bool.false_eq_true,if_false,n_ptr,sh_ptr,Nat.zero_add,hcs1,hlenC]
  have habn:=hA.add.nab
  have up0:=hA.fr.up
  have cslt:∀ i,own cs i→i<H.n:=fun i hi=>hA.add.gcs.lt hi
  refine bnd_app1 (y:=I ((C0++C2).length:Int)) hA.out rfl rfl rfl (by simp; omega) (by simp; omega) fun y5' H1 g1 f1=>?_
  have grow1:=f1.grow
  have k1:∀ i,i<H.n→¬ own y5 i→H1.get i=H.get i:=fun i h1 h2=>f1.same i h1 h2
  have h5ab:¬ own y5 ab:=fun h=>by have:=(hA.o5 ab h).1; omega
  have gab1:H1.get ab=some (.cells [t,cs,.mp mb] true):=by rw [k1 ab habn h5ab]; exact hA.add.gab
  have gcs1:Gs 1 H1 cs ((C0++C2).map fun c=>[chainV c]):=hA.add.gcs.keep (fun i hi=>k1 i (cslt i hi) (fun h=>(hA.o5 i h).2 hi)) f1.grow
  have g81:Gs 7 H1 y8 (cl.map encLk):=h8.gs.keep (fun i hi=>k1 i (h8.gs.lt hi) (fun h=>(h8.o i hi).2.2 h)) f1.grow
  have hcs2:ldA false 1 H1 (.ptr ab 1)=some cs:=by simp [gab1]
  simp only [n_ptr,bnd_some,sh_ptr,Nat.zero_add,hcs2]
  have cel8:=h8.gs.cells
  have own5:∀ i,own y5' i→own y5 i∨(H.n≤i∧i<H1.n):=f1.mine
  refine bnd_app1 (y:=y8) gcs1 (by rw [cel8.1]; rfl) cel8.2 (by rw [cel8.1]; simpa using h8.gs.one) (by simp at hcnt ⊢; omega) (by simp at hcnt ⊢; omega) fun cs' H2 g2 f2=>?_
  rw [cel8.1] at g2
  have grow2:=f2.grow
  have csab:¬ own cs ab:=hA.add.csab
  have k2:∀ i,i<H1.n→¬ own cs i→H2.get i=H1.get i:=fun i h1 h2=>f2.same i h1 h2
  have gab2:H2.get ab=some (.cells [t,cs,.mp mb] true):=by rw [k2 ab (by omega) csab]; exact gab1
  have ownc:∀ i,own cs' i→own cs i∨(H1.n≤i∧i<H2.n):=f2.mine
  have cs'ab:¬ own cs' ab:=fun h=>by
   rcases ownc ab h with h | h
   ·exact csab h
   ·omega
  have hst:=g2.st (id:=ab) (off:=1) gab2 (by simp)
  simp only [n_ptr,bnd_some,sh_ptr,Nat.zero_add,hst,b_add]
  rw [wr_succ (by omega)]
  obtain ⟨H3,hH3⟩:∃ H3,H3=H2.set ab (some (.cells ([t,cs,.mp mb].set 1 cs') true)):=⟨_,rfl⟩
  rw [← hH3]
  have k3:∀ i,i≠ab→H3.get i=H2.get i:=fun i hi=>by rw [hH3]; simp [hi]
  have gab3:H3.get ab=some (.cells [t,cs',.mp mb] true):=by rw [hH3]; simp
  have n3:H3.n=H2.n:=by rw [hH3]; rfl
  clear hH3
  have c8:∀ i,own cs' i→¬ own y8 i:=fun i hi h=>by
   rcases ownc i hi with h1 | h1
   ·exact (h8.o i h).2.1 h1
   ·have:=h8.gs.lt h; omega
  have g3:Gs 1 H3 cs' (((C0++C2).map fun c=>[chainV c])++[[y8]]):=g2.keep (fun i hi=>k3 i (fun e=>cs'ab (e ▸ hi))) (by omega)
  have g83:Gs 7 H3 y8 (cl.map encLk):=g81.keep (fun i hi=>by
   have h1:=(h8.o i hi)
   have:=h8.gs.lt hi
   rw [k3 i (by omega),k2 i (by omega) h1.2.1]) (by omega)
  obtain ⟨H4,z1,z2,z3,z4⟩:=frz_in (j:=0) g3 g83 (noIds_map _ noId_lk _) rfl c8
  have hrow:([y8]:List AV).set 0 (.imm 7 (cl.map encLk))=[chainV cl]:=rfl
  rw [hrow] at z3
  have z3':Gs 1 H4 cs' ((C0++(C2++[cl])).map fun c=>[chainV c]):=by simpa using z3
  have y8ab:¬ own y8 ab:=fun h=>by have:=(h8.o ab h).1; omega
  have same:∀ i,i<H1.n→i≠ab→¬ own cs i→¬ own y8 i→H4.get i=H1.get i:=fun i h1 h2 h3 h4=>by
   rw [z4 i (fun h=>by
    rcases ownc i h with h | h
    ·exact h3 h
    ·omega) h4,k3 i h2,k2 i h1 h3]
  refine L0_fz z1 ?_
  have o5':∀ i,own y5' i→H0.n≤i∧¬ own cs i∧¬ own y8 i:=fun i hi=>by
   rcases own5 i hi with h | h
   ·exact ⟨(hA.o5 i h).1,(hA.o5 i h).2,fun h'=>(h8.o i h').2.2 h⟩
   ·exact ⟨by omega,fun h'=>by have:=cslt i h'; omega,fun h'=>by have:=h8.gs.lt h'; omega⟩
  have g5:Gs 1 H4 y5' ((ns++[(C0++C2).length]).map encN):=by
   have:(I ((C0++C2).length:Int)).cells=encN (C0++C2).length:=rfl
   rw [this] at g1
   have h1:Gs 1 H1 y5' ((ns++[(C0++C2).length]).map encN):=by simpa using g1
   refine h1.keep (fun i hi=>same i (h1.lt hi) (fun e=>?_) (o5' i hi).2.1 (o5' i hi).2.2) (by omega)
   subst e
   have:=(o5' i hi).1
   omega
  refine hK H4 cs' C2 y5' y8 _ _ _ _ _ _ _ cl ⟨⟨?_,by omega,z3',cs'ab⟩,⟨by omega,fun i h1 h2 h3=>?_,fun i hi=>?_⟩,fun c hc=>?_,g5,fun i hi=>⟨(o5' i hi).1,fun h=>?_⟩⟩ (hQ C2 (List.prefix_refl _) (by simp)) hparts hrep (by simp at hcnt ⊢; omega)
  ·rw [z4 ab cs'ab y8ab]; exact gab3
  ·have hi5:¬ own y5 i:=fun h=>by have:=(hA.o5 i h).1; omega
   have hi8:¬ own y8 i:=fun h=>by have:=(h8.o i h).1; omega
   have hic:¬ own cs i:=fun h=>by
    rcases hA.fr.mine i h with h | h
    ·exact h3 h
    ·omega
   rw [same i (by omega) h2 hic hi8,k1 i (by omega) hi5]
   exact hA.fr.get i h1 h2 h3
  ·rcases ownc i hi with h | h
   ·exact hA.fr.mine i h
   ·exact .inr (by omega)
  ·rcases List.mem_append.1 hc with h | h
   ·exact hA.ok c h
   ·simp at h
    subst h
    exact ⟨by rw [hcl]; exact hs.1,hlk⟩
  ·rcases ownc i h with h | h
   ·exact (o5' i hi).2.1 h
   ·rcases own5 i hi with h' | h'
    ·have:=hA.out.lt h'; omega
    ·omega
 | succ n2 ih2 =>
  intro j H cs C2 y8 y11 y31 y32 y33 cl hn hj hA hQ h8 hparts hrep hlk hcnt
  have hlt:j<s.length:=by omega
  obtain ⟨p,hp⟩:=get_lt hlt
  have hpm:=List.mem_of_getElem? hp
  obtain ⟨hc1,hc2,hc3⟩:=hs.2 p hpm
  have hlt':(j:Int)<s.length:=by omega
  have hdp:s.drop j=p::s.drop (j+1):=drop_get hp
  rw [hdp,List.map_cons,List.sum_cons] at hcnt
  have hcl:cl.length=j:=by
   have:=congrArg List.length hparts
   simp at this
   omega
  refine match_asked_add.L1_step ?_
  have hst1:stA 6 (H.new (.cells [I 0,Sx ⟨#[]⟩,.lit (.slice none 0 0),.lit (.slice none 0 0),.lit (.slice none 0 0),.lit (.slice none 0 0)] true)) (.ptr H.n 0) (.agg (encPt p))=some ((H.new (.cells [I 0,Sx ⟨#[]⟩,.lit (.slice none 0 0),.lit (.slice none 0 0),.lit (.slice none 0 0),.lit (.slice none 0 0)] true)).set H.n (some (.cells (encPt p) true))):=by
   simp
   rw [ov_Pt p (by simp)]
  obtain ⟨H1,hH1⟩:∃ H1,H1=(H.new (.cells [I 0,Sx ⟨#[]⟩,.lit (.slice none 0 0),.lit (.slice none 0 0),.lit (.slice none 0 0),.lit (.slice none 0 0)] true)).set H.n (some (.cells (encPt p) true)):=⟨_,rfl⟩
  rw [← hH1] at hst1
  have k1:∀ i,i<H.n→H1.get i=H.get i:=fun i hi=>by
   have:i≠H.n:=by omega
   rw [hH1]; simp [this]
  have g1:H1.get H.n=some (.cells (encPt p) true):=by rw [hH1]; simp
  have n1:H1.n=H.n+1:=by rw [hH1]; rfl
  clear hH1
  have hb:bldR [I 0,Sx ⟨#[]⟩,.lit (.slice none 0 0),.lit (.slice none 0 0),.lit (.slice none 0 0),.lit (.slice none 0 0),.lit (.slice none 0 0)] [(0,6,.agg (encPt p))]=some (encPt p++[.lit (.slice none 0 0)]):=by
   simp only [bldR,cells_agg,len_encPt,beqN,decide_true,isAny_agg,Bool.not_false,Bool.and_true,bleN]
   simp [overlay]
  have hst2:stA 7 (H1.new (.cells [I 0,Sx ⟨#[]⟩,.lit (.slice none 0 0),.lit (.slice none 0 0),.lit (.slice none 0 0),.lit (.slice none 0 0),.lit (.slice none 0 0)] true)) (.ptr H1.n 0) (.agg (encPt p++[.lit (.slice none 0 0)]))=some ((H1.new (.cells [I 0,Sx ⟨#[]⟩,.lit (.slice none 0 0),.lit (.slice none 0 0),.lit (.slice none 0 0),.lit (.slice none 0 0),.lit (.slice none 0 0)] true)).set H1.n (some (.cells (encPt p++[.lit (.slice none 0 0)]) true))):=by
   simp
   rw [overlay_all (by simp)]
  obtain ⟨H2,hH2⟩:∃ H2,H2=(H1.new (.cells [I 0,Sx ⟨#[]⟩,.lit (.slice none 0 0),.lit (.slice none 0 0),.lit (.slice none 0 0),.lit (.slice none 0 0),.lit (.slice none 0 0)] true)).set H1.n (some (.cells (encPt p++[.lit (.slice none 0 0)]) true)):=⟨_,rfl⟩
  rw [← hH2] at hst2
  have k2:∀ i,i<H1.n→H2.get i=H1.get i:=fun i hi=>by
   have:i≠H1.n:=by omega
   rw [hH2]; simp [this]
  have g2:H2.get H1.n=some (.cells (encPt p++[.lit (.slice none 0 0)]) true):=by rw [hH2]; simp
  have n2':H2.n=H1.n+1:=by rw [hH2]; rfl
  clear hH2
  have g1':H2.get H.n=some (.cells (encPt p) true):=by rw [k2 H.n (by omega)]; exact g1
  have hps:ldL false 1 ((encPt p).drop 5)=some (.imm 4 (p.c.pseudos.map encPs)):=by rw [encPt_eq,encCp_eq]; rfl
  simp only [b_lss,hlt',decide_true,bnd_some,ifB_lit,if_true,ix_map hp,ld_ip,ldL_pt,allocK_eq,hst1,ld_ptr,g1,ldO_cells,List.drop_zero,hb,hst2,sh_ptr,Nat.zero_add,g1',hps,len_imm,List.length_map]
  have up0:=hA.fr.up
  have kk:∀ i,i<H.n→H2.get i=H.get i:=fun i hi=>by rw [k2 i (by omega),k1 i hi]
  have hA2:AS t C0 ab mb H0 cs0 C2 cs H2 y5 ns:=hA.loc hab (by omega) (fun i hi=>kk i (by omega)) (fun i hi=>kk i (hA.add.gcs.lt hi)) (fun i hi=>kk i (hA.out.lt hi))
  refine add_L2 ih hab hc2 hc3 (j:=j) (R:=((s.drop (j+1)).map (cntP f)).sum+(1+R)) (P:=fun D=>C2 <+: D∧D.length=C2.length+cntP f p) (by have:=hs.1; omega) (Nat.le_of_eq hcl) (fun H' cs' C3 y8' y11' lsl y31' y32' y33' b1 b2 b3 b4 b5 b6 b7=>?_) p.c.pseudos.length 0 H2 cs C2 y8 H1.n (.lit (.slice none 0 0)) [] (by omega) (Nat.zero_le _) hA2 (fun D h1 h2=>⟨h1,by rw [h2]; rfl⟩) (h8.loc (by omega) fun i hi=>kk i (h8.gs.lt hi)) g2 (by omega) (by omega) (fun h=>by have:=hA.add.gcs.lt h; omega) (fun h=>by have:=hA.out.lt h; omega) (fun h=>by have:=h8.gs.lt h; omega) ⟨.nil,fun i h=>h.elim⟩ (fun h=>h) (fun i h=>h.elim) rfl (fun j q ns' _ h=>by simp at h) (fun l h=>by cases h) (by have hcp:cntP f p=(p.c.pseudos.map (fun q=>cntF f q.list)).sum:=rfl; rw [hcp] at hcnt; simp only [List.drop_zero]; omega)
  obtain ⟨D,hD⟩:=b2.1
  refine ih2 (j+1) H' cs' C3 y8' y11' y31' y32' y33' (cl++[Lk.mk p lsl]) (by omega) (by omega) b1 (fun D2 h1 h2=>hQ D2 (b2.1.trans h1) ?_) b3 ?_ (fun k x hx=>?_) (fun x hx=>?_) b7
  ·rw [h2,b2.2,hdp,List.map_cons,List.sum_cons]
   omega
  ·rw [List.map_append,hparts,List.take_succ_eq_append_getElem hlt]
   rw [List.getElem?_eq_getElem hlt] at hp
   rw [Option.some.inj hp]
   rfl
  ·by_cases hk:k<cl.length
   ·rw [List.getElem?_append_left hk] at hx
    refine ⟨(hrep k x hx).1,fun j q ns' h1 h2=>?_⟩
    have:=((hrep k x hx).2 j q ns' h1 h2).mono (D:=D)
    rwa [List.append_assoc,hD] at this
   ·rw [List.getElem?_append_right (by omega)] at hx
    have h1:=(List.getElem?_eq_some_iff.1 hx).1
    simp at h1
    have:k - cl.length=0:=by omega
    rw [this] at hx
    simp at hx
    subst hx
    exact ⟨b4,b5⟩
  ·rcases List.mem_append.1 hx with h | h
   ·exact hlk x h
   ·simp at h
    subst h
    refine ⟨hc1,fun q hq=>(hc3 q hq).1,fun l hl=>?_⟩
    have:=b6 l hl
    rw [reach_eq]
    omega
theorem add_step {f:Nat} (ih:AddOk σ f):AddOk σ (f+1):=by
 have hNB:NB=1048576:=rfl
 intro l hl t C ab mb cs H K hA hcnt hK
 have L0:∀ (n m:Nat) (H1:Hp) (cs1:AV) (C2:List (List Lk)) (y5 y8 y11 y21 y22 y23 y31 y32 y33:AV) (ns:List Nat),l.length - m=n→m≤l.length→AS t C ab mb H cs C2 cs1 H1 y5 ns→Rep (C++C2) (f+1) (l.take m) ns→C2.length=cntF (f+1) (l.take m)→(C++C2).length+cntF (f+1) (l.drop m)≤NB →
   match_asked_add.L0 σ K (.ptr ab 0) y5 y8 y11 (sls l) (I l.length) (I (m:Int)) y21 y22 y23 y31 y32 y33 H1:=by
  intro n
  induction n with
  | zero =>
   intro m H1 cs1 C2 y5 y8 y11 y21 y22 y23 y31 y32 y33 ns hn hm h1 hr hc hb
   have:m=l.length:=by omega
   subst this
   rw [List.take_length] at hr hc
   refine match_asked_add.L0_step ?_
   simp only [b_lss,Int.lt_irrefl,decide_false,bnd_some,ifB_lit,Bool.false_eq_true,if_false]
   exact hK H1 cs1 C2 y5 ns h1.add hr hc h1.ok h1.out h1.o5 h1.fr
  | succ n ihn =>
   intro m H1 cs1 C2 y5 y8 y11 y21 y22 y23 y31 y32 y33 ns hn hm h1 hr hc hb
   have hlt:m<l.length:=by omega
   obtain ⟨s,hs⟩:=get_lt hlt
   have hsm:=List.mem_of_getElem? hs
   have hsk:SlOk f s:=hl.2 s hsm
   have hlt':(m:Int)<l.length:=by omega
   have hds:l.drop m=s::l.drop (m+1):=drop_get hs
   have hlb:=hl.1
   have hnl:ns.length=m:=by rw [hr.1,List.length_take]; omega
   have hcons:cntF (f+1) (s::l.drop (m+1))=1+(s.map (cntP f)).sum+cntF (f+1) (l.drop (m+1)):=by
    simp [cntF]
    rfl
   rw [hds,hcons] at hb
   have htk:cntF (f+1) (l.take (m+1))=cntF (f+1) (l.take m)+(1+(s.map (cntP f)).sum):=by
    have:l.take (m+1)=l.take m++[s]:=by rw [List.take_add_one,hs]; rfl
    rw [this]
    simp [cntF]
    rfl
   refine match_asked_add.L0_step ?_
   have hix:ixaSl 1 (sls l) (I (m:Int))=some (.ip (encSl s)):=ix_map hs
   have hst:stA 1 (H1.new (.cells [.lit (.slice none 0 0)] true)) (.ptr H1.n 0) (.agg (encSl s))=some ((H1.new (.cells [.lit (.slice none 0 0)] true)).set H1.n (some (.cells (encSl s) true))):=by
    simp [encSl]
   simp only [b_lss,hlt',decide_true,bnd_some,ifB_lit,if_true,hix,ld_ip,ldL_sl,allocK_eq,hst,sh_ptr,Nat.zero_add,ld_ptr,hp_get_set,ldO_cells,List.drop_zero,f_encSl0,len_imm,List.length_map]
   have up0:=h1.fr.up
   have hab:=hA.nab
   have kk:∀ i,i<H1.n→((H1.new (.cells [.lit (.slice none 0 0)] true)).set H1.n (some (.cells (encSl s) true))).get i=H1.get i:=fun i hi=>by
    have:i≠H1.n:=by omega
    simp [this]
   have h1':=h1.loc (H':=(H1.new (.cells [.lit (.slice none 0 0)] true)).set H1.n (some (.cells (encSl s) true))) hab (by simp) (fun i hi=>kk i (by omega)) (fun i hi=>kk i (h1.add.gcs.lt hi)) (fun i hi=>kk i (h1.out.lt hi))
   refine add_L1 ih hab (by omega) hsk (m0:=m) (by omega) (R:=cntF (f+1) (l.drop (m+1))) (Q:=fun D=>C2 <+: D∧D.length=C2.length+(s.map (cntP f)).sum) (fun H' cs' C3 y5' y8' y11' y21' y22' y23' y31' y32' y33' cl b1 b2 b3 b4 b5=>?_) s.length 0 _ cs1 C2 (.lit (.slice none 0 0)) _ _ _ _ [] (by omega) (Nat.zero_le _) h1' (fun D g1 g2=>⟨g1,by simpa using g2⟩) ⟨.nil,fun i h=>h.elim⟩ rfl (fun k x h=>by simp at h) (fun x h=>by cases h) (by simp at hb ⊢; omega)
   obtain ⟨D,hD⟩:=b2.1
   refine ihn (m+1) H' cs' (C3++[cl]) y5' y8' y11' y21' y22' y23' y31' y32' y33' _ (by omega) (by omega) b1 ⟨by simp [hnl]; omega,fun i s' n' hs' hn'=>?_⟩ ?_ (by simp at b5 ⊢; omega)
   ·by_cases hi:i<m
    ·rw [List.getElem?_take,if_pos (by omega)] at hs'
     rw [List.getElem?_append_left (by omega)] at hn'
     have hr2:Rep (C++(C3++[cl])) (f+1) (l.take m) ns:=by
      have:=hr.mono (D:=D++[cl])
      rwa [show C++C2++(D++[cl])=C++(C3++[cl]) by rw [← hD]; simp] at this
     exact hr2.2 i s' n' (by rw [List.getElem?_take,if_pos hi]; exact hs') hn'
    ·rw [List.getElem?_append_right (by omega)] at hn'
     have h2:=(List.getElem?_eq_some_iff.1 hn').1
     simp at h2
     have him:i=m:=by omega
     subst him
     rw [List.getElem?_take,if_pos (by omega),hs] at hs'
     cases hs'
     simp [hnl] at hn'
     subst hn'
     refine ⟨cl,by simp,b3,fun k x hx=>⟨(b4 k x hx).1,fun j q ns' g1 g2=>?_⟩⟩
     have:=((b4 k x hx).2 j q ns' g1 g2).mono (D:=[cl])
     rwa [List.append_assoc] at this
   ·rw [htk,List.length_append,b2.2,hc]
    simp
    omega
 refine match_asked_add.run ?_
 simp
 refine L0 l.length 0 H cs [] _ _ _ _ _ _ _ _ _ [] (by omega) (Nat.zero_le _) ⟨by simpa using hA,.refl _ _ _,fun c h=>(by cases h),.nil,fun i h=>h.elim⟩ ⟨rfl,fun i s n h=>by simp at h⟩ (by simp [cntF]) (by simpa using hcnt)
theorem add_ok:∀ (f:Nat),AddOk σ f
 | 0=>fun l h=>h.elim
 | f+1=>add_step (add_ok f)
end
end Go.Proofs.YthdcghnjndhecaaGreat.Ev
namespace Go.Proofs.YthdcghnjndhecaaGreat.Ev
set_option linter.unusedVariables false
set_option linter.unusedSimpArgs false
variable {σ:Sig}
theorem frz_res {sz:Nat} {H:Hp} {x:AV} {rows:List (List AV)} (hg:Gs sz H x rows) (hn:noIdss rows=true) :
  ∃ Hd H2:Hp,Hd.n=H.n∧H2.n=H.n∧(∀ id k,Hd.get id=some k→H.get id=some k∧H2.get id=none)∧(∀ id k2,H2.get id=some k2→∃ k1,H.get id=some k1∧FzB Hd k1 k2)∧Fz Hd x (.imm sz rows)∧∀ j,¬ own x j→H2.get j=H.get j:=by
 cases hg with
 | nil =>
  let Hd:Hp:=⟨H.n,Hp.empty.t⟩
  have hd0:∀ id,Hd.get id=none:=fun id=>by simp [Hd,Hp.empty,Hp.get,Tr.get]
  exact ⟨Hd,H,rfl,rfl,fun id k h=>(by rw [hd0] at h; cases h),fun id k2 h=>⟨k2,h,.refl _ _⟩,.nil,fun j _=>rfl⟩
 | sl hlt hg hsz =>
  rename_i id exx
  let Hd:Hp:=(⟨H.n,Hp.empty.t⟩:Hp).set id (some (.cells rows.flatten exx))
  have hd0:∀ j,Hd.get j=if j=id then some (.cells rows.flatten exx) else none:=fun j=>by
   show ((⟨H.n,Hp.empty.t⟩:Hp).set id _).get j=_
   rw [hp_get_set]
   split
   ·rfl
   ·simp [Hp.empty,Hp.get,Tr.get]
  have hf:Fz Hd (.sl id 0 sz rows.length none) (.imm sz rows):=.rows (cs:=rows.flatten) (ex:=exx) (by rw [hd0,if_pos rfl]) hsz (by rw [List.drop_zero]; exact List.take_of_length_le (by rw [flatten_len hsz]; exact Nat.le_refl _)) hn
  refine ⟨Hd,H.set id none,rfl,rfl,fun j k h=>?_,fun j k2 h=>?_,hf,fun j ho=>?_⟩
  ·rw [hd0] at h
   split at h
   ·rename_i e; subst e; cases h
    exact ⟨hg,by simp⟩
   ·cases h
  ·rw [hp_get_set] at h
   split at h
   ·cases h
   ·exact ⟨k2,h,.refl _ _⟩
  ·have:j≠id:=fun e=>ho (by rw [e]; rfl)
   simp [this]
theorem add_sp {f:Nat} {l:List Sl} (hl:SlsOk f l) {t:AV} {C:List (List Lk)} {ab mb:Nat} {cs:AV} {H:Hp} {K:AV→Hp→Prop} (hA:AddH t C ab mb cs H) (hc:C.length+cntF f l≤NB)
  (hK:∀ (H':Hp) (cs':AV) (C2:List (List Lk)) (ns:List Nat),AddH t (C++C2) ab mb cs' H'→Rep (C++C2) f l ns→C2.length=cntF f l→(∀ c ∈ C2,ChOk c)→AFr H cs ab H' cs'→K (ints ns) H'):callK Tryz.prog σ n_match_asked_add [.ptr ab 0,sls l] H K:=by
 obtain ⟨r,H1,hg,cs',C2,ns,h1,h2,h3,h4,h5,h6,h7⟩:=add_ok (σ:=σ) f l hl t C ab mb cs H (fun r H'=>∃ cs' C2 ns,AddH t (C++C2) ab mb cs' H'∧Rep (C++C2) f l ns∧C2.length=cntF f l∧(∀ c ∈ C2,ChOk c)∧Gs 1 H' r (ns.map encN)∧(∀ j,own r j→H.n≤j∧¬ own cs' j)∧AFr H cs ab H' cs') hA hc fun H' cs' C2 r ns a b c d e f g=>⟨cs',C2,ns,a,b,c,d,e,f,g⟩
 obtain ⟨Hd,H2,a1,a2,a3,a4,a5,a6⟩:=frz_res h5 (noIds_map _ (fun _=>rfl) ns)
 have hab:=hA.nab
 refine callK_of (hg.frzH a2 a1 a3 a4 (.inr a5)) (hK H2 cs' C2 ns (h1.loc (by omega) (a6 _ fun h=>?_) fun j hj=>a6 _ fun h=>(h6 j h).2 hj) h2 h3 h4 (h7.loc (by omega) fun j hj=>a6 _ fun h=>?_))
 ·have:=(h6 _ h).1; omega
 ·have:=(h6 _ h).1; omega
theorem selC_app {C D:List (List Lk)} {n:Nat} (h:n<C.length):selC (C++D) n=selC C n:=by
 unfold selC
 rw [List.getD_eq_getElem?_getD,List.getD_eq_getElem?_getD,List.getElem?_append_left h]
theorem tru_app {L:List Nd} {C D:List (List Lk)} {n:Nat} (h:n<C.length) (i e:Nat) (a:Bool):Tru L (C++D) n i e a=Tru L C n i e a:=by
 unfold Tru
 rw [selC_app h]
theorem MemoOk.app {L:List Nd} {C D:List (List Lk)} {es:List (AV × AV)} (h:MemoOk C.length (Tru L C) es):MemoOk (C++D).length (Tru L (C++D)) es:=fun p hp=>by
 obtain ⟨n,i,e,a,h1,h2,h3⟩:=h p hp
 exact ⟨n,i,e,a,by rw [List.length_append]; omega,by rw [tru_app h1]; exact h2,h3⟩
theorem cntF_cons (f:Nat) (s:Sl) (l:List Sl):cntF f (s::l)=cntF f [s]+cntF f l:=by
 cases f with
 | zero=>rfl
 | succ f=>simp [cntF]
theorem Nest.one {f:Nat} {l:List Sl} (h:Nest f l) {s:Sl} (hs:s ∈ l):Nest f [s]:=by
 cases f with
 | zero=>exact h
 | succ f=>exact fun s' hs'=>by rw [List.mem_singleton.1 hs']; exact h s hs
theorem SlsOk.one {f:Nat} {l:List Sl} (h:SlsOk f l) {s:Sl} (hs:s ∈ l):SlsOk f [s]:=by
 cases f with
 | zero=>exact h
 | succ f=>exact ⟨(by show 1≤NB; decide),fun s' hs'=>by rw [List.mem_singleton.1 hs']; exact h.2 s hs⟩
theorem sl_one {l:List Sl} {m:Nat} {s:Sl} (h:l[m]?=some s):slSl 1 (sls l) (some (I (m:Int))) (some (I ((m+1:Nat):Int))) none=some (sls [s]):=by
 have hlt:=(List.getElem?_eq_some_iff.1 h).1
 have e1:((m:Int)+1)≤l.length:=by omega
 have e2:(0:Int)≤(m:Int)+1:=by omega
 have e3:((m:Int)+1).toNat=m+1:=by omega
 have e4:(List.drop m (l.map encSl)).take 1=[encSl s]:=by
  rw [← List.map_drop,drop_get h]; rfl
 simp [slSl,intO,intA,slSl0,sls,boundsA,boundA,beqN,e1,e2,e3,e4,show ((m:Int)≤(m:Int)+1) from by omega]
def mayAny (L:List Nd) (f:Nat) (l:List Sl) (e:Nat):Bool:=l.any fun s=>mayF f [s] 8&&AA L [s] e
structure McT (σ:Sig) (L:List Nd) (d:List Nat):Prop where
 hC:HasC σ
 hB:Built L L.length d
 hN:L.length≤4096
 sm:∀ e,e<L.length→SmN (lowN (ndAt L e))
structure SelOk (f:Nat) (l:List Sl):Prop where
 wf:slsWf Lmax l
 ok:SlsOk f l
 nest:Nest f l
 hf:f≤12
 cnt:cntF f l≤NB
section
attribute [local irreducible] match_Any.L0
theorem Any_ok {L:List Nd} {d:List Nat} (M:McT σ L d) {f:Nat} {l:List Sl} (S:SelOk f l) (e:Int) (H:Hp) :
  Good Tryz.prog σ n_match_Any [domT L d,I e,sls l] H (Bo (decide (0≤e)&&decide (e<L.length)&&mayAny L f l e.toNat)) H:=by
 have hNB:NB=1048576:=rfl
 refine good_by (fun K hK=>match_Any.run (callK_of (is_ok L d e _) ?_)) (by simp [noIds,noId,noId_domT,noId_sls]) rfl H
 simp only [u_not,bnd_some,ifB_lit]
 cases hin:(decide (0≤e)&&decide (e<L.length)) with
 | false=>rw [hin] at hK; simpa using hK _
 | true =>
 rw [hin] at hK
 simp only [Bool.true_and] at hK
 simp only [Bool.and_eq_true,decide_eq_true_eq] at hin
 obtain ⟨en,rfl⟩:∃ en:Nat,e=(en:Int):=⟨e.toNat,by omega⟩
 have he:en<L.length:=by omega
 rw [Int.toNat_natCast] at hK
 simp only [Bool.not_true,Bool.false_eq_true,if_false]
 have hlen:lenSl (sls l)=some (I (l.length:Int)):=by unfold sls; simp
 have hlw:l.length≤NB:=by
  have:=S.ok
  revert this
  cases f with
  | zero=>exact fun h=>h.elim
  | succ f=>exact fun h=>h.1
 have L0:∀ (k m:Nat) (H1:Hp) (C:List (List Lk)) (ab mb:Nat) (cs:AV),l.length - m=k→m≤l.length→Asks (domT L d) C (Tru L C) ab mb cs H1→¬ own cs ab→Mc σ L d C→C.length+cntF f (l.drop m)≤NB→(∀ H,K (Bo (mayAny L f (l.drop m) en)) H) →
   match_Any.L0 σ K (I (en:Int)) (sls l) (.ptr ab 0) (I l.length) (I (m:Int)) H1:=by
  intro k
  induction k with
  | zero =>
   intro m H1 C ab mb cs hk hm hA hcs hM hc hK
   have:m=l.length:=by omega
   subst this
   refine match_Any.L0_step ?_
   simp
   simpa [mayAny] using hK H1
  | succ k ih =>
   intro m H1 C ab mb cs hk hm hA hcs hM hc hK
   have hlt:m<l.length:=by omega
   obtain ⟨s,hs⟩:=get_lt hlt
   have hsm:=List.mem_of_getElem? hs
   have hlt':(m:Int)<l.length:=by omega
   rw [drop_get hs] at hK hc
   rw [cntF_cons] at hc
   have hwf:slsWf Lmax [s]:=⟨(by show 1≤Lmax; decide),fun s' h=>by rw [List.mem_singleton.1 h]; exact S.wf.2 s hsm⟩
   have hn1:=S.nest.one hsm
   have hcons:mayAny L f (s::l.drop (m+1)) en=((mayF f [s] 8&&AA L [s] en)||mayAny L f (l.drop (m+1)) en):=by simp [mayAny]
   rw [hcons] at hK
   refine match_Any.L0_step ?_
   simp only [b_lss,hlt',decide_true,bnd_some,ifB_lit,if_true,b_add,wr_succ (show m<9000000000000000000 by omega),sl_one hs]
   refine callK_of (may_ok f [s] 8 _ hwf hn1 (by omega)) ?_
   simp only [ifB_lit]
   cases hmay:mayF f [s] 8 with
   | false =>
    rw [hmay] at hK
    simp only [Bool.false_and,Bool.false_or] at hK
    simp only [Bool.false_eq_true,if_false]
    exact ih (m+1) H1 C ab mb cs (by omega) (by omega) hA hcs hM (by omega) hK
   | true =>
    rw [hmay] at hK
    simp only [Bool.true_and] at hK
    simp only [if_true]
    have nmb:=hA.nmb
    have nab:=hA.nab
    refine add_sp (S.ok.one hsm) ⟨hA.gab,hA.nab,hA.gcs,hcs⟩ (by omega) fun H' cs' C2 ns b1 b2 b3 b4 b5=>?_
    have up:=b5.up
    have hA':Asks (domT L d) (C++C2) (Tru L (C++C2)) ab mb cs' H':=by
     obtain ⟨es,g1,g2⟩:=hA.memo
     refine ⟨b1.gab,b1.nab,by omega,hA.ne,b1.gcs,fun h=>?_,es,by rw [b5.get mb nmb hA.ne.symm hA.csm]; exact g1,g2.app⟩
     rcases b5.mine mb h with h | h
     ·exact hA.csm h
     ·omega
    have hM':Mc σ L d (C++C2):=by
     have hre:NB≤reachBytes:=by rw [reach_eq]; decide
     refine ⟨M.hC,M.hB,M.hN,M.sm,?_,fun c hc'=>?_,fun c hc'=>?_⟩
     ·rw [List.length_append,b3]; omega
     ·rcases List.mem_append.1 hc' with h | h
      ·exact hM.ll c h
      ·exact Nat.le_trans (b4 c h).len hre
     ·rcases List.mem_append.1 hc' with h | h
      ·exact hM.lk c h
      ·exact (b4 c h).lk
    have hns:ns.length≤reachBytes:=by
     have:ns.length=1:=by
      have:=b2
      revert this
      cases f with
      | zero=>exact fun h=>h.elim
      | succ f=>exact fun h=>h.1
     rw [this]; decide
    refine any_ok hM' f S.hf [s] ns b2 hn1 S.hf hns en he ab mb cs' H' _ hA' fun H2 h2 kp2=>?_
    simp only [ifB_lit]
    cases haa:AA L [s] en with
    | true =>
     rw [haa] at hK
     simpa using hK H2
    | false =>
     rw [haa] at hK
     simp only [Bool.false_or] at hK
     simp only [Bool.false_eq_true,if_false]
     exact ih (m+1) H2 (C++C2) ab mb cs' (by omega) (by omega) h2 b1.csab hM' (by rw [List.length_append,b3]; omega) hK
 refine match_begin.run ?_
 have hb:bldR [.lit (.pointer none),.lit (.slice none 0 0),.lit (.map none)] [(0,1,domT L d),(2,1,.mp Hp.empty.n)]=some [domT L d,.lit (.slice none 0 0),.mp Hp.empty.n]:=rfl
 simp only [hb,bnd_some,boxK_agg,hlen]
 refine L0 l.length 0 _ [] _ Hp.empty.n (.lit (.slice none 0 0)) (by omega) (Nat.zero_le _) ⟨?_,?_,?_,?_,.nil,fun h=>h.elim,[],?_,fun p hp=>by cases hp⟩ (fun h=>h.elim) ⟨M.hC,M.hB,M.hN,M.sm,Nat.zero_le _,fun c hc=>(by cases hc),fun c hc=>(by cases hc)⟩ (by simpa using S.cnt) (by simpa using hK)
 ·simp
 ·simp
 ·simp only [Hp.n_new]; omega
 ·simp
 ·simp
end
end Go.Proofs.YthdcghnjndhecaaGreat.Ev
namespace Go.Proofs.YthdcghnjndhecaaGreat.Ev
set_option linter.unusedVariables false
set_option linter.unusedSimpArgs false
variable {σ:Sig}
theorem fz_sl1 {H:Hp} {id:Nat} {s:Sl} {ex:Bool} {cap:Option Nat} (hg:H.get id=some (.cells (encSl s) ex)):Fz H (.sl id 0 1 1 cap) (sls [s]):=by
 have h1:(encSl s).length=1:=rfl
 have:Fz H (.sl id 0 1 [encSl s].length cap) (.imm 1 [encSl s]):=.rows hg (by simp [h1]) (by simp; exact List.take_of_length_le (by rw [h1]; exact Nat.le_refl _)) (by simp [noIdss,noId_Sl])
 exact this
def selB (L:List Nd) (f:Nat) (s:Sl) (e:Int):Bool:=decide (0≤e)&&decide (e<L.length)&&mayAny L f [s] e.toNat
theorem Sel_ok {L:List Nd} {d:List Nat} (M:McT σ L d) {f:Nat} {s:Sl} (S:SelOk f [s]) (e:Int) (H:Hp):Good Tryz.prog σ n_match_Selector [domT L d,I e,.agg (encSl s)] H (Bo (selB L f s e)) H:=by
 refine good_by (fun K hK=>match_Selector.run ?_) (by simp [noIds,noId,noId_domT,noId_Sl]) rfl H
 have hb:∀ H:Hp,bldSlR [.slice none 0 0] 1 1 H [(0,1,.agg (encSl s))]=some (.sl H.n 0 1 1 (some 1),H.new (.cells (encSl s) true)):=fun H=>by
  unfold bldSlR encSl; rfl
 have hl:∀ H:Hp,ldA true 1 (H.new (.cells (encSl s) true)) (.ptr H.n 0)=some (.agg (encSl s)):=fun H=>by
  simp only [ld_ptr,hp_get_new,if_true,ldO_cells,List.drop_zero,ldL_sl]
 simp only [boxK_agg,hl,hb,bnd_some]
 refine callK_of ((Any_ok M S e Hp.empty).frzA (.cons (.refl (noId_domT L d)) (.cons (.refl rfl) (.cons (fz_sl1 (ex:=true) (by simp)) .nil))) rfl) ?_
 exact hK _
end Go.Proofs.YthdcghnjndhecaaGreat.Ev
namespace Go.Proofs.YthdcghnjndhecaaGreat.Ev
set_option linter.unusedVariables false
set_option linter.unusedSimpArgs false
variable {σ:Sig}
def DsOk (σ:Sig) (f:Nat):Prop:=∀ (s:Sl) (dp:Nat) (H:Hp),slWf Lmax s→(∀ p ∈ s,∀ q ∈ p.c.pseudos,Nest f q.list)→dp≤8→Good Tryz.prog σ n_ref9_DeepSel [.agg (encSl s),I (dp:Int)] H (Bo (!mayS (mayF f) (8 - dp) s)) H
def DcOk (σ:Sig) (f:Nat):Prop:=∀ (c:Cp) (dp:Nat) (H:Hp),CpWf Lmax c→(∀ q ∈ c.pseudos,Nest f q.list)→dp≤8→Good Tryz.prog σ n_ref9_Deep [.agg (encCp c),I (dp:Int)] H (Bo (!mayC (mayF f) (8 - dp) c)) H
section
attribute [local irreducible] ref9_Deep.L0 ref9_Deep.J1 ref9_Deep.L2 ref9_DeepSel.L0
theorem ds_step {f:Nat} (ih:DcOk σ f):DsOk σ f:=by
 intro s dp H hw hn hd
 refine good_by (fun K hK=>ref9_DeepSel.run ?_) (by simp [noIds,noId,noId_Sl]) rfl H
 have L0:∀ (m k y2:Nat) (H:Hp),s.length - m=k→m≤s.length→H.get y2=some (.cells (encSl s) true)→(∀ H,K (Bo (!(s.drop m).all fun p=>mayC (mayF f) (8 - dp) p.c)) H)→ref9_DeepSel.L0 σ K (I (dp:Int)) (.ptr y2 0) (I (m:Int)) H:=by
  intro m k
  revert m
  induction k with
  | zero =>
   intro m y2 H hk hm hg hK
   have:m=s.length:=by omega
   subst this
   refine ref9_DeepSel.L0_step ?_
   simp only [sh_ptr,Nat.zero_add,bnd_some,ld_ptr,hg,ldO_cells,List.drop_zero,f_encSl0,len_imm,List.length_map,b_lss,Int.lt_irrefl,decide_false,ifB_lit,Bool.false_eq_true,if_false]
   simpa using hK H
  | succ k ihk =>
   intro m y2 H hk hm hg hK
   have hlt:m<s.length:=by omega
   obtain ⟨p,hp⟩:=get_lt hlt
   have hpm:=List.mem_of_getElem? hp
   have hpw:=(Pt.wf_iff.1 (hw.2 p hpm)).2
   rw [drop_get hp,List.all_cons] at hK
   have hlt':(m:Int)<s.length:=by omega
   refine ref9_DeepSel.L0_step ?_
   have hd1:(encPt p).drop 1=encCp p.c:=by rw [encPt_eq]; rfl
   have hld:ldL true 5 ((encPt p).drop 1)=some (.agg (encCp p.c)):=by rw [hd1,ldL_cp]
   have hsh:shiftA (.ip (encPt p)) 1=some (.ip ((encPt p).drop 1)):=by rw [encPt_eq,encCp_eq]; rfl
   simp only [sh_ptr,Nat.zero_add,bnd_some,ld_ptr,hg,ldO_cells,List.drop_zero,f_encSl0,len_imm,List.length_map,b_lss,hlt',decide_true,ifB_lit,if_true,ix_map hp,hsh,ld_ip,hld]
   refine callK_of (ih p.c dp _ hpw (fun q hq=>hn p hpm q hq) hd) ?_
   simp only [ifB_lit]
   cases hb:mayC (mayF f) (8 - dp) p.c with
   | false =>
    rw [hb] at hK
    simpa using hK _
   | true =>
    rw [hb] at hK
    simp only [Bool.not_true,Bool.false_eq_true,if_false,b_add,bnd_some,wr_succL hlt hw.1]
    exact ihk (m+1) y2 H (by omega) (by omega) hg (by simpa using hK)
 have hS:mayS (mayF f) (8 - dp) s=(decide (s.length≤50)&&s.all fun p=>mayC (mayF f) (8 - dp) p.c):=rfl
 rw [hS] at hK
 simp only [boxK_agg,sh_ptr,bnd_some,Nat.zero_add,ld_ptr,hp_get_new,if_true,ldO_cells,List.drop_zero,f_encSl0,len_imm,List.length_map,b_gtr,ifB_lit,decide_eq_true_eq]
 split
 ·rename_i h50
  have:¬ (s.length≤50):=by omega
  simpa [this] using hK _
 ·rename_i h50
  have:s.length≤50:=by omega
  refine L0 0 _ _ _ rfl (Nat.zero_le _) (by simp) ?_
  simpa [this] using hK
theorem dc_step {f:Nat} (ih:∀ f',f=f'+1→DsOk σ f'):DcOk σ f:=by
 intro c dp H hc hn hd
 refine good_by (fun K hK=>ref9_Deep.run ?_) (by simp [noIds,noId,noId_Cp]) rfl H
 have L0:∀ (k m y2:Nat) (H:Hp) (y6 y7:AV),c.pseudos.length - m=k→m≤c.pseudos.length→y2<H.n→H.get y2=some (.cells (encCp c) true)→(∀ H,K (Bo (!(c.pseudos.drop m).all (mayQ (mayF f) (8 - dp)))) H)→ref9_Deep.L0 σ K (I (dp:Int)) (.ptr y2 0) (I (m:Int)) y6 y7 H:=by
  intro k
  induction k with
  | zero =>
   intro m y2 H y6 y7 hk hm hy2 hg hK
   have:m=c.pseudos.length:=by omega
   subst this
   refine ref9_Deep.L0_step ?_
   simp only [sh_ptr,Nat.zero_add,bnd_some,ld_ptr,hg,ldO_cells,f_encCp4,len_imm,List.length_map,b_lss,Int.lt_irrefl,decide_false,ifB_lit,Bool.false_eq_true,if_false]
   simpa using hK H
  | succ k ihk =>
   intro m y2 H y6 y7 hk hm hy2 hg hK
   have hlt:m<c.pseudos.length:=by omega
   obtain ⟨q,hq⟩:=get_lt hlt
   have hqm:=List.mem_of_getElem? hq
   have hqw:=(Ps.wf_iff.1 (hc.ps q hqm)).2.2.2
   rw [drop_get hq,List.all_cons] at hK
   have hlt':(m:Int)<c.pseudos.length:=by omega
   have next:∀ (H:Hp) (y6 y7:AV),y2<H.n→H.get y2=some (.cells (encCp c) true)→mayQ (mayF f) (8 - dp) q=true→ref9_Deep.J1 σ K (I (dp:Int)) (.ptr y2 0) (I (m:Int)) y6 y7 H:=by
    intro H y6 y7 h1 h2 ht
    refine ref9_Deep.J1_step ?_
    simp only [b_add,bnd_some,wr_succL hlt hc.psL]
    refine ihk (m+1) y2 H y6 y7 (by omega) (by omega) h1 h2 fun H'=>?_
    have:=hK H'
    rwa [ht,Bool.true_and] at this
   have ask:∀ (H:Hp) (y6:Nat) (y7:AV),(q.kind=7∨q.kind=8)→y2<H.n→H.get y2=some (.cells (encCp c) true)→H.get y6=some (.cells (encPs q) true)→ifB (Bo (decide ((8:Int)≤(dp:Int)))) (K (Bo true) H) (ref9_Deep.L2 σ K (I (dp:Int)) (.ptr y2 0) (I (m:Int)) (.ptr y6 0) (I 0) H):=by
    intro H y6 y7 hkq hy hg2 hg6
    simp only [ifB_lit,decide_eq_true_eq]
    have hQ:mayQ (mayF f) (8 - dp) q=(!decide (8 - dp=0)&&mayF f q.list (8 - dp - 1)):=by unfold mayQ; rw [if_pos hkq]
    split
    ·rename_i h0
     have h0':8 - dp=0:=by omega
     have:=hK H
     rw [hQ] at this
     simpa [h0'] using this
    ·rename_i h0
     have h0':¬ (8 - dp=0):=by omega
     have hnq:=hn q hqm
     cases f with
     | zero=>exact hnq.elim
     | succ f' =>
     have hQ2:mayQ (mayF (f'+1)) (8 - dp) q=q.list.all (mayS (mayF f') (8 - (dp+1))):=by
      rw [hQ]
      simp only [h0',decide_false,Bool.not_false,Bool.true_and]
      rw [show 8 - (dp+1)=8 - dp - 1 by omega]
      rfl
     have L2:∀ (k2 j:Nat) (H:Hp),q.list.length - j=k2→j≤q.list.length→y2<H.n→H.get y2=some (.cells (encCp c) true)→H.get y6=some (.cells (encPs q) true)→(∀ i,i<j→∀ s,q.list[i]?=some s→mayS (mayF f') (8 - (dp+1)) s=true)→ref9_Deep.L2 σ K (I (dp:Int)) (.ptr y2 0) (I (m:Int)) (.ptr y6 0) (I (j:Int)) H:=by
      intro k2
      induction k2 with
      | zero =>
       intro j H hk2 hj hy hg2 hg6 hall
       have:j=q.list.length:=by omega
       subst this
       refine ref9_Deep.L2_step ?_
       simp only [sh_ptr,Nat.zero_add,bnd_some,ld_ptr,hg6,ldO_cells,f_encPs3,sls,len_imm,List.length_map,b_lss,Int.lt_irrefl,decide_false,ifB_lit,Bool.false_eq_true,if_false]
       refine next H _ _ hy hg2 ?_
       rw [hQ2,List.all_eq_true]
       intro s hs
       obtain ⟨i,hi⟩:=List.getElem?_of_mem hs
       exact hall i (List.getElem?_eq_some_iff.1 hi).1 s hi
      | succ k2 ih2 =>
       intro j H hk2 hj hy hg2 hg6 hall
       have hjlt:j<q.list.length:=by omega
       obtain ⟨s,hs⟩:=get_lt hjlt
       have hsm:=List.mem_of_getElem? hs
       have hjlt':(j:Int)<q.list.length:=by omega
       refine ref9_Deep.L2_step ?_
       have hix:ixaSl 1 (.imm 1 (q.list.map encSl)) (I (j:Int))=some (.ip (encSl s)):=ix_map hs
       have e1:wr .i64 ((dp:Int)+1)=((dp+1:Nat):Int):=by rw [wr64 (by omega) (by omega)]; rfl
       simp only [sh_ptr,Nat.zero_add,bnd_some,ld_ptr,hg6,ldO_cells,f_encPs3,sls,len_imm,List.length_map,b_lss,hjlt',decide_true,ifB_lit,if_true,hix,ld_ip,ldL_sl,b_add,e1]
       refine callK_of (ih f' rfl s (dp+1) _ (hqw.2 s hsm) (fun p hp q2 hq2=>hnq s hsm p hp q2 hq2) (by omega)) ?_
       simp only [ifB_lit]
       cases hb:mayS (mayF f') (8 - (dp+1)) s with
       | false =>
        have:=hK H
        have hf:q.list.all (mayS (mayF f') (8 - (dp+1)))=false:=by
         rw [List.all_eq_false]
         exact ⟨s,hsm,by rw [hb]; simp⟩
        rw [hQ2,hf] at this
        simpa using this
       | true =>
        simp only [Bool.not_true,Bool.false_eq_true,if_false,bnd_some,wr_succL hjlt hqw.1]
        refine ih2 (j+1) H (by omega) (by omega) hy hg2 hg6 fun i hi s' hs'=>?_
        by_cases hij:i<j
        ·exact hall i hij s' hs'
        ·have:i=j:=by omega
         subst this
         rw [hs] at hs'
         cases hs'
         exact hb
     exact L2 _ 0 H rfl (Nat.zero_le _) hy hg2 hg6 fun i hi=>by omega
   refine ref9_Deep.L0_step ?_
   have hst:stA 4 (H.new (.cells [I 0,I 0,I 0,.lit (.slice none 0 0)] true)) (.ptr H.n 0) (.agg (encPs q))=some ((H.new (.cells [I 0,I 0,I 0,.lit (.slice none 0 0)] true)).set H.n (some (.cells (encPs q) true))):=by
    simp
    rw [ov_Ps q (by simp)]
   simp only [sh_ptr,Nat.zero_add,bnd_some,ld_ptr,hg,ldO_cells,f_encCp4,len_imm,List.length_map,b_lss,hlt',decide_true,ifB_lit,if_true,ix_map hq,ld_ip,ldL_ps,allocK_eq,hst,hp_get_set,List.drop_zero,f_encPs0,b_neq,b_geq]
   have hne:¬ (y2=H.n):=by omega
   have hg2:((H.new (.cells [I 0,I 0,I 0,.lit (.slice none 0 0)] true)).set H.n (some (.cells (encPs q) true))).get y2=some (.cells (encCp c) true):=by simp [hne,hg]
   have hn2:y2<((H.new (.cells [I 0,I 0,I 0,.lit (.slice none 0 0)] true)).set H.n (some (.cells (encPs q) true))).n:=by simp; omega
   have hask:=fun h=>ask _ H.n (I 0) h hn2 hg2 (by simp)
   simp only [ifB_lit] at hask
   by_cases h7:q.kind=7
   ·simp only [h7,decide_true,Bool.not_true,Bool.false_eq_true,if_false]
    exact hask (.inl h7)
   ·simp only [h7,decide_false,Bool.not_false,if_true]
    by_cases h8:q.kind=8
    ·simp only [h8,decide_true,Bool.not_true,Bool.false_eq_true,if_false]
     exact hask (.inr h8)
    ·simp only [h8,decide_false,Bool.not_false,if_true]
     exact next _ _ _ hn2 hg2 (by unfold mayQ; rw [if_neg (by omega)])
 simp only [boxK_agg]
 exact L0 _ 0 _ _ _ _ rfl (Nat.zero_le _) (by simp) (by simp) (by simpa [mayC] using hK)
theorem dc_ok:∀ (f:Nat),DcOk σ f
 | 0=>dc_step fun f' h=>by omega
 | f+1=>dc_step fun f' h=>by
  have:f'=f:=by omega
  rw [this]
  exact ds_step (dc_ok f)
theorem ds_ok (f:Nat):DsOk σ f:=ds_step (dc_ok f)
end
end Go.Proofs.YthdcghnjndhecaaGreat.Ev
namespace Go.Proofs.YthdcghnjndhecaaGreat.Ev
set_option linter.unusedVariables false
set_option linter.unusedSimpArgs false
variable {σ:Sig}
theorem rix {L:List Nd} {e:Nat} (he:e<L.length):ixaSl 5 (nds (L.map lowN)) (I (e:Int))=some (.ip (encNd (lowN (ndAt L e)))):=by
 have:(L.map lowN)[e]?=some (lowN (ndAt L e)):=by
  rw [List.getElem?_map,List.getElem?_eq_getElem he]
  simp [ndAt,List.getD_eq_getElem?_getD,List.getElem?_eq_getElem he]
 exact ix_map this
theorem rnilp (L:List Nd) (d:List Nat):nilR (refT L d)=some (refT L d):=rfl
theorem rsh (L:List Nd) (d:List Nat):shiftA (refT L d) 0=some (refT L d):=rfl
theorem rld (L:List Nd) (d:List Nat) (H:Hp):ldA false 1 H (refT L d)=some (nds (L.map lowN)):=rfl
theorem rlen (L:List Nd):lenSl (nds (L.map lowN))=some (I (L.length:Int)):=by unfold nds; simp
theorem rpar (L:List Nd) (e:Nat) (H:Hp):ldA false 1 H (.ip (encNd (lowN (ndAt L e))))=some (I (par L e)):=rfl
theorem rndsh (L:List Nd) (e:Nat):shiftA (.ip (encNd (lowN (ndAt L e)))) 0=some (.ip (encNd (lowN (ndAt L e)))):=rfl
theorem ris_ok (L:List Nd) (d:List Nat) (e:Int) (H:Hp):Good Tryz.prog σ n_ref9_Tree_is [refT L d,I e] H (Bo (decide (0≤e)&&decide (e<L.length))) H:=by
 refine good_by (fun K hK=>ref9_Tree_is.run ?_) (by simp [noIds,noId_refT,noId]) rfl H
 have e1:eqPtrR .neq (refT L d) (.lit (.pointer none))=some (Bo true):=rfl
 simp only [e1,bnd_some,ifB_lit,if_true,b_geq,decide_eq_true_eq,rnilp,rsh,rld,rlen,b_lss]
 split
 ·rename_i h
  simpa [h] using hK _
 ·rename_i h
  simpa [h] using hK _
theorem ris_t (L:List Nd) (d:List Nat) {e:Nat} (he:e<L.length) (H:Hp):Good Tryz.prog σ n_ref9_Tree_is [refT L d,I (e:Int)] H (Bo true) H:=by
 have:=ris_ok (σ:=σ) L d (e:Int) H
 rwa [show (decide (0≤(e:Int))&&decide ((e:Int)<L.length))=true by simp; omega] at this
theorem rParent_ok (L:List Nd) (d:List Nat) {e:Nat} (he:e<L.length) (H:Hp):Good Tryz.prog σ n_ref9_Tree_Parent [refT L d,I (e:Int)] H (I (par L e)) H:=by
 refine good_by (fun K hK=>ref9_Tree_Parent.run (callK_of (ris_t L d he _) ?_)) (by simp [noIds,noId_refT,noId]) rfl H
 simp only [u_not,bnd_some,Bool.not_true,ifB_lit,Bool.false_eq_true,if_false,rnilp,rsh,rld,rix he,rndsh,rpar]
 exact hK _
theorem sib_cons (P:Nat→Bool) (m:Nat):(List.range (m+1)).filter P=(List.range m).filter P++if P m then [m] else []:=by
 rw [List.range_succ,List.filter_append]
 congr 1
 simp only [List.filter_cons,List.filter_nil]
theorem rPlace_ok (L:List Nd) (d:List Nat) (hN:L.length≤4096) {e:Nat} (he:e<L.length) (H:Hp):Good Tryz.prog σ n_ref9_Tree_Place [refT L d,I (e:Int)] H (I (place L e)) H:=by
 refine good_by (fun K hK=>ref9_Tree_Place.run (callK_of (ris_t L d he _) ?_)) (by simp [noIds,noId_refT,noId]) rfl H
 simp only [u_not,bnd_some,Bool.not_true,ifB_lit,Bool.false_eq_true,if_false]
 have L0:∀ (k m:Nat) (H:Hp),e - m=k→0<m→m≤e→ref9_Tree_Place.L0 σ K (refT L d) (I (e:Int)) (I ((((List.range m).filter fun j=>decide (0<j)&&decide (par L j=par L e)).length+1:Nat):Int)) (I (m:Int)) H:=by
  intro k
  induction k with
  | zero =>
   intro m H hk h0 hm
   have:m=e:=by omega
   subst this
   refine ref9_Tree_Place.L0_step ?_
   simp only [b_lss,Int.lt_irrefl,decide_false,bnd_some,ifB_lit,Bool.false_eq_true,if_false]
   exact hK _
  | succ k ih =>
   intro m H hk h0 hm
   have hlt:(m:Int)<(e:Int):=by omega
   have hl:((List.range m).filter fun j=>decide (0<j)&&decide (par L j=par L e)).length≤m:=by
    have:=List.length_filter_le (fun j=>decide (0<j)&&decide (par L j=par L e)) (List.range m)
    rwa [List.length_range] at this
   have hs:=sib_cons (fun j=>decide (0<j)&&decide (par L j=par L e)) m
   refine ref9_Tree_Place.L0_step ?_
   simp only [b_lss,hlt,decide_true,bnd_some,ifB_lit,if_true,rnilp,rsh,rld,rix (show m<L.length by omega),rix he,rndsh,rpar,b_eql,decide_eq_true_eq]
   have nx:=ih (m+1) H (by omega) (by omega) (by omega)
   rw [hs] at nx
   split
   ·rename_i hp
    simp only [b_add,bnd_some]
    rw [wr_succ (by omega)]
    refine ref9_Tree_Place.J1_step ?_
    simp only [b_add,bnd_some]
    rw [wr_succ (by omega)]
    simpa [h0,hp] using nx
   ·rename_i hp
    refine ref9_Tree_Place.J1_step ?_
    simp only [b_add,bnd_some]
    rw [wr_succ (by omega)]
    simpa [h0,hp] using nx
 by_cases h0:e=0
 ·subst h0
  refine ref9_Tree_Place.L0_step ?_
  have:¬ ((1:Int)<((0:Nat):Int)):=by omega
  simp only [b_lss,this,decide_false,bnd_some,ifB_lit,Bool.false_eq_true,if_false]
  exact hK _
 ·exact L0 _ 1 _ rfl (by omega) (by omega)
theorem rBefore_ok (L:List Nd) (d:List Nat) (hN:L.length≤4096) {e:Nat} (he:e<L.length) (H:Hp):Good Tryz.prog σ n_ref9_Tree_Before [refT L d,I (e:Int)] H (I (before L e)) H:=by
 refine good_by (fun K hK=>ref9_Tree_Before.run (callK_of (ris_t L d he _) ?_)) (by simp [noIds,noId_refT,noId]) rfl H
 simp only [u_not,bnd_some,Bool.not_true,ifB_lit,Bool.false_eq_true,if_false,b_eql,decide_eq_true_eq]
 have L0:∀ (m:Nat) (H:Hp),m<e→(∀ H,K (I (lastI ((List.range (m+1)).filter fun j=>decide (0<j)&&decide (par L j=par L e)))) H)→ref9_Tree_Before.L0 σ K (refT L d) (I (e:Int)) (I (m:Int)) H:=by
  intro m
  induction m with
  | zero =>
   intro H hm hK
   refine ref9_Tree_Before.L0_step ?_
   simp only [b_gtr,Int.natCast_zero,Int.lt_irrefl,decide_false,bnd_some,ifB_lit,Bool.false_eq_true,if_false]
   exact hK _
  | succ m ih =>
   intro H hm hK
   have h0:(0:Int)<((m+1:Nat):Int):=by omega
   have hs:=sib_cons (fun j=>decide (0<j)&&decide (par L j=par L e)) (m+1)
   rw [hs] at hK
   refine ref9_Tree_Before.L0_step ?_
   simp only [b_gtr,h0,decide_true,bnd_some,ifB_lit,if_true,rnilp,rsh,rld,rix (show m+1<L.length by omega),rix he,rndsh,rpar,b_eql,decide_eq_true_eq]
   split
   ·rename_i hp
    have:=hK H
    simpa [hp,lastI] using this
   ·rename_i hp
    have e1:wr .i64 (((m+1:Nat):Int) - 1)=(m:Int):=by rw [wr64 (by omega) (by omega)]; omega
    simp only [b_sub,bnd_some,e1]
    exact ih H (by omega) fun H=>by simpa [hp] using hK H
 by_cases h0:e=0
 ·subst h0
  simp only [Int.natCast_zero,if_true]
  exact hK _
 ·have h0':¬ ((e:Int)=0):=by omega
  have e1:wr .i64 ((e:Int) - 1)=((e - 1:Nat):Int):=by rw [wr64 (by omega) (by omega)]; omega
  simp only [h0',if_false,b_sub,bnd_some,e1]
  refine L0 (e - 1) _ (by omega) fun H=>?_
  rw [show e - 1+1=e by omega]
  exact hK H
end Go.Proofs.YthdcghnjndhecaaGreat.Ev
namespace Go.Proofs.YthdcghnjndhecaaGreat.Ev
set_option linter.unusedVariables false
set_option linter.unusedSimpArgs false
variable {σ:Sig}
theorem kids_le (L:List Nd) (p a:Nat):∀ (n:Nat),(kids L a p).length≤(kids L (a+n) p).length
 | 0=>Nat.le_refl _
 | n+1=>by
  rw [← Nat.add_assoc,kids_succ]
  simp only [List.length_append]
  have:=kids_le L p a n
  omega
theorem kids_same {L:List Nd} {p a:Nat}:∀ (n:Nat),(∀ i,a≤i→i<a+n→par L i≠p)→kids L (a+n) p=kids L a p
 | 0,_=>rfl
 | n+1,h=>by
  rw [← Nat.add_assoc,kids_succ,kids_same n fun i h1 h2=>h i h1 (by omega),if_neg (fun hh=>h (a+n) (by omega) (by omega) hh.2)]
  simp
theorem kids_more {L:List Nd} {p a b i:Nat} (h0:0<i) (h1:a≤i) (h2:i<b) (hp:par L i=p):(kids L a p).length<(kids L b p).length:=by
 have e1:=kids_le L p a (i - a)
 have e2:=kids_le L p (i+1) (b - (i+1))
 rw [show a+(i - a)=i by omega] at e1
 rw [show i+1+(b - (i+1))=b by omega,kids_succ,if_pos ⟨h0,hp⟩] at e2
 simp only [List.length_append,List.length_cons,List.length_nil] at e2
 omega
theorem last_kids {L:List Nd} {d:List Nat} (hB:Built L L.length d) {e:Nat} (he:e<L.length) (h0:0<e):∃ p:Nat,par L e=p∧lastB L e=decide ((kids L L.length p).length≤(kids L (e+1) p).length):=by
 rcases par_bd hB he with h | ⟨p,hp,hlt⟩
 ·obtain ⟨p,x,h1,_⟩:=hB.step e h0 he
  omega
 ·refine ⟨p,hp,?_⟩
  have hk:kids L (e+1) p=sibs L e++[e]:=by rw [kids_succ,if_pos ⟨h0,hp⟩,kids_self hp]
  have hpl:(place L e).toNat=(kids L (e+1) p).length:=by
   rw [hk]
   unfold place
   simp only [List.length_append,List.length_cons,List.length_nil]
   omega
  unfold lastB
  rw [hp,Int.toNat_natCast,hpl]
  have hn:¬ ((p:Int)<0):=by omega
  simp only [hn,decide_false,Bool.false_or]
  unfold childI
  by_cases hle:(kids L L.length p).length≤(kids L (e+1) p).length
  ·rw [List.getElem?_eq_none hle]
   simp [hle]
  ·rw [List.getElem?_eq_getElem (by omega)]
   simp only [hle,decide_false]
   simp only [decide_eq_false_iff_not]
   omega
theorem lastB_zero {L:List Nd} {d:List Nat} (hB:Built L L.length d) (h:0<L.length):lastB L 0=true:=by
 unfold lastB
 rw [(hB.root h).1]
 rfl
theorem lastB_false {L:List Nd} {d:List Nat} (hB:Built L L.length d) {e i:Nat} (h0:0<e) (h1:e<i) (h2:i<L.length) (hp:par L i=par L e):lastB L e=false:=by
 obtain ⟨p,hpe,hl⟩:=last_kids hB (show e<L.length by omega) h0
 rw [hl]
 have:=kids_more (L:=L) (p:=p) (a:=e+1) (b:=L.length) (i:=i) (by omega) (by omega) h2 (by rw [hp,hpe])
 simp only [decide_eq_false_iff_not]
 omega
theorem lastB_true {L:List Nd} {d:List Nat} (hB:Built L L.length d) {e:Nat} (h0:0<e) (he:e<L.length) (h:∀ i,e<i→i<L.length→par L i≠par L e):lastB L e=true:=by
 obtain ⟨p,hpe,hl⟩:=last_kids hB he h0
 rw [hl]
 have:=kids_same (L:=L) (p:=p) (a:=e+1) (L.length - (e+1)) fun i h1 h2=>by rw [← hpe]; exact h i (by omega) (by omega)
 rw [show e+1+(L.length - (e+1))=L.length by omega] at this
 rw [this]
 simp
theorem rlast_ok (L:List Nd) (d:List Nat) (hB:Built L L.length d) (hN:L.length≤4096) {e:Nat} (he:e<L.length) (H:Hp):Good Tryz.prog σ n_ref9_Tree_last [refT L d,I (e:Int)] H (Bo (lastB L e)) H:=by
 refine good_by (fun K hK=>ref9_Tree_last.run ?_) (by simp [noIds,noId_refT,noId]) rfl H
 have L0:∀ (k m:Nat) (H:Hp),L.length - m=k→e<m→m≤L.length→(∀ i,e<i→i<m→par L i≠par L e)→ref9_Tree_last.L0 σ K (refT L d) (I (e:Int)) (I (m:Int)) H:=by
  intro k
  induction k with
  | zero =>
   intro m H hk h1 hm hall
   have:m=L.length:=by omega
   subst this
   refine ref9_Tree_last.L0_step ?_
   simp only [b_gtr,bnd_some,ifB_lit,decide_eq_true_eq,rnilp,rsh,rld,rlen,b_lss,Int.lt_irrefl,if_false]
   split
   ·rename_i h0
    have:=hK H
    rwa [lastB_true hB (by omega) he hall] at this
   ·rename_i h0
    have:e=0:=by omega
    subst this
    have:=hK H
    rwa [lastB_zero hB he] at this
  | succ k ih =>
   intro m H hk h1 hm hall
   have hlt:(m:Int)<L.length:=by omega
   refine ref9_Tree_last.L0_step ?_
   simp only [b_gtr,bnd_some,ifB_lit,decide_eq_true_eq,rnilp,rsh,rld,rlen,b_lss,hlt,if_true,rix (show m<L.length by omega),rix he,rndsh,rpar,b_eql]
   split
   ·rename_i h0
    split
    ·rename_i hp
     have:=hK H
     rwa [lastB_false hB (by omega) h1 (by omega) hp] at this
    ·rename_i hp
     simp only [b_add,bnd_some]
     rw [wr_succ (by omega)]
     refine ih (m+1) H (by omega) (by omega) (by omega) fun i hi1 hi2=>?_
     by_cases him:i<m
     ·exact hall i hi1 him
     ·have:i=m:=by omega
      rw [this]; exact hp
   ·rename_i h0
    have:e=0:=by omega
    subst this
    have:=hK H
    rwa [lastB_zero hB he] at this
 simp only [b_add,bnd_some]
 rw [wr_succ (by omega)]
 exact L0 _ (e+1) _ rfl (by omega) (by omega) fun i h1 h2=>by omega
theorem rChildren_ok (L:List Nd) (d:List Nat) (hB:Built L L.length d) (hN:L.length≤4096) {e:Nat} (he:e<L.length) (H:Hp):Good Tryz.prog σ n_ref9_Tree_Children [refT L d,I (e:Int)] H (ints (kids L L.length e)) H:=by
 obtain ⟨Q,hQ⟩:∃ Q:AV→Hp→Prop,∀ r H1,Q r H1 ↔ Gs 1 H1 r ((kids L L.length e).map encN):=⟨_,fun _ _=>Iff.rfl⟩
 have run:∃ r H1,Good Tryz.prog σ n_ref9_Tree_Children [refT L d,I (e:Int)] Hp.empty r H1∧Q r H1:=by
  refine ref9_Tree_Children.run ?_
  have L0:∀ (k m:Nat) (H:Hp) (y5:AV),L.length - m=k→e<m→m≤L.length→Gs 1 H y5 ((kids L m e).map encN)→ref9_Tree_Children.L0 σ Q (refT L d) (I (e:Int)) y5 (I (m:Int)) H:=by
   intro k
   induction k with
   | zero =>
    intro m H y5 hk h1 hm hg
    have:m=L.length:=by omega
    subst this
    refine ref9_Tree_Children.L0_step (callK_of (ris_t L d he _) ?_)
    simp only [bnd_some,ifB_lit,rnilp,rsh,rld,rlen,b_lss,Int.lt_irrefl,decide_false,Bool.false_eq_true,if_false,if_true]
    exact (hQ _ _).2 hg
   | succ k ih =>
    intro m H y5 hk h1 hm hg
    have hlt:(m:Int)<L.length:=by omega
    have hkl:(kids L m e).length≤m:=by
     have:=List.length_filter_le (fun j=>decide (0<j)&&decide (par L j=e)) (List.range m)
     rwa [List.length_range] at this
    have hs:=kids_succ L m e
    refine ref9_Tree_Children.L0_step (callK_of (ris_t L d he _) ?_)
    simp only [bnd_some,ifB_lit,rnilp,rsh,rld,rlen,b_lss,hlt,decide_true,if_true,rix (show m<L.length by omega),rndsh,rpar,b_eql,decide_eq_true_eq]
    split
    ·rename_i hp
     rw [if_pos ⟨by omega,hp⟩] at hs
     refine bnd_app1 (y:=I (m:Int)) hg rfl rfl rfl (by simp; omega) (by simp; omega) fun x' H' hg' _=>?_
     refine ref9_Tree_Children.J1_step ?_
     simp only [b_add,bnd_some]
     rw [wr_succ (by omega)]
     refine ih (m+1) H' x' (by omega) (by omega) (by omega) ?_
     rw [hs,List.map_append]
     exact hg'
    ·rename_i hp
     rw [if_neg (fun h=>hp h.2),List.append_nil] at hs
     refine ref9_Tree_Children.J1_step ?_
     simp only [b_add,bnd_some]
     rw [wr_succ (by omega)]
     refine ih (m+1) H y5 (by omega) (by omega) (by omega) ?_
     rw [hs]
     exact hg
  simp only [b_add,bnd_some]
  rw [wr_succ (by omega)]
  refine L0 _ (e+1) _ _ rfl (by omega) (by omega) ?_
  rw [kids_ge hB (by omega) (Nat.le_refl _)]
  exact .nil
 obtain ⟨r,H1,hg,hr⟩:=run
 rw [hQ] at hr
 exact hg.frzR (by simp [noIds,noId_refT,noId]) (hr.fz (noIds_map _ (fun _=>rfl) _)) H
end Go.Proofs.YthdcghnjndhecaaGreat.Ev
namespace Go.Proofs.YthdcghnjndhecaaGreat.Ev
set_option linter.unusedVariables false
set_option linter.unusedSimpArgs false
variable {σ:Sig}
theorem blank_ok (c:UInt8) (H:Hp):Good Tryz.prog σ n_ref9_blank [.lit (.int .u8 c.toNat)] H (Bo (wht c)) H:=by
  refine good_by (fun K hK=>ref9_blank.run ?_) (by simp [noIds,noId]) rfl H
  have hK:=hK Hp.empty
  simp only [b_eql,bnd_some,ifB_lit,decide_eq_true_eq]
  split
  · rename_i h
    rwa [show wht c = true by have : c.toNat = 9 := by omega
                              simp [wht,this]] at hK
  rename_i h9
  split
  · rename_i h
    rwa [show wht c = true by have : c.toNat = 10 := by omega
                              simp [wht,this]] at hK
  rename_i h10
  split
  · rename_i h
    rwa [show wht c = true by have : c.toNat = 12 := by omega
                              simp [wht,this]] at hK
  rename_i h12
  split
  · rename_i h
    rwa [show wht c = true by have : c.toNat = 13 := by omega
                              simp [wht,this]] at hK
  rename_i h13
  have e:wht c=decide ((c.toNat:Int)=32):=by
    have a9:¬ c.toNat=9:=by omega
    have a10:¬ c.toNat=10:=by omega
    have a12:¬ c.toNat=12:=by omega
    have a13:¬ c.toNat=13:=by omega
    by_cases h:c.toNat=32
    · simp [wht,h]
    · have h':¬ ((c.toNat:Int)=32):=by omega
      simp [wht,a9,a10,a12,a13,h,h']
  rwa [e] at hK
theorem begins_ok (s p:ByteArray) (H:Hp):Good Tryz.prog σ n_ref9_begins [Sx s,Sx p] H (Bo (preB (tl s) (tl p))) H:=by
 refine good_by (fun K hK=>ref9_begins.run ?_) (by simp [noIds,noId]) rfl H
 simp only [len_str,bnd_some,b_geq,ifB_lit,decide_eq_true_eq]
 split
 ·rename_i h
  rw [sl_str0 (by omega),bnd_some]
  simp only [b_seql,bnd_some]
  have:=pre_take (tl s) (tl p) (by rw [tl_len,tl_len]; omega)
  rw [tl_len,mk_tl] at this
  rw [this]
  exact hK _
 ·rename_i h
  have:=pre_long (s:=tl s) (p:=tl p) (by rw [tl_len,tl_len]; omega)
  rw [this] at hK
  exact hK _
theorem ends_ok (s p:ByteArray) (hs:s.data.size<9000000000000000000) (H:Hp):Good Tryz.prog σ n_ref9_ends [Sx s,Sx p] H (Bo (sufB (tl s) (tl p))) H:=by
 refine good_by (fun K hK=>ref9_ends.run ?_) (by simp [noIds,noId]) rfl H
 simp only [len_str,bnd_some,b_geq,ifB_lit,decide_eq_true_eq]
 split
 ·rename_i h
  simp only [b_sub,bnd_some]
  have e:wr .i64 ((s.data.size:Int) - p.data.size)=((s.data.size - p.data.size:Nat):Int):=by rw [wr64 (by omega) (by omega)]; omega
  rw [e,sl_strE (by omega),bnd_some]
  simp only [b_seql,bnd_some]
  have:=suf_drop (tl s) (tl p) (by rw [tl_len,tl_len]; omega)
  rw [tl_len,tl_len,mk_tl] at this
  rw [this]
  exact hK _
 ·rename_i h
  have:=suf_long (s:=tl s) (p:=tl p) (by rw [tl_len,tl_len]; omega)
  rw [this] at hK
  exact hK _
theorem rhas_L0 {l:List ByteArray} (hl:l.length≤reachBytes) {s:ByteArray} {K:AV→Hp→Prop}:∀ (m k:Nat) (H:Hp),l.length - m=k→m≤l.length→(∀ H,K (Bo (hasB (l.drop m) s)) H)→ref9_has.L0 σ K (strs l) (Sx s) (I m) H:=by
 intro m k
 revert m
 induction k with
 | zero =>
  intro m H hk hm hK
  have:m=l.length:=by omega
  subst this
  refine ref9_has.L0_step ?_
  simp [strs]
  simpa [hasB] using hK H
 | succ k ih =>
  intro m H hk hm hK
  have hlt:m<l.length:=by omega
  obtain ⟨x,hx⟩:=get_lt hlt
  rw [drop_get hx] at hK
  refine ref9_has.L0_step ?_
  simp [strs,hlt,ix_map hx]
  split
  ·rename_i h
   have:=hK H
   simpa [hasB,h] using this
  ·rename_i h
   rw [wr_succL hlt hl (by decide)]
   refine ih (m+1) H (by omega) (by omega) fun H'=>?_
   have:=hK H'
   simpa [hasB,h] using this
theorem rhas_ok (l:List ByteArray) (hl:l.length≤reachBytes) (s:ByteArray) (H:Hp):Good Tryz.prog σ n_ref9_has [strs l,Sx s] H (Bo (hasB l s)) H:=by
 refine good_by (fun K hK=>ref9_has.run ?_) (by simp [noIds,noId]) rfl H
 exact rhas_L0 hl 0 _ _ rfl (Nat.zero_le _) (by simpa using hK)
theorem far_ok {p a b:Int} (hp:i64 p) (ha:i64 a) (hb:i64 b) (h0:a≠0) (H:Hp):Good Tryz.prog σ n_ref9_far [I p,I a,I b] H (Bo (nthB p a b)) H:=by
 refine good_by (fun K hK=>ref9_far.run ?_) (by simp [noIds,noId]) rfl H
 unfold i64 at hp ha hb
 unfold nthB at hK
 rw [if_neg h0] at hK
 simp
 split
 ·rename_i h
  subst h
  split at hK
  ·simpa using hK _
  ·simpa using hK _
 rename_i hne
 by_cases hb':b<p<;>by_cases h3:0<a
 ·simp only [hb',h3,decide_true,not_true,if_true,if_false]
  have h2:¬ (a<0):=by omega
  rw [if_pos h3] at hK
  have e1:wr .u64 a=a:=wrU_in (by omega) (by omega)
  have e2:(p - b) % 18446744073709551616=p - b:=by omega
  rw [if_neg h2]
  rw [subU,e1,e2]
  refine ref9_far.J0_step ?_
  rw [b_rem _ _ _ h0,bnd_some,b_eql,bnd_some]
  have e3:(p - b).tmod a=(p - b) % a:=Int.tmod_eq_emod_of_nonneg (by omega)
  rw [e3]
  have h5:b≤p:=by omega
  simpa [h5] using hK Hp.empty
 ·have hbp:¬ (p≤b):=by omega
  rw [if_neg h3] at hK
  simp [hb',h3]
  simpa [hbp] using hK Hp.empty
 ·have hbp:¬ (b≤p):=by omega
  rw [if_pos h3] at hK
  simp [hb',h3]
  simpa [hbp] using hK Hp.empty
 ·simp only [hb',h3,decide_false,not_true,if_true,if_false]
  have h2:a<0:=by omega
  rw [if_neg h3] at hK
  have e1:wr .u64 (-wr .u64 a)=-a:=by rw [wrU,wrU]; omega
  have e2:(b - p) % 18446744073709551616=b - p:=by omega
  have h3':(-a)≠0:=by omega
  rw [if_pos h2]
  rw [subU,e2,e1]
  refine ref9_far.J0_step ?_
  rw [b_rem _ _ _ h3',bnd_some,b_eql,bnd_some]
  have e3:(b - p).tmod (-a)=(b - p) % (-a):=Int.tmod_eq_emod_of_nonneg (by omega)
  rw [e3]
  have h5:p≤b:=by omega
  simpa [h5] using hK Hp.empty
theorem nthQ {p a b:Int} (h0:a≠0):nthB p a b=(decide ((p - b).tmod a=0)&&decide (0≤(p - b).tdiv a)):=by
 unfold nthB
 rw [if_neg h0]
 by_cases hdv:a ∣ p - b
 ·obtain ⟨q,hq⟩:=hdv
  have e1:(p - b).tmod a=0:=Int.tmod_eq_zero_of_dvd ⟨q,hq⟩
  have e2:(p - b).tdiv a=q:=by rw [hq]; exact Int.mul_tdiv_cancel_left q h0
  have e3:(p - b) % a=0:=Int.emod_eq_zero_of_dvd ⟨q,hq⟩
  have e4:(b - p) % (-a)=0:=Int.emod_eq_zero_of_dvd ⟨q,by rw [Int.neg_mul,← hq]; omega⟩
  rw [e1,e2,e3,e4]
  simp only [decide_true,Bool.and_true,Bool.true_and]
  split
  ·rename_i h
   by_cases h2:0≤q
   ·have:=Int.mul_nonneg (by omega:0≤a) h2
    simp [h2]; omega
   ·have:=Int.mul_neg_of_pos_of_neg h (by omega:q<0)
    simp [h2]; omega
  ·rename_i h
   by_cases h2:0≤q
   ·have:=Int.mul_nonneg (by omega:0≤-a) h2
    rw [Int.neg_mul] at this
    simp [h2]; omega
   ·have:=Int.mul_neg_of_pos_of_neg (by omega:0 < -a) (by omega:q<0)
    rw [Int.neg_mul] at this
    simp [h2]; omega
 ·have e1:¬ ((p - b).tmod a=0):=fun h=>hdv (Int.dvd_of_tmod_eq_zero h)
  have e3:¬ ((p - b) % a=0):=fun h=>hdv (Int.dvd_of_emod_eq_zero h)
  have e4:¬ ((b - p) % (-a)=0):=fun h=>hdv (by
   obtain ⟨q,hq⟩:=Int.dvd_of_emod_eq_zero h
   exact ⟨q,by rw [Int.neg_mul] at hq; omega⟩)
  have e5:¬ ((b - p) % a=0):=fun h=>e4 (by rw [Int.emod_neg]; exact h)
  simp [e1,e3,e5]
theorem rnth_ok {p a b:Int} (hp:0≤p∧p≤5000) (ha:i64 a) (hb:i64 b) (H:Hp):Good Tryz.prog σ n_ref9_nth [I p,I a,I b] H (Bo (nthB p a b)) H:=by
 refine good_by (fun K hK=>ref9_nth.run ?_) (by simp [noIds,noId]) rfl H
 have hp64:i64 p:=⟨by omega,by omega⟩
 simp only [b_eql,bnd_some,ifB_lit,decide_eq_true_eq,b_gtr,b_lss]
 split
 ·rename_i h
  have:=hK Hp.empty
  rwa [show nthB p a b=decide (p=b) by unfold nthB; rw [if_pos h]] at this
 rename_i h0
 split
 ·exact callK_of (far_ok hp64 ha hb h0 _) (hK _)
 rename_i h1
 split
 ·exact callK_of (far_ok hp64 ha hb h0 _) (hK _)
 rename_i h2
 split
 ·exact callK_of (far_ok hp64 ha hb h0 _) (hK _)
 rename_i h3
 split
 ·exact callK_of (far_ok hp64 ha hb h0 _) (hK _)
 rename_i h4
 have e1:wr .i64 (p - b)=p - b:=by rw [wr64 (by omega) (by omega)]
 have hq:wr .i64 ((p - b).tdiv a)=(p - b).tdiv a:=by
  have hn:((p - b).tdiv a).natAbs≤(p - b).natAbs:=by
   rw [Int.natAbs_tdiv]
   exact Nat.div_le_self _ _
  rw [wr64 (by omega) (by omega)]
 simp only [b_sub,bnd_some,e1]
 rw [b_rem _ _ _ h0,bnd_some,b_eql,bnd_some]
 have hK:=hK Hp.empty
 rw [nthQ h0] at hK
 simp only [ifB_lit,decide_eq_true_eq]
 split
 ·rename_i h5
  rw [b_quo _ _ _ h0,bnd_some,hq]
  simpa [h5] using hK
 ·rename_i h5
  simpa [h5] using hK
end Go.Proofs.YthdcghnjndhecaaGreat.Ev
namespace Go.Proofs.YthdcghnjndhecaaGreat.Ev
set_option linter.unusedVariables false
set_option linter.unusedSimpArgs false
variable {σ:Sig}
theorem in_ok (s x:ByteArray) (hs:s.data.size<4294967281) (hx:x.data.size≤reachBytes) (h0:tl x≠[]) (H:Hp):Good Tryz.prog σ n_ref9_in [Sx s,Sx x] H (Bo (decide (0≤Go.Lib.index (tl s) (tl x)))) H:=by
 refine good_by (fun K hK=>ref9_in.run ?_) (by simp [noIds,noId]) rfl H
 have hr:=reach_eq
 have L0:∀ (k m:Nat) (H:Hp),s.data.size+1 - m=k→m≤s.data.size+1→(∀ j,j<m→Go.Lib.occAt (tl s) (tl x) j=false)→ref9_in.L0 σ K (Sx s) (Sx x) (I (m:Int)) H:=by
  intro k
  induction k with
  | zero =>
   intro m H hk hm hall
   have e1:wr .i64 ((m:Int)+(x.data.size:Int))=(m:Int)+x.data.size:=by rw [wr64 (by omega) (by omega)]
   refine ref9_in.L0_step ?_
   have hn:¬ ((m:Int)+x.data.size≤s.data.size):=by omega
   simp only [len_str,bnd_some,b_add,e1,b_leq,hn,decide_false,ifB_lit,Bool.false_eq_true,if_false]
   have:=Go.Lib.index_none (s:=tl s) (sub:=tl x) fun j hj=>hall j (by rw [tl_len] at hj; omega)
   rw [this] at hK
   exact hK _
  | succ k ih =>
   intro m H hk hm hall
   have e1:wr .i64 ((m:Int)+(x.data.size:Int))=((m+x.data.size:Nat):Int):=by rw [wr64 (by omega) (by omega)]; omega
   refine ref9_in.L0_step ?_
   by_cases hle:m+x.data.size≤s.data.size
   ·have hle':((m+x.data.size:Nat):Int)≤(s.data.size:Int):=by omega
    simp only [len_str,bnd_some,b_add,e1,b_leq,hle',decide_true,ifB_lit,if_true]
    rw [sl_str (by omega) hle,bnd_some]
    simp only [b_seql,bnd_some,ifB_lit,decide_eq_true_eq]
    have ho:=Go.Lib.occAt_iff_take (tl s) (tl x) m (by rw [tl_len,tl_len]; exact hle)
    rw [show m+x.data.size - m=x.data.size by omega]
    rw [tl_len] at ho
    split
    ·rename_i h
     have h2:((tl s).drop m).take x.data.size=tl x:=by
      have:=congrArg tl h
      rwa [tl_mk] at this
     rw [h2] at ho
     have:=Go.Lib.index_first (s:=tl s) (sub:=tl x) (i:=m) (by rw [tl_len]; omega) (by rw [ho]; simp) hall
     rw [this] at hK
     simpa using hK H
    ·rename_i h
     have h2:¬ ((tl s).drop m).take x.data.size=tl x:=fun e=>h (by rw [e,mk_tl])
     rw [wr_succ (by omega)]
     refine ih (m+1) H (by omega) (by omega) fun j hj=>?_
     by_cases hjm:j<m
     ·exact hall j hjm
     ·have:j=m:=by omega
      subst this
      rw [ho]
      simpa using h2
   ·have hle':¬ ((m+x.data.size:Nat):Int)≤(s.data.size:Int):=by omega
    simp only [len_str,bnd_some,b_add,e1,b_leq,hle',decide_false,ifB_lit,Bool.false_eq_true,if_false]
    have:=Go.Lib.index_none (s:=tl s) (sub:=tl x) fun j hj=>by
     by_cases hjm:j<m
     ·exact hall j hjm
     ·cases ho:Go.Lib.occAt (tl s) (tl x) j with
      | false=>rfl
      | true =>
       rcases Go.Lib.occAt_room ho with h | h
       ·rw [tl_len,tl_len] at h; omega
       ·exact absurd h h0
    rw [this] at hK
    exact hK _
 exact L0 _ 0 _ rfl (Nat.zero_le _) fun j hj=>by omega
theorem wl_all:∀ {l:List UInt8} {n:Nat},(∀ k,k<n→∃ c,l[k]?=some c∧wht c=false)→(∀ c,l[n]?=some c→wht c=true)→wl l=n
 | [],n,h,_=>by
  cases n with
  | zero=>rfl
  | succ n =>
   obtain ⟨c,hc,_⟩:=h 0 (by omega)
   simp at hc
 | c::l,0,_,h=>by
  have:=h c (by simp)
  simp [wl,List.takeWhile,nw,this]
 | c::l,n+1,h,h2=>by
  obtain ⟨c',hc,hw⟩:=h 0 (by omega)
  simp at hc
  subst hc
  have ih:=wl_all (l:=l) (n:=n) (fun k hk=>by
   obtain ⟨c',h1,h2⟩:=h (k+1) (by omega)
   exact ⟨c',by simpa using h1,h2⟩) fun c' hc'=>h2 c' (by simpa using hc')
  unfold wl at ih ⊢
  rw [List.takeWhile_cons]
  simp [nw,hw] at ih ⊢
  exact ih
def encW (w:List UInt8):List AV:=[Sx (mk w)]
theorem rwords_ok (s:ByteArray) (hs:s.data.size<4294967281) (H:Hp):Good Tryz.prog σ n_ref9_words [Sx s] H (.imm 1 ((wordsB (tl s)).map encW)) H:=by
 obtain ⟨Q,hQ⟩:∃ Q:AV→Hp→Prop,∀ r H1,Q r H1 ↔ Gs 1 H1 r ((wordsB (tl s)).map encW):=⟨_,fun _ _=>Iff.rfl⟩
 have run:∃ r H1,Good Tryz.prog σ n_ref9_words [Sx s] Hp.empty r H1∧Q r H1:=by
  refine ref9_words.run ?_
  have L0:∀ (k i fr:Nat) (H:Hp) (y3:AV) (out:List (List UInt8)),s.data.size+1 - i=k→i≤s.data.size+1→fr≤i→Gs 1 H y3 (out.map encW)→out.length≤fr→wordsB (tl s)=out++wordsB ((tl s).drop fr)→(∀ j,fr≤j→j<i→∃ c,(tl s)[j]?=some c∧wht c=false)→ref9_words.L0 σ Q (Sx s) y3 (I (fr:Int)) (I (i:Int)) H:=by
   intro k
   induction k with
   | zero =>
    intro i fr H y3 out hk hi hfr hg ho hw hall
    have:i=s.data.size+1:=by omega
    subst this
    refine ref9_words.L0_step ?_
    have hn:¬ (((s.data.size+1:Nat):Int)≤(s.data.size:Int)):=by omega
    simp only [len_str,bnd_some,b_leq,hn,decide_false,ifB_lit,Bool.false_eq_true,if_false]
    by_cases hf:fr≤s.data.size
    ·obtain ⟨c,hc,_⟩:=hall s.data.size hf (by omega)
     have:=(List.getElem?_eq_some_iff.1 hc).1
     rw [tl_len] at this
     omega
    ·rw [List.drop_eq_nil_of_le (by rw [tl_len]; omega),wordsB_nil,List.append_nil] at hw
     rw [hQ,hw]
     exact hg
   | succ k ih =>
    intro i fr H y3 out hk hi hfr hg ho hw hall
    have hle:(i:Int)≤(s.data.size:Int):=by omega
    have fin:∀ (H:Hp),Gs 1 H y3 (out.map encW)→(∀ c,(tl s)[i]?=some c→wht c=true)→ifB (Bo (decide ((fr:Int)<(i:Int)))) (bnd (slStr (Sx s) (some (I (fr:Int))) (some (I (i:Int)))) fun x6=>bnd (bldSlR [.string ⟨#[]⟩] 1 1 H [(0,1,x6)]) fun p7=>bnd (appR false 1 16 p7.2 y3 p7.1) fun p8=>ref9_words.J1 σ Q (Sx s) p8.1 (I (fr:Int)) (I (i:Int)) p8.2) (ref9_words.J1 σ Q (Sx s) y3 (I (fr:Int)) (I (i:Int)) H):=by
     intro H hg hend
     have hwl:wl ((tl s).drop fr)=i - fr:=wl_all (fun k hk=>by
      rw [List.getElem?_drop]
      exact hall (fr+k) (by omega) (by omega)) fun c hc=>hend c (by
       rw [List.getElem?_drop] at hc
       rwa [show fr+(i - fr)=i by omega] at hc)
     simp only [ifB_lit,decide_eq_true_eq]
     split
     ·rename_i hlt
      have hlt':fr<i:=by omega
      have hne:(tl s).drop fr≠[]:=by
       intro e
       have:=congrArg List.length e
       rw [List.length_drop,tl_len,List.length_nil] at this
       omega
      have hwe:=wordsB_eq hne
      rw [hwl,if_neg (by omega),List.drop_drop,show fr+(i - fr+1)=i+1 by omega] at hwe
      rw [sl_str (by omega) (by omega),bnd_some]
      refine bnd_app1 (y:=Sx (mk (((tl s).drop fr).take (i - fr)))) hg rfl rfl rfl (by simp; omega) (by simp; omega) fun y3' H' hg' _=>?_
      refine ref9_words.J1_step ?_
      simp only [b_add,bnd_some]
      rw [wr_succ (by omega)]
      refine ref9_words.J2_step ?_
      simp only [b_add,bnd_some]
      rw [wr_succ (by omega)]
      refine ih (i+1) (i+1) H' y3' (out++[((tl s).drop fr).take (i - fr)]) (by omega) (by omega) (Nat.le_refl _) (by rw [List.map_append]; exact hg') (by simp; omega) ?_ fun j h1 h2=>by omega
      rw [hw,hwe]
      simp
     ·rename_i hlt
      have hfi:fr=i:=by omega
      subst hfi
      refine ref9_words.J1_step ?_
      simp only [b_add,bnd_some]
      rw [wr_succ (by omega)]
      refine ref9_words.J2_step ?_
      simp only [b_add,bnd_some]
      rw [wr_succ (by omega)]
      refine ih (fr+1) (fr+1) H y3 out (by omega) (by omega) (Nat.le_refl _) hg (by omega) ?_ fun j h1 h2=>by omega
      rw [hw]
      congr 1
      by_cases hne:(tl s).drop fr=[]
      ·have:(tl s).drop (fr+1)=[]:=by rw [← List.drop_drop,hne]; rfl
       rw [hne,this]
      ·rw [wordsB_eq hne,hwl,if_pos (by omega),List.drop_drop]
    refine ref9_words.L0_step ?_
    simp only [len_str,bnd_some,b_leq,hle,decide_true,ifB_lit,if_true,b_eql,decide_eq_true_eq,b_gtr]
    split
    ·rename_i he
     have he':i=s.data.size:=by omega
     have:=fin H hg fun c hc=>by
      have:=(List.getElem?_eq_some_iff.1 hc).1
      rw [tl_len] at this
      omega
     simpa only [ifB_lit,decide_eq_true_eq] using this
    ·rename_i he
     have hlt:i<(tl s).length:=by rw [tl_len]; omega
     obtain ⟨c,hc⟩:=get_lt hlt
     rw [ix_str hc,bnd_some]
     refine callK_of (blank_ok c _) ?_
     simp only [ifB_lit]
     cases hwc:wht c with
     | true =>
      have:=fin H hg fun c' hc'=>by rw [hc] at hc'; cases hc'; exact hwc
      simpa only [ifB_lit,decide_eq_true_eq,if_true] using this
     | false =>
      simp only [Bool.false_eq_true,if_false]
      refine ref9_words.J2_step ?_
      simp only [b_add,bnd_some]
      rw [wr_succ (by omega)]
      refine ih (i+1) fr H y3 out (by omega) (by omega) (by omega) hg ho hw fun j h1 h2=>?_
      by_cases hj:j<i
      ·exact hall j h1 hj
      ·have:j=i:=by omega
       subst this
       exact ⟨c,hc,hwc⟩
  exact L0 _ 0 0 _ _ [] rfl (Nat.zero_le _) (Nat.le_refl _) .nil (Nat.le_refl _) (by simp) fun j h1 h2=>by omega
 obtain ⟨r,H1,hg,hr⟩:=run
 rw [hQ] at hr
 exact hg.frzR (by simp [noIds,noId]) (hr.fz (noIds_map _ (fun _=>rfl) _)) H
end Go.Proofs.YthdcghnjndhecaaGreat.Ev
namespace Go.Proofs.YthdcghnjndhecaaGreat.Ev
set_option linter.unusedVariables false
set_option linter.unusedSimpArgs false
variable {σ:Sig}
theorem words_mem:∀ (n:Nat) (l:List UInt8),l.length≤n→(wordsB l).length≤l.length∧∀ w ∈ wordsB l,w≠[]∧∀ c ∈ w,wht c=false
 | 0,l,h=>by
  have:l=[]:=List.length_eq_zero_iff.1 (by omega)
  subst this
  rw [wordsB_nil]
  exact ⟨Nat.le_refl _,fun w hw=>by cases hw⟩
 | n+1,l,h=>by
  by_cases hl:l=[]
  ·subst hl
   rw [wordsB_nil]
   exact ⟨Nat.le_refl _,fun w hw=>by cases hw⟩
  ·have hpos:=List.length_pos_iff.2 hl
   rw [wordsB_eq hl]
   split
   ·obtain ⟨h1,h2⟩:=words_mem n (l.drop 1) (by rw [List.length_drop]; omega)
    rw [List.length_drop] at h1
    exact ⟨by omega,h2⟩
   ·rename_i hw
    obtain ⟨h1,h2⟩:=words_mem n (l.drop (wl l+1)) (by rw [List.length_drop]; omega)
    rw [List.length_drop] at h1
    refine ⟨by rw [List.length_cons]; omega,fun w hm=>?_⟩
    rcases List.mem_cons.1 hm with rfl | hm
    ·refine ⟨fun e=>?_,fun c hc=>?_⟩
     ·have:=congrArg List.length e
      rw [List.length_take,List.length_nil] at this
      have:=wl_le l
      omega
     ·obtain ⟨i,hi⟩:=List.getElem?_of_mem hc
      rw [List.getElem?_take] at hi
      split at hi
      ·rename_i hlt
       obtain ⟨c',h3,h4⟩:=wl_lt hlt
       rw [h3] at hi
       cases hi
       exact h4
      ·cases hi
    ·exact h2 w hm
theorem words_one {w:List UInt8} (h0:w≠[]) (h:∀ c ∈ w,wht c=false):wordsB w=[w]:=by
 have hpos:=List.length_pos_iff.2 h0
 have hwl:wl w=w.length:=wl_all (fun k hk=>⟨w[k],List.getElem?_eq_getElem hk,h _ (List.getElem_mem hk)⟩) fun c hc=>by
  have:=(List.getElem?_eq_some_iff.1 hc).1
  omega
 rw [wordsB_eq h0,hwl,if_neg (by omega),List.take_length,List.drop_eq_nil_of_le (by omega),wordsB_nil]
theorem words_q (s t:ByteArray):(match wordsB (tl t) with | [w]=>decide (mk w=t)&&hasB ((wordsB (tl s)).map mk) t | _=>false)=(!decide (t=emp)&&wordB s t):=by
 have hin:hasB ((wordsB (tl s)).map mk) t=wordB s t:=by
  unfold hasB wordB
  rw [Bool.eq_iff_iff,List.any_eq_true,decide_eq_true_eq]
  constructor
  ·rintro ⟨x,hx,hd⟩
   obtain ⟨w,hw,rfl⟩:=List.mem_map.1 hx
   rw [decide_eq_true_eq] at hd
   rw [← hd,tl_mk]
   exact hw
  ·exact fun h=>⟨t,List.mem_map.2 ⟨tl t,h,mk_tl t⟩,by simp⟩
 rw [hin]
 by_cases hw:tl t ∈ wordsB (tl s)
 ·obtain ⟨h1,h2⟩:=(words_mem _ (tl s) (Nat.le_refl _)).2 _ hw
  rw [words_one h1 h2]
  have:t≠emp:=fun e=>h1 (by rw [e]; rfl)
  simp [mk_tl,this]
 ·have:wordB s t=false:=by unfold wordB; simpa using hw
  rw [this]
  split<;>simp
theorem strs_words (l:List (List UInt8)):(.imm 1 (l.map encW):AV)=strs (l.map mk):=by unfold strs; rw [List.map_map]; rfl
theorem rattr_L0 {n:Nd} (hl:n.attrs.length≤reachBytes) (ht:∀ p ∈ n.attrs,p.2.data.size<4294967281) {a:At} (ha:a.text.data.size<4294967281) {K:AV→Hp→Prop} {b2 b3:Nat}:∀ (k m:Nat) (H:Hp),n.attrs.length - m=k→m≤n.attrs.length→H.get b2=some (.cells (encNd n) true)→H.get b3=some (.cells (encAt a) true)→(∀ H,K (Bo (attrB (n.attrs.drop m) a)) H)→ref9_attr.L0 σ K (.ptr b2 0) (.ptr b3 0) (I (m:Int)) H:=by
 have hre:=reach_eq
 intro k
 induction k with
 | zero =>
  intro m H hk hm h2 h3 hK
  have:m=n.attrs.length:=by omega
  subst this
  have c2:ldA false 1 H (.ptr b2 4)=some (.imm 2 (n.attrs.map encPr)):=by simp [h2,encNd]
  refine ref9_attr.L0_step ?_
  simp only [sh_ptr,Nat.zero_add,bnd_some,c2,len_imm,List.length_map,b_lss,Int.lt_irrefl,decide_false,ifB_lit,Bool.false_eq_true,if_false]
  simpa [attrB] using hK H
 | succ k ih =>
  intro m H hk hm h2 h3 hK
  have hlt:m<n.attrs.length:=by omega
  obtain ⟨x,hx⟩:=get_lt hlt
  have hxl:=ht x (List.mem_of_getElem? hx)
  rw [drop_get hx] at hK
  have h1:(m:Int)<n.attrs.length:=by omega
  have c2:ldA false 1 H (.ptr b2 4)=some (.imm 2 (n.attrs.map encPr)):=by simp [h2,encNd]
  have d0:ldA false 1 H (.ptr b3 0)=some (Sx a.name):=by simp [h3]
  have d1:ldA false 1 H (.ptr b3 1)=some (I a.op):=by simp [h3]
  have d2:ldA false 1 H (.ptr b3 2)=some (Sx a.text):=by simp [h3,encAt]
  have s0:shiftA (.ip (encPr x)) 0=some (.ip (encPr x)):=rfl
  have s1:shiftA (.ip (encPr x)) 1=some (.ip [Sx x.2]):=rfl
  have l0:ldA false 1 H (.ip (encPr x))=some (Sx x.1):=rfl
  have l1:ldA false 1 H (.ip [Sx x.2])=some (Sx x.2):=rfl
  refine ref9_attr.L0_step ?_
  simp only [sh_ptr,Nat.zero_add,bnd_some,c2,len_imm,List.length_map,b_lss,h1,decide_true,ifB_lit,if_true,ix_map hx,s0,s1,l0,l1,d0,d1,d2,b_sneq,b_eql,b_seql,decide_eq_true_eq]
  by_cases hn:x.1=a.name
  ·have hat:attrB (x::n.attrs.drop (m+1)) a=soB x.2 a:=by simp [attrB,hn]
   rw [hat] at hK
   simp only [hn,decide_true,Bool.not_true,Bool.false_eq_true,if_false]
   unfold soB at hK
   split
   ·rename_i h; simp only [h,if_true] at hK; exact hK _
   rename_i h0
   simp only [h0,if_false] at hK
   split
   ·rename_i h; simp only [h,if_true] at hK; exact hK _
   rename_i h1
   simp only [h1,if_false] at hK
   split
   ·rename_i h
    simp only [h,if_true] at hK
    rw [← words_q] at hK
    refine callK_of (rwords_ok a.text ha _) ?_
    rw [len_imm,bnd_some,b_eql,bnd_some,List.length_map]
    simp only [ifB_lit,decide_eq_true_eq]
    split
    ·rename_i hl1
     obtain ⟨w,hw⟩:∃ w,wordsB (tl a.text)=[w]:=List.length_eq_one_iff.1 (by omega)
     rw [hw] at hK
     have hix:ixaSl 1 (.imm 1 ((wordsB (tl a.text)).map encW)) (I 0)=some (.ip (encW w)):=by
      have:(wordsB (tl a.text))[(0:Nat)]?=some w:=by rw [hw]; rfl
      exact ix_map this
     have hlw:ldA false 1 H (.ip (encW w))=some (Sx (mk w)):=rfl
     rw [hix,bnd_some,hlw,bnd_some,d2,bnd_some,b_seql,bnd_some]
     simp only [ifB_lit,decide_eq_true_eq]
     split
     ·rename_i hq
      refine callK_of (rwords_ok x.2 hxl _) ⟨rfl,?_⟩
      rw [d2,bnd_some,strs_words]
      have hlen:=(words_mem _ (tl x.2) (Nat.le_refl _)).1
      rw [tl_len] at hlen
      refine callK_of (rhas_ok _ (by rw [List.length_map]; omega) _ _) ?_
      simpa [hq] using hK H
     ·rename_i hq
      simpa [hq] using hK H
    ·rename_i hl1
     have:∀ b:List UInt8→Bool,(match wordsB (tl a.text) with | [w]=>b w | _=>false)=false:=fun b=>by
      split
      ·rename_i w hw; rw [hw] at hl1; simp at hl1
      ·rfl
     rw [this] at hK
     exact hK _
   rename_i h2'
   simp only [h2',if_false] at hK
   split
   ·rename_i h
    simp only [h,if_true] at hK
    split
    ·rename_i he
     simp [he] at hK
     exact hK _
    ·rename_i he
     simp [he] at hK
     rw [b_sadd (by show a.text.data.size+1≤_; omega),bnd_some]
     refine callK_of (begins_ok _ _ _) ?_
     rw [tl_mk]
     exact hK _
   rename_i h3'
   simp only [h3',if_false] at hK
   split
   ·rename_i h
    simp only [h,if_true] at hK
    by_cases he:a.text=emp
    ·have he':a.text=⟨#[]⟩:=he
     simp [he'] at hK ⊢
     simpa [emp] using hK H
    ·have he':¬ (a.text=⟨#[]⟩):=he
     simp [he'] at hK ⊢
     refine callK_of (begins_ok _ _ _) ?_
     simpa [he] using hK H
   rename_i h4'
   simp only [h4',if_false] at hK
   split
   ·rename_i h
    simp only [h,if_true] at hK
    by_cases he:a.text=emp
    ·have he':a.text=⟨#[]⟩:=he
     simp [he'] at hK ⊢
     simpa [emp] using hK H
    ·have he':¬ (a.text=⟨#[]⟩):=he
     simp [he'] at hK ⊢
     refine callK_of (ends_ok _ _ (by omega) _) ?_
     simpa [he] using hK H
   rename_i h5'
   simp only [h5',if_false] at hK
   split
   ·rename_i h
    simp only [h,if_true] at hK
    by_cases he:a.text=emp
    ·have he':a.text=⟨#[]⟩:=he
     simp [he'] at hK ⊢
     simpa [emp] using hK H
    ·have he':¬ (a.text=⟨#[]⟩):=he
     simp [he'] at hK ⊢
     refine callK_of (in_ok _ _ hxl (by omega) (fun e=>he (tl_inj e)) _) ?_
     simpa [he] using hK H
   ·rename_i h
    simp only [h,if_false] at hK
    exact hK _
  ·have hat:attrB (x::n.attrs.drop (m+1)) a=attrB (n.attrs.drop (m+1)) a:=by simp [attrB,hn]
   rw [hat] at hK
   simp only [hn,decide_false,Bool.not_false,if_true,b_add,bnd_some]
   rw [wr_succL hlt hl (by decide)]
   exact ih (m+1) H (by omega) (by omega) h2 h3 hK
theorem rattr_ok (n:Nd) (hl:n.attrs.length≤reachBytes) (ht:∀ p ∈ n.attrs,p.2.data.size<4294967281) (a:At) (ha:a.text.data.size<4294967281) (H:Hp):Good Tryz.prog σ n_ref9_attr [.agg (encNd n),.agg (encAt a)] H (Bo (attrB n.attrs a)) H:=by
 refine good_by (fun K hK=>ref9_attr.run ?_) (by simp [noIds,noId,noId_At,noId_Nd]) rfl H
 simp only [boxK_agg]
 exact rattr_L0 hl ht ha _ 0 _ rfl (Nat.zero_le _) (by simp) (by simp) (by simpa using hK)
end Go.Proofs.YthdcghnjndhecaaGreat.Ev
namespace Go.Proofs.YthdcghnjndhecaaGreat.Ev
set_option linter.unusedVariables false
set_option linter.unusedSimpArgs false
variable {σ:Sig}
theorem root_eq {L:List Nd} {d:List Nat} (hB:Built L L.length d) {e:Nat} (he:e<L.length):decide ((e:Int)=0)=decide (par L e<0):=by
 by_cases h0:e=0
 ·subst h0
  rw [(hB.root he).1]
  rfl
 ·obtain ⟨p,x,h1,_⟩:=hB.step e (by omega) he
  rw [h1]
  have a1:¬ ((e:Int)=0):=by omega
  have a2:¬ ((p:Int)<0):=by omega
  simp only [a1,a2]
theorem empty_eq (L:List Nd) (e:Nat):decide (((kids L L.length e).length:Int)=0)=decide (childI L e 0<0):=by
 unfold childI
 cases kids L L.length e with
 | nil=>rfl
 | cons x l =>
  have a1:¬ (((x::l).length:Int)=0):=by simp; omega
  have a2:¬ ((x:Int)<0):=by omega
  simp only [a1,decide_false,List.getElem?_cons_zero,a2]
theorem rpseudo_ok {L:List Nd} {d:List Nat} (hB:Built L L.length d) (hN:L.length≤4096) {e:Nat} (he:e<L.length) {q:Ps} (hq:i64 q.a∧i64 q.b) {dp:Nat} (hd:dp≤100)
  (hA:(q.kind=7∨q.kind=8)→∀ H,Good Tryz.prog σ n_ref9_Tree_any [refT L d,I (e:Int),sls q.list,I ((dp+1:Nat):Int)] H (Bo (AA L q.list e)) H) (H:Hp) :
  Good Tryz.prog σ n_ref9_Tree_pseudo [refT L d,I (e:Int),.agg (encPs q),I (dp:Int)] H (Bo (pseudoB (AA L) L e q)) H:=by
 refine good_by (fun K hK=>ref9_Tree_pseudo.run ?_) (by simp [noIds,noId,noId_refT,noId_Ps]) rfl H
 have hpl:=place_bd L e
 obtain ⟨H1,hH1⟩:∃ H1,H1=Hp.empty.new (.cells (encPs q) true):=⟨_,rfl⟩
 have hg:H1.get Hp.empty.n=some (.cells (encPs q) true):=by rw [hH1]; simp
 simp only [boxK_agg]
 rw [← hH1]
 generalize Hp.empty.n=b at hg
 have d0:ldA false 1 H1 (.ptr b 0)=some (I q.kind):=by simp [hg]
 have d1:ldA false 1 H1 (.ptr b 1)=some (I q.a):=by simp [hg]
 have d2:ldA false 1 H1 (.ptr b 2)=some (I q.b):=by simp [hg]
 have d3:ldA false 1 H1 (.ptr b 3)=some (sls q.list):=by simp [hg]; rfl
 simp only [sh_ptr,Nat.zero_add,bnd_some,d0,d1,d2,b_eql,ifB_lit,decide_eq_true_eq]
 unfold pseudoB at hK
 split
 ·rename_i h
  simp only [h,if_true] at hK
  rw [root_eq hB he]
  exact hK _
 rename_i h1
 simp only [h1,if_false] at hK
 split
 ·rename_i h
  simp only [h,if_true] at hK
  refine callK_of (rPlace_ok L d hN he _) ?_
  rw [b_eql,bnd_some]
  exact hK _
 rename_i h2
 simp only [h2,if_false] at hK
 split
 ·rename_i h
  simp only [h,if_true] at hK
  exact callK_of (rlast_ok L d hB hN he _) (hK _)
 rename_i h3
 simp only [h3,if_false] at hK
 split
 ·rename_i h
  simp only [h,if_true] at hK
  refine callK_of (rPlace_ok L d hN he _) ?_
  simp only [b_eql,bnd_some,ifB_lit,decide_eq_true_eq]
  split
  ·rename_i hp
   refine callK_of (rlast_ok L d hB hN he _) ?_
   simpa [hp] using hK H1
  ·rename_i hp
   simpa [hp] using hK H1
 rename_i h4
 simp only [h4,if_false] at hK
 split
 ·rename_i h
  simp only [h,if_true] at hK
  refine callK_of (rChildren_ok L d hB hN he _) ?_
  have:lenSl (ints (kids L L.length e))=some (I ((kids L L.length e).length:Int)):=by unfold ints; simp
  rw [this,bnd_some,b_eql,bnd_some,empty_eq]
  exact hK _
 rename_i h5
 simp only [h5,if_false] at hK
 split
 ·rename_i h
  simp only [h,if_true] at hK
  refine callK_of (rPlace_ok L d hN he _) ⟨rfl,?_⟩
  rw [d1,bnd_some]
  refine ⟨rfl,?_⟩
  rw [d2,bnd_some]
  exact callK_of (rnth_ok (by omega) hq.1 hq.2 _) (hK _)
 rename_i h6
 simp only [h6,if_false] at hK
 have J0:∀ c:Bool,(c=true ↔ (q.kind=7∨q.kind=8))→ref9_Tree_pseudo.J0 σ K (refT L d) (I (e:Int)) (I (dp:Int)) (.ptr b 0) (Bo c) H1:=by
  intro c hc
  refine ref9_Tree_pseudo.J0_step ?_
  simp only [ifB_lit]
  by_cases hk:q.kind=7∨q.kind=8
  ·rw [hc.2 hk]
   simp only [if_true,sh_ptr,Nat.zero_add,bnd_some,d3,b_add]
   rw [wr_succ (by omega)]
   refine callK_of (hA hk _) ?_
   simp only [d0,bnd_some,b_eql]
   by_cases h7:q.kind=7
   ·have h8:¬ (q.kind=8):=by omega
    simp only [h7,if_true] at hK
    have:=hK H1
    simp only [h8,decide_false]
    cases hb:AA L q.list e<;>simpa [hb] using this
   ·have h8:q.kind=8:=by omega
    simp only [h7,h8,if_false,if_true] at hK
    have:=hK H1
    simp only [h8,decide_true]
    cases hb:AA L q.list e<;>simpa [hb] using this
  ·have:c=false:=by
    cases c with
    | false=>rfl
    | true=>exact absurd (hc.1 rfl) hk
   subst this
   have h7:¬ (q.kind=7):=fun h=>hk (.inl h)
   have h8:¬ (q.kind=8):=fun h=>hk (.inr h)
   simp only [h7,h8,if_false] at hK
   simpa using hK H1
 split
 ·rename_i h
  exact J0 _ (by simp [h])
 ·rename_i h
  exact J0 _ (by simp [h])
end Go.Proofs.YthdcghnjndhecaaGreat.Ev
namespace Go.Proofs.YthdcghnjndhecaaGreat.Ev
set_option linter.unusedVariables false
set_option linter.unusedSimpArgs false
variable {σ:Sig}
section
variable {L:List Nd} {d:List Nat} {e:Nat} {c:Cp} {n:Nd} {dp:Nat} {b6 b9:Nat} {K:AV→Hp→Prop}
theorem rc_L3 (hps:c.pseudos.length≤reachBytes) (hP:∀ q ∈ c.pseudos,∀ H,Good Tryz.prog σ n_ref9_Tree_pseudo [refT L d,I (e:Int),.agg (encPs q),I (dp:Int)] H (Bo (pseudoB (AA L) L e q)) H) {y10 y11 y12:AV}:∀ (k m:Nat) (H:Hp),c.pseudos.length - m=k→m≤c.pseudos.length→H.get b6=some (.cells (encCp c) true)→(∀ H,K (Bo ((c.pseudos.drop m).all (pseudoB (AA L) L e))) H) →
  ref9_Tree_compound.L3 σ K (refT L d) (I (e:Int)) (I (dp:Int)) (.ptr b6 0) (.ptr b9 0) y10 y11 y12 (I (m:Int)) H:=by
 intro k
 induction k with
 | zero =>
  intro m H hk hm h6 hK
  have:m=c.pseudos.length:=by omega
  subst this
  have d4:ldA false 1 H (.ptr b6 4)=some (.imm 4 (c.pseudos.map encPs)):=by simp [h6]
  refine ref9_Tree_compound.L3_step ?_
  simp only [sh_ptr,Nat.zero_add,bnd_some,d4,len_imm,List.length_map,b_lss,Int.lt_irrefl,decide_false,ifB_lit,Bool.false_eq_true,if_false]
  simpa using hK H
 | succ k ih =>
  intro m H hk hm h6 hK
  have hlt:m<c.pseudos.length:=by omega
  obtain ⟨q,hq⟩:=get_lt hlt
  rw [drop_get hq,List.all_cons] at hK
  have hlt':(m:Int)<c.pseudos.length:=by omega
  have d4:ldA false 1 H (.ptr b6 4)=some (.imm 4 (c.pseudos.map encPs)):=by simp [h6]
  refine ref9_Tree_compound.L3_step ?_
  simp only [sh_ptr,Nat.zero_add,bnd_some,d4,len_imm,List.length_map,b_lss,hlt',decide_true,ifB_lit,if_true,ix_map hq,ld_ip,ldL_ps]
  refine callK_of (hP q (List.mem_of_getElem? hq) _) ?_
  simp only [u_not,bnd_some,ifB_lit]
  cases hb:pseudoB (AA L) L e q with
  | false=>rw [hb] at hK; simpa using hK H
  | true =>
   rw [hb] at hK
   simp only [Bool.not_true,Bool.false_eq_true,if_false,b_add,bnd_some]
   rw [wr_succL hlt hps (by decide)]
   exact ih (m+1) H (by omega) (by omega) h6 (by simpa using hK)
theorem rc_L2 (has:c.attrs.length≤reachBytes) (hps:c.pseudos.length≤reachBytes) (hn:SmN n) (ha:∀ a ∈ c.attrs,a.text.data.size<4294967281) (hP:∀ q ∈ c.pseudos,∀ H,Good Tryz.prog σ n_ref9_Tree_pseudo [refT L d,I (e:Int),.agg (encPs q),I (dp:Int)] H (Bo (pseudoB (AA L) L e q)) H) {y10 y11 y14:AV}:∀ (k m:Nat) (H:Hp),c.attrs.length - m=k→m≤c.attrs.length→H.get b6=some (.cells (encCp c) true)→H.get b9=some (.cells (encNd n) true)→(∀ H,K (Bo ((c.attrs.drop m).all (attrB n.attrs)&&c.pseudos.all (pseudoB (AA L) L e))) H) →
  ref9_Tree_compound.L2 σ K (refT L d) (I (e:Int)) (I (dp:Int)) (.ptr b6 0) (.ptr b9 0) y10 y11 (I (m:Int)) y14 H:=by
 intro k
 induction k with
 | zero =>
  intro m H hk hm h6 h9 hK
  have:m=c.attrs.length:=by omega
  subst this
  have d3:ldA false 1 H (.ptr b6 3)=some (.imm 3 (c.attrs.map encAt)):=by simp [h6]
  refine ref9_Tree_compound.L2_step ?_
  simp only [sh_ptr,Nat.zero_add,bnd_some,d3,len_imm,List.length_map,b_lss,Int.lt_irrefl,decide_false,ifB_lit,Bool.false_eq_true,if_false]
  exact rc_L3 hps hP _ 0 H rfl (Nat.zero_le _) h6 (by simpa using hK)
 | succ k ih =>
  intro m H hk hm h6 h9 hK
  have hlt:m<c.attrs.length:=by omega
  obtain ⟨a,hq⟩:=get_lt hlt
  rw [drop_get hq,List.all_cons] at hK
  have hlt':(m:Int)<c.attrs.length:=by omega
  have d3:ldA false 1 H (.ptr b6 3)=some (.imm 3 (c.attrs.map encAt)):=by simp [h6]
  have d9:ldA true 5 H (.ptr b9 0)=some (.agg (encNd n)):=by simp only [ld_ptr,h9,ldO_cells,List.drop_zero,ldL_nd]
  refine ref9_Tree_compound.L2_step ?_
  simp only [sh_ptr,Nat.zero_add,bnd_some,d3,d9,len_imm,List.length_map,b_lss,hlt',decide_true,ifB_lit,if_true,ix_map hq,ld_ip,ldL_at]
  refine callK_of (rattr_ok n hn.attrs hn.texts a (ha a (List.mem_of_getElem? hq)) _) ?_
  simp only [u_not,bnd_some,ifB_lit]
  cases hb:attrB n.attrs a with
  | false=>rw [hb] at hK; simpa using hK H
  | true =>
   rw [hb] at hK
   simp only [Bool.not_true,Bool.false_eq_true,if_false,b_add,bnd_some]
   rw [wr_succL hlt has (by decide)]
   exact ih (m+1) H (by omega) (by omega) h6 h9 (by simpa using hK)
structure RcOk (c:Cp):Prop where
 ids:c.ids.length≤reachBytes
 classes:c.classes.length≤reachBytes
 attrs:c.attrs.length≤reachBytes
 ps:c.pseudos.length≤reachBytes
 texts:∀ a ∈ c.attrs,a.text.data.size<4294967281
theorem rc_L1 (hc:RcOk c) (hn:SmN n) (hP:∀ q ∈ c.pseudos,∀ H,Good Tryz.prog σ n_ref9_Tree_pseudo [refT L d,I (e:Int),.agg (encPs q),I (dp:Int)] H (Bo (pseudoB (AA L) L e q)) H) {y10 y12 y14:AV}:∀ (k m:Nat) (H:Hp),c.classes.length - m=k→m≤c.classes.length→H.get b6=some (.cells (encCp c) true)→H.get b9=some (.cells (encNd n) true)→(∀ H,K (Bo ((c.classes.drop m).all (hasB n.classes)&&(c.attrs.all (attrB n.attrs)&&c.pseudos.all (pseudoB (AA L) L e)))) H) →
  ref9_Tree_compound.L1 σ K (refT L d) (I (e:Int)) (I (dp:Int)) (.ptr b6 0) (.ptr b9 0) y10 (I (m:Int)) y12 y14 H:=by
 intro k
 induction k with
 | zero =>
  intro m H hk hm h6 h9 hK
  have:m=c.classes.length:=by omega
  subst this
  have d2:ldA false 1 H (.ptr b6 2)=some (.imm 1 (c.classes.map fun s=>[Sx s])):=by simp [h6,encCp_eq,strs]
  refine ref9_Tree_compound.L1_step ?_
  simp only [sh_ptr,Nat.zero_add,bnd_some,d2,len_imm,List.length_map,b_lss,Int.lt_irrefl,decide_false,ifB_lit,Bool.false_eq_true,if_false]
  exact rc_L2 hc.attrs hc.ps hn hc.texts hP _ 0 H rfl (Nat.zero_le _) h6 h9 (by simpa using hK)
 | succ k ih =>
  intro m H hk hm h6 h9 hK
  have hlt:m<c.classes.length:=by omega
  obtain ⟨x,hq⟩:=get_lt hlt
  rw [drop_get hq,List.all_cons] at hK
  have hlt':(m:Int)<c.classes.length:=by omega
  have d2:ldA false 1 H (.ptr b6 2)=some (.imm 1 (c.classes.map fun s=>[Sx s])):=by simp [h6,encCp_eq,strs]
  have d9:ldA false 1 H (.ptr b9 3)=some (strs n.classes):=by simp [h9,encNd]
  have lx:ldA false 1 H (.ip [Sx x])=some (Sx x):=rfl
  have hix:ixaSl 1 (.imm 1 (c.classes.map fun s=>[Sx s])) (I (m:Int))=some (.ip [Sx x]):=ix_map hq
  refine ref9_Tree_compound.L1_step ?_
  simp only [sh_ptr,Nat.zero_add,bnd_some,d2,d9,len_imm,List.length_map,b_lss,hlt',decide_true,ifB_lit,if_true,hix,lx]
  refine callK_of (rhas_ok n.classes hn.classes x _) ?_
  simp only [u_not,bnd_some,ifB_lit]
  cases hb:hasB n.classes x with
  | false=>rw [hb] at hK; simpa using hK H
  | true =>
   rw [hb] at hK
   simp only [Bool.not_true,Bool.false_eq_true,if_false,b_add,bnd_some]
   rw [wr_succL hlt hc.classes (by decide)]
   exact ih (m+1) H (by omega) (by omega) h6 h9 (by simpa using hK)
theorem rc_L0 (hc:RcOk c) (hn:SmN n) (hP:∀ q ∈ c.pseudos,∀ H,Good Tryz.prog σ n_ref9_Tree_pseudo [refT L d,I (e:Int),.agg (encPs q),I (dp:Int)] H (Bo (pseudoB (AA L) L e q)) H) {y11 y12 y14:AV}:∀ (k m:Nat) (H:Hp),c.ids.length - m=k→m≤c.ids.length→H.get b6=some (.cells (encCp c) true)→H.get b9=some (.cells (encNd n) true)→(∀ H,K (Bo ((c.ids.drop m).all (idB n)&&(c.classes.all (hasB n.classes)&&(c.attrs.all (attrB n.attrs)&&c.pseudos.all (pseudoB (AA L) L e))))) H) →
  ref9_Tree_compound.L0 σ K (refT L d) (I (e:Int)) (I (dp:Int)) (.ptr b6 0) (.ptr b9 0) (I (m:Int)) y11 y12 y14 H:=by
 intro k
 induction k with
 | zero =>
  intro m H hk hm h6 h9 hK
  have:m=c.ids.length:=by omega
  subst this
  have d2:ldA false 1 H (.ptr b6 1)=some (.imm 1 (c.ids.map fun s=>[Sx s])):=by simp [h6,encCp_eq,strs]
  refine ref9_Tree_compound.L0_step ?_
  simp only [sh_ptr,Nat.zero_add,bnd_some,d2,len_imm,List.length_map,b_lss,Int.lt_irrefl,decide_false,ifB_lit,Bool.false_eq_true,if_false]
  exact rc_L1 hc hn hP _ 0 H rfl (Nat.zero_le _) h6 h9 (by simpa using hK)
 | succ k ih =>
  intro m H hk hm h6 h9 hK
  have hlt:m<c.ids.length:=by omega
  obtain ⟨x,hq⟩:=get_lt hlt
  rw [drop_get hq,List.all_cons] at hK
  have hlt':(m:Int)<c.ids.length:=by omega
  have d2:ldA false 1 H (.ptr b6 1)=some (.imm 1 (c.ids.map fun s=>[Sx s])):=by simp [h6,encCp_eq,strs]
  have d9:ldA false 1 H (.ptr b9 2)=some (Sx n.id):=by simp [h9,encNd]
  have lx:ldA false 1 H (.ip [Sx x])=some (Sx x):=rfl
  have hix:ixaSl 1 (.imm 1 (c.ids.map fun s=>[Sx s])) (I (m:Int))=some (.ip [Sx x]):=ix_map hq
  refine ref9_Tree_compound.L0_step ?_
  simp only [sh_ptr,Nat.zero_add,bnd_some,d2,d9,len_imm,List.length_map,b_lss,hlt',decide_true,ifB_lit,if_true,hix,lx,b_sneq,b_seql]
  by_cases h1:x=n.id
  ·by_cases h2:n.id=emp
   ·have h2':n.id=⟨#[]⟩:=h2
    have hid:idB n x=false:=by unfold idB; rw [h1,h2]; simp
    rw [hid] at hK
    simp only [h1,h2',decide_true,Bool.not_true,Bool.false_eq_true,if_false,if_true]
    simpa using hK H
   ·have h2':¬ (n.id=⟨#[]⟩):=h2
    have hid:idB n x=true:=by unfold idB; rw [h1]; simp [h2]
    rw [hid] at hK
    simp only [h1,h2',decide_true,decide_false,Bool.not_true,Bool.false_eq_true,if_false,b_add,bnd_some]
    rw [wr_succL hlt hc.ids (by decide)]
    exact ih (m+1) H (by omega) (by omega) h6 h9 (by simpa using hK)
  ·have hid:idB n x=false:=by unfold idB; simp [h1]
   rw [hid] at hK
   simp only [h1,decide_false,Bool.not_false,if_true]
   simpa using hK H
end
end Go.Proofs.YthdcghnjndhecaaGreat.Ev
namespace Go.Proofs.YthdcghnjndhecaaGreat.Ev
set_option linter.unusedVariables false
set_option linter.unusedSimpArgs false
variable {σ:Sig}
section
attribute [local irreducible] ref9_Tree_compound.L0
theorem rcomp_ok {L:List Nd} {d:List Nat} (hB:Built L L.length d) (hN:L.length≤4096) {e:Nat} (he:e<L.length) (hn:SmN (lowN (ndAt L e))) {c:Cp} (hc:RcOk c) (hq:∀ q ∈ c.pseudos,i64 q.a∧i64 q.b) {dp:Nat} (hd:dp≤100)
  (hA:∀ q ∈ c.pseudos,(q.kind=7∨q.kind=8)→∀ H,Good Tryz.prog σ n_ref9_Tree_any [refT L d,I (e:Int),sls q.list,I ((dp+1:Nat):Int)] H (Bo (AA L q.list e)) H) (H:Hp) :
  Good Tryz.prog σ n_ref9_Tree_compound [refT L d,I (e:Int),.agg (encCp c),I (dp:Int)] H (Bo (compB (AA L) L e c)) H:=by
 refine good_by (fun K hK=>ref9_Tree_compound.run ?_) (by simp [noIds,noId,noId_refT,noId_Cp]) rfl H
 have hP:∀ q ∈ c.pseudos,∀ H,Good Tryz.prog σ n_ref9_Tree_pseudo [refT L d,I (e:Int),.agg (encPs q),I (dp:Int)] H (Bo (pseudoB (AA L) L e q)) H:=fun q h=>rpseudo_ok hB hN he (hq q h) hd (hA q h)
 simp only [boxK_agg]
 refine callK_of (ris_t L d he _) ?_
 simp only [u_not,bnd_some,ifB_lit,Bool.not_true,Bool.false_eq_true,if_false,rnilp,rsh,rld,rix he,ld_ip,ldL_nd,allocK_eq,st_agg,len_encNd,if_true]
 rw [hp_get_new,if_pos rfl]
 simp only [stO_cells,len_encNd,one_Nd]
 rw [if_pos ⟨by decide,trivial⟩]
 rw [overlay_all (by rfl)]
 simp only [bnd_some]
 obtain ⟨H3,hH3⟩:∃ H3,H3=((Hp.empty.new (.cells (encCp c) true)).new (.cells [I 0,.lit (.string ⟨#[]⟩),.lit (.string ⟨#[]⟩),.lit (.slice none 0 0),.lit (.slice none 0 0)] true)).set (Hp.empty.new (.cells (encCp c) true)).n (some (.cells (encNd (lowN (ndAt L e))) true)):=⟨_,rfl⟩
 have h6:H3.get Hp.empty.n=some (.cells (encCp c) true):=by rw [hH3]; simp
 have h9:H3.get (Hp.empty.new (.cells (encCp c) true)).n=some (.cells (encNd (lowN (ndAt L e))) true):=by rw [hH3]; simp
 rw [← hH3]
 generalize Hp.empty.n=b6 at h6
 generalize (Hp.empty.new (.cells (encCp c) true)).n=b9 at h9
 have d0:ldA false 1 H3 (.ptr b6 0)=some (Sx c.tag):=by simp [h6]
 have d1:ldA false 1 H3 (.ptr b9 1)=some (Sx (lowN (ndAt L e)).tag):=by simp [h9]
 simp only [sh_ptr,Nat.zero_add,bnd_some,d0,d1,b_sneq,ifB_lit]
 have hK':∀ H,K (Bo (tagB (lowN (ndAt L e)) c&&(c.ids.all (idB (lowN (ndAt L e)))&&(c.classes.all (hasB (lowN (ndAt L e)).classes)&&(c.attrs.all (attrB (lowN (ndAt L e)).attrs)&&c.pseudos.all (pseudoB (AA L) L e)))))) H:=by
  intro H
  have:=hK H
  unfold compB plainB at this
  simpa only [Bool.and_assoc] using this
 have go:tagB (lowN (ndAt L e)) c=true→ref9_Tree_compound.L0 σ K (refT L d) (I (e:Int)) (I (dp:Int)) (.ptr b6 0) (.ptr b9 0) (I 0) (.lit undef) (.lit undef) (.lit undef) H3:=by
  intro ht
  refine rc_L0 hc hn hP _ 0 H3 rfl (Nat.zero_le _) h6 h9 fun H=>?_
  have:=hK' H
  rw [ht,Bool.true_and] at this
  exact this
 by_cases ht:c.tag=⟨#[]⟩
 ·simp only [ht,decide_true,Bool.not_true,Bool.false_eq_true,if_false]
  exact go (by unfold tagB emp; simp [ht])
 ·by_cases ht2:c.tag=(lowN (ndAt L e)).tag
  ·simp only [ht,ht2,decide_true,decide_false,Bool.not_true,Bool.not_false,Bool.false_eq_true,if_true,if_false]
   have hne:¬ ((lowN (ndAt L e)).tag=⟨#[]⟩):=by rw [← ht2]; exact ht
   simp only [hne,decide_false,Bool.not_false,if_true]
   exact go (by unfold tagB; simp [ht2])
  ·simp only [ht,ht2,decide_false,Bool.not_false,if_true]
   have:=hK' H3
   have hb:tagB (lowN (ndAt L e)) c=false:=by unfold tagB emp; simp [ht,ht2]
   rw [hb] at this
   simpa using this
end
structure Kn (L:List Nd) (s:Sl) (kb M:Nat) (H:Hp):Prop where
 lt:kb<H.n
 get:∃ ks,H.get kb=some (.cells ks true)∧ks.length=M∧∀ e k,e<L.length→k<s.length→∃ v:Int,ks[e*s.length+k]?=some (I v)∧(v=0∨(v=1∧frontB (AA L) L s k e=true)∨(v=2∧frontB (AA L) L s k e=false))
theorem Kn.keep {L:List Nd} {s:Sl} {kb M:Nat} {H H':Hp} (h:Kn L s kb M H) (hn:H.n≤H'.n) (hg:H'.get kb=H.get kb):Kn L s kb M H':=by
 obtain ⟨ks,h1,h2,h3⟩:=h.get
 exact ⟨Nat.lt_of_lt_of_le h.lt hn,ks,by rw [hg]; exact h1,h2,h3⟩
theorem Kn.new {L:List Nd} {s:Sl} {kb M:Nat} {H:Hp} (h:Kn L s kb M H) (b:Blk):Kn L s kb M (H.new b):=by
 refine h.keep (by simp) ?_
 have:kb≠H.n:=by have:=h.lt; omega
 simp [this]
theorem idx_inj {n a b x y:Nat} (hx:x<n) (hy:y<n) (h:a*n+x=b*n+y):a=b∧x=y:=by
 have h1:(a*n+x) / n=(b*n+y) / n:=by rw [h]
 have hn:0<n:=by omega
 rw [Nat.mul_comm a,Nat.mul_comm b,Nat.mul_add_div hn,Nat.mul_add_div hn,Nat.div_eq_of_lt hx,Nat.div_eq_of_lt hy] at h1
 simp only [Nat.add_zero] at h1
 subst h1
 exact ⟨rfl,by omega⟩
theorem ov_set:∀ (cs:List AV) (i:Nat) (x:AV),i<cs.length→overlay cs i [x]=cs.set i x:=by
 intro cs
 induction cs with
 | nil=>intro i x hi; simp at hi
 | cons c r ih =>
  intro i x hi
  cases i with
  | zero=>simp
  | succ i=>rw [overlay_s,List.set_cons_succ,ih i x (by simpa using hi)]
theorem Kn.put {L:List Nd} {s:Sl} {kb M:Nat} {H:Hp} (h:Kn L s kb M H) {e k:Nat} (he:e<L.length) (hk:k<s.length) {v:Int} (hv:v=0∨(v=1∧frontB (AA L) L s k e=true)∨(v=2∧frontB (AA L) L s k e=false)) :
  ∃ H',stA 1 H (.ptr kb (e*s.length+k)) (I v)=some H'∧Kn L s kb M H'∧Kp kb H H'∧ldA false 1 H' (.ptr kb (e*s.length+k))=some (I v):=by
 obtain ⟨ks,h1,h2,h3⟩:=h.get
 obtain ⟨v0,hv0,_⟩:=h3 e k he hk
 have hlt:=(List.getElem?_eq_some_iff.1 hv0).1
 refine ⟨H.set kb (some (.cells (ks.set (e*s.length+k) (I v)) true)),?_,⟨by simpa using h.lt,_,by simp; rfl,by simpa using h2,fun e' k' he' hk'=>?_⟩,⟨by simp,fun j hj hne=>by simp [hne]⟩,?_⟩
 ·have hlt':e*s.length+k+[I v].length≤ks.length:=by simp; omega
  rw [st_int,h1]
  simp only [stO_cells]
  rw [if_pos ⟨hlt',rfl⟩,ov_set _ _ _ hlt]
 ·by_cases hi:e*s.length+k=e'*s.length+k'
  ·obtain ⟨rfl,rfl⟩:=idx_inj hk hk' hi
   exact ⟨v,by simp [hlt],hv⟩
  ·obtain ⟨w,hw,hw'⟩:=h3 e' k' he' hk'
   exact ⟨w,by simp [List.getElem?_set,hi,hw],hw'⟩
 ·simp only [ld_ptr,hp_get_set,if_true,ldO_cells]
  rw [List.drop_eq_getElem_cons (by simpa using hlt),ldL_one]
  simp
theorem Kn.put2 {L:List Nd} {s:Sl} {kb M:Nat} {H:Hp} (h:Kn L s kb M H) {e k:Nat} (he:e<L.length) (hk:k<s.length) {v w:Int} (hv:v=0∨(v=1∧frontB (AA L) L s k e=true)∨(v=2∧frontB (AA L) L s k e=false)) :
  ∃ H1 H',stA 1 H (.ptr kb (e*s.length+k)) (I w)=some H1∧stA 1 H1 (.ptr kb (e*s.length+k)) (I v)=some H'∧Kn L s kb M H'∧Kp kb H H'∧ldA false 1 H' (.ptr kb (e*s.length+k))=some (I v):=by
 obtain ⟨ks,h1,h2,h3⟩:=h.get
 obtain ⟨v0,hv0,_⟩:=h3 e k he hk
 have hlt:=(List.getElem?_eq_some_iff.1 hv0).1
 refine ⟨H.set kb (some (.cells (ks.set (e*s.length+k) (I w)) true)),H.set kb (some (.cells (ks.set (e*s.length+k) (I w)) true)) |>.set kb (some (.cells ((ks.set (e*s.length+k) (I w)).set (e*s.length+k) (I v)) true)),?_,?_,⟨by simpa using h.lt,_,by simp; rfl,by simpa using h2,fun e' k' he' hk'=>?_⟩,⟨by simp,fun j hj hne=>by simp [hne]⟩,?_⟩
 ·have hlt':e*s.length+k+[I w].length≤ks.length:=by simp; omega
  rw [st_int,h1]
  simp only [stO_cells]
  rw [if_pos ⟨hlt',rfl⟩,ov_set _ _ _ hlt]
 ·have hlt':e*s.length+k+[I v].length≤(ks.set (e*s.length+k) (I w)).length:=by simp; omega
  rw [st_int]
  simp only [hp_get_set,if_true,stO_cells]
  rw [if_pos ⟨hlt',rfl⟩,ov_set _ _ _ (by simpa using hlt)]
 ·by_cases hi:e*s.length+k=e'*s.length+k'
  ·obtain ⟨rfl,rfl⟩:=idx_inj hk hk' hi
   exact ⟨v,by simp [hlt],hv⟩
  ·obtain ⟨w,hw,hw'⟩:=h3 e' k' he' hk'
   exact ⟨w,by simp [List.getElem?_set,hi,hw],hw'⟩
 ·simp only [ld_ptr,hp_get_set,if_true,ldO_cells]
  rw [List.drop_eq_getElem_cons (by simpa using hlt),ldL_one]
  simp
structure RSl (L:List Nd) (s:Sl):Prop where
 len:s.length≤50
 c:∀ p ∈ s,RcOk p.c
 q:∀ p ∈ s,∀ q ∈ p.c.pseudos,i64 q.a∧i64 q.b
theorem rbefore_bd {L:List Nd} (e:Nat):before L e=-1∨∃ p:Nat,before L e=p∧p<e:=by
 unfold before lastI
 cases h:(sibs L e).getLast? with
 | none=>exact .inl rfl
 | some j =>
  refine .inr ⟨j,rfl,?_⟩
  have:=List.mem_of_getLast? h
  unfold sibs at this
  simp only [List.mem_filter,List.mem_range] at this
  exact this.1
section
attribute [local irreducible] ref9_Tree_hangs.L0 ref9_Tree_hangs.L1 ref9_Tree_hangs.J2 ref9_Tree_front.J0
def FrOk (σ:Sig) (L:List Nd) (d:List Nat) (s:Sl) (dp kb M:Nat) (cap:Option Nat) (i:Nat):Prop:=∀ (e:Nat) (H:Hp) (K:AV→Hp→Prop),e<L.length→Kn L s kb M H→(∀ H',Kn L s kb M H'→Kp kb H H'→K (Bo (frontB (AA L) L s i e)) H') →
 callK Tryz.prog σ n_ref9_Tree_front [refT L d,I (e:Int),.agg (encSl s),I ((i+1:Nat):Int),I (dp:Int),.sl kb 0 1 M cap] H K
variable {L:List Nd} {d:List Nat} {s:Sl} {dp kb M:Nat} {cap:Option Nat}
theorem hangs_L0 (hB:Built L L.length d) (hN:L.length≤4096) {i b8:Nat} (hi:i<100) (ih:FrOk σ L d s dp kb M cap i) {K:AV→Hp→Prop} {y15:AV}:∀ (f:Nat) (x:Int) (H:Hp),(x=-1∨∃ p:Nat,x=p∧p<f∧p<L.length)→Kn L s kb M H→b8<H.n→b8≠kb→H.get b8=some (.cells (encSl s) true) →
  (∀ H',Kn L s kb M H'→Kp kb H H'→K (Bo (decide (0≤x)&&(frontB (AA L) L s i x.toNat||aheadF (frontB (AA L) L s i) L 1 f x.toNat))) H') →
  ref9_Tree_hangs.L0 σ K (refT L d) (I ((i+1+1:Nat):Int)) (I (dp:Int)) (.sl kb 0 1 M cap) (.ptr b8 0) (I x) y15 H:=by
 intro f
 induction f with
 | zero =>
  intro x H hx hk h8 hne hg hK
  obtain rfl:x=-1:=by rcases hx with h | ⟨p,_,h,_⟩<;>omega
  refine ref9_Tree_hangs.L0_step ?_
  simp only [b_geq,bnd_some,ifB_lit,show ¬ ((0:Int)≤-1) from by decide,decide_false,Bool.false_eq_true,if_false]
  exact ref9_Tree_hangs.J2_step (by simpa using hK H hk (Kp.refl _ _))
 | succ f ihf =>
  intro x H hx hk h8 hne hg hK
  refine ref9_Tree_hangs.L0_step ?_
  rcases hx with rfl | ⟨p,rfl,hpf,hpL⟩
  ·simp only [b_geq,bnd_some,ifB_lit,show ¬ ((0:Int)≤-1) from by decide,decide_false,Bool.false_eq_true,if_false]
   exact ref9_Tree_hangs.J2_step (by simpa using hK H hk (Kp.refl _ _))
  have hl:ldA true 1 H (.ptr b8 0)=some (.agg (encSl s)):=by simp [hg]
  have hsub:wr .i64 (((i+1+1:Nat):Int) - 1)=((i+1:Nat):Int):=by rw [wr64 (by omega) (by omega)]; omega
  simp only [b_geq,bnd_some,ifB_lit,Int.natCast_nonneg,decide_true,if_true,hl,b_sub,hsub]
  refine ih p H _ hpL hk fun H1 hk1 hp1=>?_
  simp only [ifB_lit]
  simp only [Int.natCast_nonneg,decide_true,Bool.true_and,Int.toNat_natCast] at hK
  cases hb:frontB (AA L) L s i p with
  | true =>
   simp only [if_true]
   have:=hK H1 hk1 hp1
   rw [hb] at this
   simpa using this
  | false =>
   simp only [Bool.false_eq_true,if_false]
   refine callK_of (rParent_ok L d hpL _) ?_
   have hpb:=par_bd hB hpL
   refine ihf (par L p) H1 ?_ hk1 (Nat.lt_of_lt_of_le h8 hp1.up) hne (by rw [hp1.get _ h8 hne]; exact hg) fun H2 hk2 hp2=>?_
   ·rcases hpb with h | ⟨q,h,hq⟩
    ·exact .inl h
    ·exact .inr ⟨q,h,by omega,by omega⟩
   have:=hK H2 hk2 (hp1.trans hp2)
   rw [hb] at this
   have e1:aheadF (frontB (AA L) L s i) L 1 (f+1) p=(decide (0≤par L p)&&(frontB (AA L) L s i (par L p).toNat||aheadF (frontB (AA L) L s i) L 1 f (par L p).toNat)):=by
    rw [aheadF]
    have:standI L p 1=par L p:=by unfold standI; simp
    rw [this]
    have:farB 1=true:=rfl
    rw [this,Bool.true_and]
   rw [← e1]
   simpa using this
theorem hangs_L1 (hB:Built L L.length d) (hN:L.length≤4096) {i b8:Nat} (hi:i<100) (ih:FrOk σ L d s dp kb M cap i) {K:AV→Hp→Prop} {y13:AV}:∀ (f:Nat) (x:Int) (H:Hp),(x=-1∨∃ p:Nat,x=p∧p<f∧p<L.length)→Kn L s kb M H→b8<H.n→b8≠kb→H.get b8=some (.cells (encSl s) true) →
  (∀ H',Kn L s kb M H'→Kp kb H H'→K (Bo (decide (0≤x)&&(frontB (AA L) L s i x.toNat||aheadF (frontB (AA L) L s i) L 4 f x.toNat))) H') →
  ref9_Tree_hangs.L1 σ K (refT L d) (I ((i+1+1:Nat):Int)) (I (dp:Int)) (.sl kb 0 1 M cap) (.ptr b8 0) y13 (I x) H:=by
 intro f
 induction f with
 | zero =>
  intro x H hx hk h8 hne hg hK
  obtain rfl:x=-1:=by rcases hx with h | ⟨p,_,h,_⟩<;>omega
  refine ref9_Tree_hangs.L1_step ?_
  simp only [b_geq,bnd_some,ifB_lit,show ¬ ((0:Int)≤-1) from by decide,decide_false,Bool.false_eq_true,if_false]
  exact ref9_Tree_hangs.J2_step (by simpa using hK H hk (Kp.refl _ _))
 | succ f ihf =>
  intro x H hx hk h8 hne hg hK
  refine ref9_Tree_hangs.L1_step ?_
  rcases hx with rfl | ⟨p,rfl,hpf,hpL⟩
  ·simp only [b_geq,bnd_some,ifB_lit,show ¬ ((0:Int)≤-1) from by decide,decide_false,Bool.false_eq_true,if_false]
   exact ref9_Tree_hangs.J2_step (by simpa using hK H hk (Kp.refl _ _))
  have hl:ldA true 1 H (.ptr b8 0)=some (.agg (encSl s)):=by simp [hg]
  have hsub:wr .i64 (((i+1+1:Nat):Int) - 1)=((i+1:Nat):Int):=by rw [wr64 (by omega) (by omega)]; omega
  simp only [b_geq,bnd_some,ifB_lit,Int.natCast_nonneg,decide_true,if_true,hl,b_sub,hsub]
  refine ih p H _ hpL hk fun H1 hk1 hp1=>?_
  simp only [ifB_lit]
  simp only [Int.natCast_nonneg,decide_true,Bool.true_and,Int.toNat_natCast] at hK
  cases hb:frontB (AA L) L s i p with
  | true =>
   simp only [if_true]
   have:=hK H1 hk1 hp1
   rw [hb] at this
   simpa using this
  | false =>
   simp only [Bool.false_eq_true,if_false]
   refine callK_of (rBefore_ok L d hN hpL _) ?_
   have hpb:=rbefore_bd (L:=L) p
   refine ihf (before L p) H1 ?_ hk1 (Nat.lt_of_lt_of_le h8 hp1.up) hne (by rw [hp1.get _ h8 hne]; exact hg) fun H2 hk2 hp2=>?_
   ·rcases hpb with h | ⟨q,h,hq⟩
    ·exact .inl h
    ·exact .inr ⟨q,h,by omega,by omega⟩
   have:=hK H2 hk2 (hp1.trans hp2)
   rw [hb] at this
   have e1:aheadF (frontB (AA L) L s i) L 4 (f+1) p=(decide (0≤before L p)&&(frontB (AA L) L s i (before L p).toNat||aheadF (frontB (AA L) L s i) L 4 f (before L p).toNat)):=by
    rw [aheadF]
    have:standI L p 4=before L p:=by unfold standI; simp
    rw [this]
    have:farB 4=true:=rfl
    rw [this,Bool.true_and]
   rw [← e1]
   simpa using this
theorem hangs_sp (hB:Built L L.length d) (hN:L.length≤4096) {i:Nat} (hi:i<100) (ih:FrOk σ L d s dp kb M cap i) {p:Pt} (hp:s[i+1]?=some p) {e:Nat} (he:e<L.length) {H:Hp} (hk:Kn L s kb M H) {K:AV→Hp→Prop}
  (hK:∀ H',Kn L s kb M H'→Kp kb H H'→K (Bo (aheadF (frontB (AA L) L s i) L p.comb (e+1) e)) H') :
  callK Tryz.prog σ n_ref9_Tree_hangs [refT L d,I (e:Int),.agg (encSl s),I ((i+1+1:Nat):Int),I (dp:Int),.sl kb 0 1 M cap] H K:=by
 refine ref9_Tree_hangs.run ?_
 simp only [boxK_agg]
 have hk2:=hk.new (.cells (encSl s) true)
 have hkp:=Kp.new kb H (.cells (encSl s) true)
 obtain ⟨H2,hH2⟩:∃ H2,H2=H.new (.cells (encSl s) true):=⟨_,rfl⟩
 have h8:H2.get H.n=some (.cells (encSl s) true):=by rw [hH2]; simp
 have hb8:H.n<H2.n:=by rw [hH2]; simp
 have hne:H.n≠kb:=by have:=hk.lt; omega
 rw [← hH2] at hk2 hkp ⊢
 clear hH2
 generalize H.n=b8 at h8 hb8 hne ⊢
 have hsub:wr .i64 (((i+1+1:Nat):Int) - 1)=((i+1:Nat):Int):=by rw [wr64 (by omega) (by omega)]; omega
 have hl0:ldA false 1 H2 (.ptr b8 0)=some (.imm 6 (s.map encPt)):=by simp [h8,encSl]
 have hl:ldA true 1 H2 (.ptr b8 0)=some (.agg (encSl s)):=by simp [h8]
 have hix:ixaSl 6 (.imm 6 (s.map encPt)) (I ((i+1:Nat):Int))=some (.ip (encPt p)):=ix_map hp
 simp only [sh_ptr,Nat.zero_add,bnd_some,hl0,b_sub,hsub,hix,sh_ip,List.drop_zero,ld_ip,f_encPt0,b_eql,ifB_lit,decide_eq_true_eq]
 have K2:∀ H',Kn L s kb M H'→Kp kb H2 H'→K (Bo (aheadF (frontB (AA L) L s i) L p.comb (e+1) e)) H':=fun H' a b=>hK H' a (hkp.trans b)
 rw [aheadF] at K2
 split
 ·rename_i hc
  refine callK_of (rParent_ok L d he _) ?_
  have hpb:=par_bd hB he
  refine hangs_L0 hB hN hi ih e (par L e) H2 ?_ hk2 hb8 hne h8 fun H3 a b=>?_
  ·rcases hpb with h | ⟨q,h,hq⟩
   ·exact .inl h
   ·exact .inr ⟨q,h,by omega,by omega⟩
  have:=K2 H3 a b
  rw [hc] at this
  have e1:standI L e 1=par L e:=by unfold standI; simp
  have e2:farB 1=true:=rfl
  rw [e1,e2,Bool.true_and] at this
  exact this
 rename_i hc1
 split
 ·rename_i hc
  refine callK_of (rParent_ok L d he _) ?_
  have hpb:=par_bd hB he
  have e1:standI L e 2=par L e:=by unfold standI; simp
  have e2:farB 2=false:=rfl
  rw [hc,e1,e2,Bool.false_and,Bool.or_false] at K2
  simp only [b_geq,bnd_some,ifB_lit,decide_eq_true_eq]
  rcases hpb with h | ⟨q,h,hq⟩
  ·rw [h] at K2 ⊢
   simp only [show ¬ ((0:Int)≤-1) from by decide,if_false]
   simpa using K2 H2 hk2 (Kp.refl _ _)
  ·rw [h] at K2
   simp only [h,Int.natCast_nonneg,if_true]
   refine callK_of (rParent_ok L d he _) ?_
   rw [kp_ptr]
   refine ⟨rfl,?_⟩
   simp only [hl,bnd_some]
   rw [h]
   refine ih q H2 _ (by omega) hk2 fun H3 a b=>?_
   simpa using K2 H3 a b
 rename_i hc2
 split
 ·rename_i hc
  refine callK_of (rBefore_ok L d hN he _) ?_
  have hpb:=rbefore_bd (L:=L) e
  have e1:standI L e 3=before L e:=by unfold standI; simp
  have e2:farB 3=false:=rfl
  rw [hc,e1,e2,Bool.false_and,Bool.or_false] at K2
  simp only [b_geq,bnd_some,ifB_lit,decide_eq_true_eq]
  rcases hpb with h | ⟨q,h,hq⟩
  ·rw [h] at K2 ⊢
   simp only [show ¬ ((0:Int)≤-1) from by decide,if_false]
   simpa using K2 H2 hk2 (Kp.refl _ _)
  ·rw [h] at K2
   simp only [h,Int.natCast_nonneg,if_true]
   refine callK_of (rBefore_ok L d hN he _) ?_
   rw [kp_ptr]
   refine ⟨rfl,?_⟩
   simp only [hl,bnd_some]
   rw [h]
   refine ih q H2 _ (by omega) hk2 fun H3 a b=>?_
   simpa using K2 H3 a b
 rename_i hc3
 split
 ·rename_i hc
  refine callK_of (rBefore_ok L d hN he _) ?_
  have hpb:=rbefore_bd (L:=L) e
  refine hangs_L1 hB hN hi ih e (before L e) H2 ?_ hk2 hb8 hne h8 fun H3 a b=>?_
  ·rcases hpb with h | ⟨q,h,hq⟩
   ·exact .inl h
   ·exact .inr ⟨q,h,by omega,by omega⟩
  have:=K2 H3 a b
  rw [hc] at this
  have e1:standI L e 4=before L e:=by unfold standI; simp
  have e2:farB 4=true:=rfl
  rw [e1,e2,Bool.true_and] at this
  exact this
 rename_i hc4
 refine ref9_Tree_hangs.J2_step ?_
 have e1:standI L e p.comb=-1:=by unfold standI; rw [if_neg (by omega),if_neg (by omega)]
 rw [e1] at K2
 simpa using K2 H2 hk2 (Kp.refl _ _)
def AnyR (σ:Sig) (L:List Nd) (d:List Nat) (s:Sl) (dp:Nat):Prop:=∀ p ∈ s,∀ q ∈ p.c.pseudos,(q.kind=7∨q.kind=8)→∀ (e:Nat) (H:Hp),e<L.length→Good Tryz.prog σ n_ref9_Tree_any [refT L d,I (e:Int),sls q.list,I ((dp+1:Nat):Int)] H (Bo (AA L q.list e)) H
theorem fr_step (hB:Built L L.length d) (hN:L.length≤4096) (hsm:∀ e,e<L.length→SmN (lowN (ndAt L e))) (hs:RSl L s) (hd:dp≤100) (hM:M=L.length*s.length) (hA:AnyR σ L d s dp) {i:Nat} (hi:i<s.length)
  (ih:∀ j,i=j+1→FrOk σ L d s dp kb M cap j):FrOk σ L d s dp kb M cap i:=by
 intro e H K he hk hK
 refine ref9_Tree_front.run ?_
 simp only [boxK_agg]
 have hk2:=hk.new (.cells (encSl s) true)
 have hkp:=Kp.new kb H (.cells (encSl s) true)
 obtain ⟨H2,hH2⟩:∃ H2,H2=H.new (.cells (encSl s) true):=⟨_,rfl⟩
 have h8:H2.get H.n=some (.cells (encSl s) true):=by rw [hH2]; simp
 have hb8:H.n<H2.n:=by rw [hH2]; simp
 have hne:H.n≠kb:=by have:=hk.lt; omega
 rw [← hH2] at hk2 hkp ⊢
 clear hH2
 generalize H.n=b8 at h8 hb8 hne ⊢
 have hl50:=hs.len
 have hmul:e*s.length≤4096*50:=Nat.mul_le_mul (by omega) hl50
 have e1:wr .i64 ((e:Int)*(s.length:Int))=((e*s.length:Nat):Int):=by
  have:(e:Int)*(s.length:Int)=((e*s.length:Nat):Int):=by simp
  rw [this,wr64 (by omega) (by omega)]
 have e2:wr .i64 (((e*s.length:Nat):Int)+((i+1:Nat):Int))=((e*s.length+i+1:Nat):Int):=by rw [wr64 (by omega) (by omega)]; omega
 have e3:wr .i64 (((e*s.length+i+1:Nat):Int) - 1)=((e*s.length+i:Nat):Int):=by rw [wr64 (by omega) (by omega)]; omega
 have e4:wr .i64 (((i+1:Nat):Int) - 1)=(i:Int):=by rw [wr64 (by omega) (by omega)]; omega
 have hlt:e*s.length+i<M:=by
  rw [hM]
  have h1:(e+1)*s.length≤L.length*s.length:=Nat.mul_le_mul_right _ he
  rw [Nat.succ_mul] at h1
  omega
 have hl0:ldA false 1 H2 (.ptr b8 0)=some (.imm 6 (s.map encPt)):=by simp [h8,encSl]
 have hl:ldA true 1 H2 (.ptr b8 0)=some (.agg (encSl s)):=by simp [h8]
 have hix:ixaSl 1 (.sl kb 0 1 M cap) (I ((e*s.length+i:Nat):Int))=some (.ptr kb (e*s.length+i)):=by
  have a1:((e*s.length+i:Nat):Int)<(M:Int):=by omega
  have a2:(0:Int)≤((e*s.length+i:Nat):Int):=by omega
  simp only [ixaSl,intA,a1,a2,decide_true,Bool.and_self,cond_true,Int.toNat_natCast,Nat.zero_add,Nat.mul_one]
 obtain ⟨p,hp⟩:=get_lt hi
 have hixp:ixaSl 6 (.imm 6 (s.map encPt)) (I (i:Int))=some (.ip (encPt p)):=ix_map hp
 obtain ⟨ks,g1,g2,g3⟩:=hk2.get
 obtain ⟨v,hv,hv'⟩:=g3 e i he hi
 have hld:ldA false 1 H2 (.ptr kb (e*s.length+i))=some (I v):=by
  rw [ld_ptr,g1,ldO_cells,drop_get hv,ldL_one]
 simp only [sh_ptr,Nat.zero_add,bnd_some,hl0,len_imm,List.length_map,b_mul,b_add,b_sub,e1,e2,e3,e4,hix,hld,b_eql,ifB_lit,decide_eq_true_eq]
 have K2:∀ H',Kn L s kb M H'→Kp kb H2 H'→K (Bo (frontB (AA L) L s i e)) H':=fun H' a b=>hK H' a (hkp.trans b)
 have fin:∀ (H3:Hp) (w:Int),Kn L s kb M H3→Kp kb H2 H3→ldA false 1 H3 (.ptr kb (e*s.length+i))=some (I w)→decide (w=1)=frontB (AA L) L s i e →
   ref9_Tree_front.J0 σ K (.sl kb 0 1 M cap) (I ((e*s.length+i:Nat):Int)) H3:=by
  intro H3 w a b c hw
  refine ref9_Tree_front.J0_step ?_
  simp only [hix,bnd_some,c,b_eql]
  rw [hw]
  exact K2 H3 a b
 have put2:∀ (H3:Hp) (w:Int) (A:Hp→Prop),Kn L s kb M H3→Kp kb H2 H3→(w=0∨(w=1∧frontB (AA L) L s i e=true)∨(w=2∧frontB (AA L) L s i e=false)) →
   (∀ H4,Kn L s kb M H4→Kp kb H2 H4→ldA false 1 H4 (.ptr kb (e*s.length+i))=some (I w)→A H4)→bnd (stA 1 H3 (.ptr kb (e*s.length+i)) (I w)) A:=by
  intro H3 w A a b hw hA
  obtain ⟨H4,q1,q2,q3,q4⟩:=a.put he hi hw
  rw [q1,bnd_some]
  exact hA H4 q2 (b.trans q3) q4
 by_cases hv0:v=0
 ·simp only [hv0,if_true]
  have hld5:ldA true 5 H2 (.ip ((encPt p).drop 1))=some (.agg (encCp p.c)):=by rw [encPt_eq]; simp
  simp only [hixp,bnd_some,sh_ip,hld5]
  have hpm:=List.mem_of_getElem? hp
  refine callK_of (rcomp_ok hB hN he (hsm e he) (hs.c p hpm) (hs.q p hpm) hd (fun q hq hkd H=>hA p hpm q hq hkd e H he) _) ?_
  simp only [ifB_lit]
  cases hcB:compB (AA L) L e p.c with
  | false =>
   have hf:frontB (AA L) L s i e=false:=by
    cases i with
    | zero=>simp only [frontB,hp]; exact hcB
    | succ i=>simp only [frontB,hp,hcB,Bool.false_and]
   simp only [Bool.false_eq_true,if_false]
   refine put2 H2 2 _ hk2 (Kp.refl _ _) (.inr (.inr ⟨rfl,hf⟩)) fun H4 a b c=>?_
   exact fin H4 2 a b c (by rw [hf]; rfl)
  | true =>
   simp only [if_true]
   cases i with
   | zero =>
    have hf:frontB (AA L) L s 0 e=true:=by simp only [frontB,hp]; exact hcB
    have:((0+1:Nat):Int)=1:=rfl
    simp only [this,if_true]
    have bad:∀ (H3:Hp) (w:Int) (A:Hp→Prop),Kn L s kb M H3→Kp kb H2 H3→(∀ H5 H6,stA 1 H3 (.ptr kb (e*s.length+0)) (I 2)=some H5→stA 1 H5 (.ptr kb (e*s.length+0)) (I 1)=some H6→Kn L s kb M H6→Kp kb H2 H6→ldA false 1 H6 (.ptr kb (e*s.length+0))=some (I 1)→A H6) →
      bnd (stA 1 H3 (.ptr kb (e*s.length+0)) (I 2)) fun H5=>bnd (stA 1 H5 (.ptr kb (e*s.length+0)) (I 1)) A:=by
     intro H3 w A a b h
     obtain ⟨H5,H6,q1,q2,q3,q4,q5⟩:=a.put2 he hi (v:=1) (w:=2) (.inr (.inl ⟨rfl,hf⟩))
     rw [q1,bnd_some,q2,bnd_some]
     exact h H5 H6 q1 q2 q3 (b.trans q4) q5
    refine bad H2 1 _ hk2 (Kp.refl _ _) fun H5 H6 _ _ a b c=>?_
    exact fin H6 1 a b c (by rw [hf]; rfl)
   | succ i =>
    have hne1:¬ (((i+1+1:Nat):Int)=1):=by omega
    simp only [hne1,if_false,hl,bnd_some]
    refine hangs_sp hB hN (by omega) (ih i rfl) hp he hk2 fun H3 hk3 hp3=>?_
    have hfr:frontB (AA L) L s (i+1) e=aheadF (frontB (AA L) L s i) L p.comb (e+1) e:=by simp only [frontB,hp,hcB,Bool.true_and]
    rw [← hfr]
    simp only [ifB_lit]
    cases hf:frontB (AA L) L s (i+1) e with
    | true =>
     obtain ⟨H5,H6,q1,q2,q3,q4,q5⟩:=hk3.put2 he hi (v:=1) (w:=2) (.inr (.inl ⟨rfl,hf⟩))
     rw [q1,bnd_some]
     simp only [if_true]
     rw [q2,bnd_some]
     exact fin H6 1 q3 (hp3.trans q4) q5 (by rw [hf]; rfl)
    | false =>
     refine put2 H3 2 _ hk3 hp3 (.inr (.inr ⟨rfl,hf⟩)) fun H4 a b c=>?_
     simp only [Bool.false_eq_true,if_false]
     exact fin H4 2 a b c (by rw [hf]; rfl)
 ·simp only [hv0,if_false]
  refine fin H2 v hk2 (Kp.refl _ _) hld ?_
  rcases hv' with h | ⟨h,hf⟩ | ⟨h,hf⟩
  ·exact absurd h hv0
  ·rw [h,hf]; rfl
  ·rw [h,hf]; rfl
theorem fr_ok (hB:Built L L.length d) (hN:L.length≤4096) (hsm:∀ e,e<L.length→SmN (lowN (ndAt L e))) (hs:RSl L s) (hd:dp≤100) (hM:M=L.length*s.length) (hA:AnyR σ L d s dp):∀ (i:Nat),i<s.length→FrOk σ L d s dp kb M cap i:=by
 intro i
 induction i with
 | zero=>exact fun hi=>fr_step hB hN hsm hs hd hM hA hi (fun j h=>absurd h (by omega))
 | succ i ih =>
  intro hi
  refine fr_step hB hN hsm hs hd hM hA hi fun j h=>?_
  have:j=i:=by omega
  subst this
  exact ih (by omega)
end
end Go.Proofs.YthdcghnjndhecaaGreat.Ev
namespace Go.Proofs.YthdcghnjndhecaaGreat.Ev
set_option linter.unusedVariables false
set_option linter.unusedSimpArgs false
variable {σ:Sig} {L:List Nd} {d:List Nat}
def RsOk:Nat→List Sl→Prop
 | 0,_=>False
 | f+1,l=>l.length≤reachBytes∧∀ s ∈ l,s.length≤50∧∀ p ∈ s,RcOk p.c∧∀ q ∈ p.c.pseudos,(i64 q.a∧i64 q.b)∧((q.kind=7∨q.kind=8)→RsOk f q.list)
def frB (L:List Nd) (s:Sl) (e:Nat):Bool:=!decide (s.length=0)&&frontB (AA L) L s (s.length - 1) e
theorem rsel_ok (hB:Built L L.length d) (hN:L.length≤4096) (hsm:∀ e,e<L.length→SmN (lowN (ndAt L e))) {s:Sl} (hs:RSl L s) {dp:Nat} (hd:dp≤100) (hA:AnyR σ L d s dp) {e:Int} (H:Hp) :
  Good Tryz.prog σ n_ref9_Tree_selector [refT L d,I e,.agg (encSl s),I (dp:Int)] H (Bo (decide (0≤e)&&decide (e<L.length)&&frB L s e.toNat)) H:=by
 refine good_by (fun K hK=>ref9_Tree_selector.run ?_) (by simp [noIds,noId,noId_refT,noId_Sl]) rfl H
 simp only [boxK_agg]
 refine callK_of (ris_ok L d e _) ?_
 simp only [u_not,bnd_some,ifB_lit]
 cases hin:(decide (0≤e)&&decide (e<L.length)) with
 | false=>rw [hin] at hK; simpa using hK _
 | true =>
 rw [hin] at hK
 simp only [Bool.true_and] at hK
 simp only [Bool.and_eq_true,decide_eq_true_eq] at hin
 obtain ⟨en,rfl⟩:∃ en:Nat,e=(en:Int):=⟨e.toNat,by omega⟩
 have he:en<L.length:=by omega
 rw [Int.toNat_natCast] at hK
 obtain ⟨H2,hH2⟩:∃ H2,H2=Hp.empty.new (.cells (encSl s) true):=⟨_,rfl⟩
 have h1:H2.get Hp.empty.n=some (.cells (encSl s) true):=by rw [hH2]; simp
 have hlt:Hp.empty.n<H2.n:=by rw [hH2]; simp
 rw [← hH2]
 generalize Hp.empty.n=b1 at h1 hlt ⊢
 have hl0:ldA false 1 H2 (.ptr b1 0)=some (.imm 6 (s.map encPt)):=by simp [h1,encSl]
 simp only [Bool.not_true,Bool.false_eq_true,if_false,sh_ptr,Nat.zero_add,bnd_some,hl0,len_imm,List.length_map,b_eql,ifB_lit,decide_eq_true_eq]
 split
 ·rename_i h0
  have h0':s.length=0:=by omega
  have:frB L s en=false:=by unfold frB; simp [h0']
  rw [this] at hK
  exact hK _
 rename_i h0
 have h0':¬ s.length=0:=by omega
 have hl50:=hs.len
 have hmul:L.length*s.length≤4096*50:=Nat.mul_le_mul hN hl50
 have e1:wr .i64 ((L.length:Int)*(s.length:Int))=((L.length*s.length:Nat):Int):=by
  have:(L.length:Int)*(s.length:Int)=((L.length*s.length:Nat):Int):=by simp
  rw [this,wr64 (by omega) (by omega)]
 obtain ⟨M,hM⟩:∃ M,M=L.length*s.length:=⟨_,rfl⟩
 rw [← hM] at e1 hmul
 have e3:mkSlR [.int .i64 0] 1 8 H2 (I (M:Int)) (I (M:Int))=some (.sl H2.n 0 1 M (some M),H2.new (.cells (zrow [.int .i64 0] (M*1)) true)):=by
  have a:(0:Int)≤M:=by omega
  have b:M≤9223372036854775807:=by omega
  have c:8*M≤281474976710656:=by omega
  simp [mkSlR,intA,a,bleN,b,c]
 simp only [rnilp,rsh,rld,rlen,bnd_some,b_mul,e1,e3]
 have g1:ldA true 1 (H2.new (.cells (zrow [.int .i64 0] (M*1)) true)) (.ptr b1 0)=some (.agg (encSl s)):=by
  have:b1≠H2.n:=by omega
  simp [this,h1]
 have g0:ldA false 1 (H2.new (.cells (zrow [.int .i64 0] (M*1)) true)) (.ptr b1 0)=some (.imm 6 (s.map encPt)):=by
  have:b1≠H2.n:=by omega
  simp [this,h1,encSl]
 simp only [g1,g0,bnd_some,len_imm,List.length_map]
 have hkn:Kn L s H2.n M (H2.new (.cells (zrow [.int .i64 0] (M*1)) true)):=by
  refine ⟨by simp,_,by simp; rfl,by simp [zrow],fun e k he hk=>⟨0,?_,.inl rfl⟩⟩
  have h2:(e+1)*s.length≤L.length*s.length:=Nat.mul_le_mul_right _ he
  rw [Nat.succ_mul] at h2
  have h3:e*s.length+k<M:=by omega
  unfold zrow
  rw [List.getElem?_map,List.getElem?_range (by omega)]
  simp [Nat.mod_one]
 have hn1:(s.length:Int)=((s.length - 1+1:Nat):Int):=by omega
 rw [hn1]
 refine fr_ok hB hN hsm hs hd hM hA (s.length - 1) (by omega) en _ _ he hkn fun H4 _ _=>?_
 have:frB L s en=frontB (AA L) L s (s.length - 1) en:=by unfold frB; simp [h0']
 rw [← this]
 exact hK _
section
attribute [local irreducible] ref9_Tree_any.L0
theorem rany_ok (hB:Built L L.length d) (hN:L.length≤4096) (hsm:∀ e,e<L.length→SmN (lowN (ndAt L e))):∀ (f:Nat) (l:List Sl) (dp:Nat),f≤12→RsOk f l→Nest f l→dp+f≤100 →
  (∀ s ∈ l,RSl L s∧AnyR σ L d s dp)∧∀ (e:Nat) (H:Hp),e<L.length→Good Tryz.prog σ n_ref9_Tree_any [refT L d,I (e:Int),sls l,I (dp:Int)] H (Bo (AA L l e)) H:=by
 intro f
 induction f with
 | zero=>intro l dp _ h; exact h.elim
 | succ f ih =>
  intro l dp hf hl hn hd
  have hb:∀ s ∈ l,RSl L s∧AnyR σ L d s dp:=by
   intro s hs
   have h1:=hl.2 s hs
   refine ⟨⟨h1.1,fun p hp=>(h1.2 p hp).1,fun p hp q hq=>((h1.2 p hp).2 q hq).1⟩,fun p hp q hq hk e H he=>?_⟩
   exact (ih q.list (dp+1) (by omega) (((h1.2 p hp).2 q hq).2 hk) (hn s hs p hp q hq) (by omega)).2 e H he
  refine ⟨hb,fun e H he=>?_⟩
  refine good_by (fun K hK=>ref9_Tree_any.run ?_) (by simp [noIds,noId,noId_refT,noId_sls]) rfl H
  rw [← AA_eq hn hf] at hK
  have L0:∀ (k m:Nat) (H:Hp),l.length - m=k→m≤l.length→(∀ H,K (Bo ((l.drop m).any fun s=>frB L s e)) H)→ref9_Tree_any.L0 σ K (refT L d) (I (e:Int)) (sls l) (I (dp:Int)) (I (m:Int)) H:=by
   intro k
   induction k with
   | zero =>
    intro m H hk hm hK
    have:m=l.length:=by omega
    subst this
    refine ref9_Tree_any.L0_step ?_
    simp
    simpa using hK H
   | succ k ihk =>
    intro m H hk hm hK
    have hlt:m<l.length:=by omega
    obtain ⟨s,hs⟩:=get_lt hlt
    rw [drop_get hs,List.any_cons] at hK
    have hlt':(m:Int)<l.length:=by omega
    have hix:ixaSl 1 (sls l) (I (m:Int))=some (.ip (encSl s)):=ix_map hs
    refine ref9_Tree_any.L0_step ?_
    simp only [len_sls,bnd_some,b_lss,hlt',decide_true,ifB_lit,if_true,hix,ld_ip,ldL_sl]
    have h1:=hb s (List.mem_of_getElem? hs)
    refine callK_of (rsel_ok hB hN hsm h1.1 (by omega) h1.2 _) ?_
    have i1:(0:Int)≤(e:Int):=by omega
    have i2:(e:Int)<(L.length:Int):=by omega
    simp only [i1,i2,decide_true,Bool.and_self,Bool.true_and,Int.toNat_natCast]
    cases hb:frB L s e with
    | true=>rw [hb] at hK; simpa using hK H
    | false =>
     rw [hb] at hK
     simp only [ifB_lit,Bool.false_eq_true,if_false,b_add,bnd_some]
     rw [wr_succL hlt hl.1 (by decide)]
     exact ihk (m+1) H (by omega) (by omega) (by simpa using hK)
  exact L0 _ 0 _ rfl (Nat.zero_le _) hK
end
end Go.Proofs.YthdcghnjndhecaaGreat.Ev
