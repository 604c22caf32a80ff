/- The walks, part 6: the evaluator, the functions, the laws. Conditions: none. -/
import Derived.Test.YthmaggcfghjmfaaZ5
namespace Go.Proofs.Ythmaggcfghjmfaa.Ev
set_option linter.unusedVariables false
set_option linter.unusedSimpArgs false
variable {σ:Sig}
structure SmN (n:Nd):Prop where
 classes:n.classes.length≤reachBytes
 attrs:n.attrs.length≤reachBytes
 texts:∀ p ∈ n.attrs,p.2.data.size<4294967281
structure rv (c:Cp):Prop where
 ids:c.ids.length≤reachBytes
 classes:c.classes.length≤reachBytes
 attrs:c.attrs.length≤reachBytes
 texts:∀ a ∈ c.attrs,CS a
 ps:c.pseudos.length≤reachBytes
def xM (n:Nd) (c:Cp):Bool:=decide (c.tag=emp)||decide (c.tag=n.tag)
def idB (n:Nd) (x:ByteArray):Bool:=!decide (x=emp)&&decide (x=n.id)
def pT (n:Nd) (c:Cp):Bool:=xM n c&&(c.ids.all (idB n)&&(c.classes.all (rO n.classes)&&c.attrs.all (jD n.attrs)))
section
attribute [local irreducible] ay.L0 ay.L1 ay.L2
theorem Cv (hC:mK σ) {n:Nd} (hn:SmN n) {c:Cp} (hc:rv c) {K:AV→Hp→Prop} {b7:Nat} {y5 y31 y32 y33 y47 y48 y49:AV}:∀ (m k:Nat) (H:Hp),c.attrs.length - m=k→m≤c.attrs.length→b7<H.n→H.get b7=some (.cells (bz n) true)→(∀ H,K (Bo ((c.attrs.drop m).all (jD n.attrs))) H) →
  ay.L2 σ K y5 (.ptr b7 0) y31 y32 y33 y47 y48 y49 (.imm 3 (c.attrs.map bR)) (I c.attrs.length) (I m) H:=by
 intro m k
 revert m
 induction k with
 | zero =>
  intro m H hk hm hb hg hK
  have:m=c.attrs.length:=by omega
  subst this
  refine ay.L2_step ?_
  simp
  simpa using hK H
 | succ k ih =>
  intro m H hk hm hb hg hK
  have hlt:m<c.attrs.length:=by omega
  obtain ⟨x,hx⟩:=cb hlt
  rw [cN hx] at hK
  have h1:(m:Int)<c.attrs.length:=by omega
  have hny:b7≠H.n:=by omega
  refine ay.L2_step ?_
  simp only [b8,h1,decide_true,aa,aj,if_true,cd hx,fJ,HI,bl]
  simp [bR,hny,hg,aS]
  have e1:ldL true 3 [Sx x.name,I x.op,Sx x.text]=some (.agg (bR x)):=rfl
  rw [e1,aa]
  refine aw (DE hC n hn.attrs hn.texts x (hc.texts x (List.mem_of_getElem? hx)) _) ?_
  simp only [ep,aa,aj]
  cases hb2:jD n.attrs x with
  | false =>
   simp
   simp [hb2] at hK
   exact hK _
  | true =>
   simp
   rw [dX hlt hc.attrs (by decide)]
   refine ih (m+1) _ (by omega) (by omega) (by simp; omega) (by simp [hny,hg]) fun H'=>?_
   simp [hb2] at hK
   simpa using hK H'
theorem Ce (hC:mK σ) {n:Nd} (hn:SmN n) {c:Cp} (hc:rv c) {K:AV→Hp→Prop} {b5 b7:Nat} {y31 y32 y33 y60 y61 y62:AV}:∀ (m k:Nat) (H:Hp),c.classes.length - m=k→m≤c.classes.length→b7<H.n→H.get b7=some (.cells (bz n) true)→H.get b5=some (.cells (bZ c) true)→(∀ H,K (Bo ((c.classes.drop m).all (rO n.classes)&&c.attrs.all (jD n.attrs))) H) →
  ay.L1 σ K (.ptr b5 0) (.ptr b7 0) y31 y32 y33 (dY c.classes) (I c.classes.length) (I m) y60 y61 y62 H:=by
 intro m k
 revert m
 induction k with
 | zero =>
  intro m H hk hm hb hg hg5 hK
  have:m=c.classes.length:=by omega
  subst this
  refine ay.L1_step ?_
  simp [hg5]
  exact Cv hC hn hc 0 _ H rfl (Nat.zero_le _) hb hg (by simpa using hK)
 | succ k ih =>
  intro m H hk hm hb hg hg5 hK
  have hlt:m<c.classes.length:=by omega
  obtain ⟨x,hx⟩:=cb hlt
  rw [cN hx] at hK
  refine ay.L1_step ?_
  have h1:(m:Int)<c.classes.length:=by omega
  simp [h1,dY,cd hx,hg]
  refine aw (Hu n.classes hn.classes x _) ?_
  simp only [ep,aa,aj]
  cases hb2:rO n.classes x with
  | false =>
   simp
   simp [hb2] at hK
   exact hK _
  | true =>
   simp
   rw [dX hlt hc.classes (by decide)]
   refine ih (m+1) _ (by omega) (by omega) hb hg hg5 fun H'=>?_
   simp [hb2] at hK
   simpa using hK H'
theorem B2 (hC:mK σ) {n:Nd} (hn:SmN n) {c:Cp} (hc:rv c) {K:AV→Hp→Prop} {b5 b7:Nat} {y47 y48 y49 y60 y61 y62:AV}:∀ (m k:Nat) (H:Hp),c.ids.length - m=k→m≤c.ids.length→b7<H.n→H.get b7=some (.cells (bz n) true)→H.get b5=some (.cells (bZ c) true)→(∀ H,K (Bo ((c.ids.drop m).all (idB n)&&(c.classes.all (rO n.classes)&&c.attrs.all (jD n.attrs)))) H) →
  ay.L0 σ K (.ptr b5 0) (.ptr b7 0) (dY c.ids) (I c.ids.length) (I m) y47 y48 y49 y60 y61 y62 H:=by
 intro m k
 revert m
 induction k with
 | zero =>
  intro m H hk hm hb hg hg5 hK
  have:m=c.ids.length:=by omega
  subst this
  refine ay.L0_step ?_
  simp [hg5]
  exact Ce hC hn hc 0 _ H rfl (Nat.zero_le _) hb hg hg5 (by simpa using hK)
 | succ k ih =>
  intro m H hk hm hb hg hg5 hK
  have hlt:m<c.ids.length:=by omega
  obtain ⟨x,hx⟩:=cb hlt
  rw [cN hx] at hK
  refine ay.L0_step ?_
  have h1:(m:Int)<c.ids.length:=by omega
  simp [h1,dY,cd hx,hg]
  split
  ·rename_i h
   have h':x=emp:=h
   simp [idB,h'] at hK
   exact hK _
  ·rename_i h
   have h':¬ (x=emp):=h
   split
   ·rename_i h2
    have h3:idB n x=true:=by simp [idB,h',← h2]
    simp [h3] at hK
    rw [dX hlt hc.ids (by decide)]
    exact ih (m+1) _ (by omega) (by omega) hb hg hg5 fun H'=>by simpa using hK H'
   ·rename_i h2
    simp [idB,h',h2] at hK
    exact hK _
end
theorem ye (hC:mK σ) {L:List Nd} {d:List Nat} (hN:L.length≤4096) {e:Nat} (he:e<L.length) (hn:SmN (cg (cQ L e))) {c:Cp} (hc:rv c) (r:List AV) (hr:aU r=true) (H:Hp) :
  aH Try.prog σ d9 [.ip (dw L d::r),I (e:Int),.agg (bZ c)] H (Bo (pT (cg (cQ L e)) c)) H:=by
 refine bP (fun K hK=>ay.run ?_) (by simp [aU,bQ,cq,oE,hr]) rfl H
 simp
 refine aw (Ec L d hN he _) ?_
 have hgo:∀ H b5 b7,b7<H.n→H.get b7=some (.cells (bz (cg (cQ L e))) true)→H.get b5=some (.cells (bZ c) true)→xM (cg (cQ L e)) c=true→ay.L0 σ K (.ptr b5 0) (.ptr b7 0) (dY c.ids) (I c.ids.length) (I 0) (.lit undef) (.lit undef) (.lit undef) (.lit undef) (.lit undef) (.lit undef) H:=by
  intro H b5 b7 hb hg hg5 ht
  unfold pT at hK
  rw [ht,Bool.true_and] at hK
  exact B2 hC hn hc 0 _ H rfl (Nat.zero_le _) hb hg hg5 (by simpa using hK)
 have hov:bM [I 0,Sx ⟨#[]⟩,Sx ⟨#[]⟩,.lit (.slice none 0 0),.lit (.slice none 0 0)] 0 (bz (cg (cQ L e)))=bz (cg (cQ L e)):=aS (by simp)
 simp [hov]
 split
 ·rename_i h
  exact hgo _ _ _ (by simp) (by simp) (by simp) (by simp [xM,show c.tag=emp from h])
 ·rename_i h
  have h':¬ (c.tag=emp):=h
  split
  ·rename_i h2
   refine hgo _ _ _ (by simp) (by simp) (by simp) ?_
   simp [xM,h2]
  ·rename_i h2
   have:xM (cg (cQ L e)) c=false:=by simp [xM,h',h2]
   unfold pT at hK
   rw [this,Bool.false_and] at hK
   exact hK _
def GN (p a b:Int):Bool:=if a=0 then decide (p=b) else if 0<a then decide (b≤p)&&decide ((p - b) % a=0) else decide (p≤b)&&decide ((b - p) % (-a)=0)
theorem wrU (n:Int):wr .u64 n=n % 18446744073709551616:=by
 unfold wr
 simp [IntKind.wrap,IntKind.signed,IntKind.bits]
theorem IA {n:Int} (h0:0≤n) (h1:n<18446744073709551616):wr .u64 n=n:=by rw [wrU]; omega
theorem Jz (a b:Int):wr .u64 (wr .u64 a - wr .u64 b)=(a - b) % 18446744073709551616:=by
 rw [wrU,wrU,wrU]
 omega
theorem G0 {p a b:Int} (hp:i64 p) (ha:i64 a) (hb:i64 b) (H:Hp):aH Try.prog σ jg [I p,I a,I b] H (Bo (GN p a b)) H:=by
 refine bP (fun K hK=>nc.run ?_) (by simp [aU,bQ]) rfl H
 unfold i64 at hp ha hb
 unfold GN at hK
 simp
 split
 ·rename_i h
  rw [if_pos h] at hK
  exact hK _
 rename_i h0
 rw [if_neg h0] at hK
 split
 ·rename_i h1
  rw [if_pos h1] at hK
  split
  ·rename_i h2
   have e1:wr .u64 a=a:=IA (by omega) (by omega)
   have e2:(p - b) % 18446744073709551616=p - b:=by omega
   rw [Jz,e1,e2,FS _ _ _ h0,aa,bT,aa]
   have e3:(p - b).tmod a=(p - b) % a:=Int.tmod_eq_emod_of_nonneg (by omega)
   rw [e3]
   simpa [h2] using hK Hp.empty
  ·rename_i h2
   simpa [h2] using hK Hp.empty
 ·rename_i h1
  rw [if_neg h1] at hK
  split
  ·rename_i h2
   have e1:wr .u64 (-wr .u64 a)=-a:=by rw [wrU,wrU]; omega
   have e2:(b - p) % 18446744073709551616=b - p:=by omega
   have h3:(-a)≠0:=by omega
   rw [Jz,e2]
   rw [e1,FS _ _ _ h3,aa,bT,aa]
   have e3:(b - p).tmod (-a)=(b - p) % (-a):=Int.tmod_eq_emod_of_nonneg (by omega)
   rw [e3]
   simpa [h2] using hK Hp.empty
  ·rename_i h2
   simpa [h2] using hK Hp.empty
theorem BR (L:List Nd) (e:Nat):(oT L e).length≤e:=by
 have:=List.length_filter_le (fun j:Nat=>decide (0<j)&&decide (par L j=par L e)) (List.range e)
 simp at this
 unfold oT; omega
theorem ta (L:List Nd) (e:Nat):1≤cS L e∧cS L e≤(e:Int)+1:=by
 have:=BR L e
 unfold cS; omega
theorem tS {L:List Nd} {d:List Nat} (hB:db L L.length d) (hN:L.length≤4096) {e:Nat} (he:e<L.length) (r:List AV) (hr:aU r=true) (H:Hp):aH Try.prog σ dJ [.ip (dw L d::r),I (e:Int)] H (Bo (wb L e)) H:=by
 refine bP (fun K hK=>gE.run ?_) (by simp [aU,bQ,cq,hr]) rfl H
 simp
 refine aw (nG L d hN he _) ?_
 simp
 unfold wb at hK
 split
 ·rename_i h
  simpa [h] using hK Hp.empty
 ·rename_i h
  refine aw (mi L d hN he _) ?_
  rcases sj hB he with h1 | ⟨p,h1,h2⟩
  ·omega
  ·have hpl:=ta L e
   obtain ⟨k,hk⟩:∃ k:Nat,cS L e=k:=⟨(cS L e).toNat,by omega⟩
   rw [h1,hk] at hK ⊢
   refine aw (sO L d hN (by omega) _) ?_
   have h3:¬ ((p:Int)<0):=by omega
   simp
   simpa [h3] using hK Hp.empty
def cH (L:List Nd) (e:Nat) (k:Int):Int:=if k=1∨k=2 then par L e else if k=3∨k=4 then iG L e else -1
def lL (k:Int):Bool:=decide (k=1)||decide (k=4)
theorem wL {L:List Nd} {d:List Nat} (hN:L.length≤4096) {e:Nat} (he:e<L.length) (k:Int) (r:List AV) (hr:aU r=true) (H:Hp):aH Try.prog σ dV [.ip (dw L d::r),I (e:Int),I k] H (.tup [I (cH L e k),Bo (lL k)]) H:=by
 refine bP (fun K hK=>aP.run ?_) (by simp [aU,bQ,cq,hr]) (by simp [fD,gP]) H
 have j0:∀ (b:Bool) (H:Hp),(b=true→k=1∨k=2)→(b=false→¬ (k=1∨k=2))→aP.J0 σ K (.ip (dw L d::r)) (I (e:Int)) (I k) (I k) (Bo b) (.lit undef) H:=by
  intro b H h1 h2
  refine aP.J0_step ?_
  cases b with
  | true =>
   have h:=h1 rfl
   simp
   refine aw (nG L d hN he _) ?_
   have h4:¬ (k=4):=by omega
   simpa [cH,lL,h,h4] using hK H
  | false =>
   have h:=h2 rfl
   have j1:∀ (c:Bool),(c=true→k=3∨k=4)→(c=false→¬ (k=3∨k=4))→aP.J1 σ K (.ip (dw L d::r)) (I (e:Int)) (I k) (I k) (Bo false) (Bo c) H:=by
    intro c h3 h4
    refine aP.J1_step ?_
    have h5:¬ (k=1):=by omega
    cases c with
    | true =>
     have h6:=h3 rfl
     simp
     refine aw (wn L d hN he _) ?_
     have h7:cH L e k=iG L e:=by unfold cH; rw [if_neg h,if_pos h6]
     have h8:lL k=decide (k=4):=by unfold lL; simp [h5]
     rw [h7,h8] at hK
     exact hK H
    | false =>
     have h6:=h4 rfl
     have h7:cH L e k=-1:=by unfold cH; rw [if_neg h,if_neg h6]
     have h8:lL k=false:=by unfold lL; simp; omega
     rw [h7,h8] at hK
     exact hK H
   simp
   split
   ·rename_i h3
    exact j1 (decide (k=3)) (fun _=>.inl h3) (fun h=>by simp [h3] at h)
   ·rename_i h3
    refine j1 _ (fun h=>.inr (by simpa using h)) (fun h=>?_)
    simp at h
    omega
 simp
 split
 ·rename_i h
  exact j0 (decide (k=1)) _ (fun _=>.inl h) (fun h'=>by simp [h] at h')
 ·rename_i h
  refine j0 _ _ (fun h=>.inr (by simpa using h)) (fun h'=>?_)
  simp at h'
  omega
end Go.Proofs.Ythmaggcfghjmfaa.Ev
namespace Go.Proofs.Ythmaggcfghjmfaa.Ev
set_option linter.unusedVariables false
set_option linter.unusedSimpArgs false
variable {σ:Sig}
structure Lk where
 part:Pt
 lists:List (List Nat)
def qk (n:Nat):List AV:=[I (n:Int)]
def kI (l:List Nat):AV:=.imm 1 (l.map qk)
def dE (x:Lk):List AV:=aZ x.part++[.imm 1 (x.lists.map fun l=>[kI l])]
def h_ (c:List Lk):AV:=.imm 7 (c.map dE)
theorem qH (l:List Nat):bQ (kI l)=true:=by unfold kI; simp only [bQ]; exact a_ _ (fun _=>rfl) _
theorem Eh (x:Lk):aU (dE x)=true:=by
 unfold dE
 exact nQ (oN _) (by simp only [aU,bQ,a_ _ (show ∀ l,aU [kI l]=true from fun l=>by simp [aU,qH]),Bool.and_self])
@[simp] theorem G6 (x:Lk):(dE x).length=7:=by simp [dE]
def jF (n i e:Nat) (a:Bool):List AV:=[I (n:Int),I (i:Int),I (e:Int),Bo a]
abbrev qKK:List KK:=[.int .i64,.int .i64,.int .i64,.bool]
theorem Ak {n i e n' i' e':Nat} {a a':Bool} (h:jF n i e a=jF n' i' e' a'):n=n'∧i=i'∧e=e'∧a=a':=by
 simp only [jF,List.cons.injEq,AV.lit.injEq,Value.int.injEq,Value.bool.injEq,true_and,and_true] at h
 exact ⟨by omega,by omega,by omega,h.2.2.2⟩
def kV (N:Nat) (T:Nat→Nat→Nat→Bool→Bool) (es:List (AV × AV)):Prop:=∀ p ∈ es,∃ n i e a,n<N∧p=(.agg (jF n i e a),Bo (T n i e a))∧kOk true qKK p.1=true
theorem rf {N:Nat} {T:Nat→Nat→Nat→Bool→Bool}:∀ {es:List (AV × AV)},kV N T es→∀ n i e a,iH (.agg (jF n i e a)) es=none∨iH (.agg (jF n i e a)) es=some (Bo (T n i e a))
 | [],_,n,i,e,a=>.inl rfl
 | (x,y)::r,h,n,i,e,a=>by
  obtain ⟨n',i',e',a',_,hp,_⟩:=h (x,y) (by simp)
  cases hp
  unfold iH
  by_cases he:AV.agg (jF n' i' e' a')=.agg (jF n i e a)
  ·rw [if_pos he]
   obtain ⟨rfl,rfl,rfl,rfl⟩:=Ak (AV.agg.inj he)
   exact .inr rfl
  ·rw [if_neg he]
   exact rf (fun p hp=>h p (by simp [hp])) n i e a
theorem tz {N:Nat} {T:Nat→Nat→Nat→Bool→Bool} {n i e:Nat} {a:Bool} (hnN:n<N) (hk:kOk true qKK (.agg (jF n i e a))=true):∀ {es:List (AV × AV)},kV N T es→kV N T (md (.agg (jF n i e a)) (Bo (T n i e a)) es)
 | [],_=>fun p hp=>by
  simp [md] at hp
  subst hp
  exact ⟨n,i,e,a,hnN,rfl,hk⟩
 | (x,y)::r,h=>by
  obtain ⟨n',i',e',a',hn',hp,hk'⟩:=h (x,y) (by simp)
  cases hp
  unfold md
  by_cases he:AV.agg (jF n' i' e' a')=.agg (jF n i e a)
  ·rw [if_pos he]
   intro p hp
   rcases List.mem_cons.1 hp with rfl | hp
   ·exact ⟨n,i,e,a,hnN,by rw [he],by rw [he]; exact hk⟩
   ·exact h p (by simp [hp])
  ·rw [if_neg he]
   intro p hp
   rcases List.mem_cons.1 hp with rfl | hp
   ·exact ⟨n',i',e',a',hn',rfl,hk'⟩
   ·exact tz hnN hk (fun p hp=>h p (by simp [hp])) p hp
theorem sY {N:Nat} {T:Nat→Nat→Nat→Bool→Bool} {es:List (AV × AV)} (h:kV N T es):es.all (fun p=>kOk true qKK p.1)=true:=by
 rw [List.all_eq_true]
 intro p hp
 obtain ⟨n,i,e,a,_,_,hk⟩:=h p hp
 exact hk
structure gm (t:AV) (C:List (List Lk)) (T:Nat→Nat→Nat→Bool→Bool) (ab mb:Nat) (cs:AV) (H:Hp):Prop where
 gab:H.get ab=some (.cells [t,cs,.mp mb] true)
 nab:ab<H.n
 nmb:mb<H.n
 ne:ab≠mb
 gcs:Gs 1 H cs (C.map fun c=>[h_ c])
 csm:¬ own cs mb
 memo:∃ es,H.get mb=some (.map es)∧kV C.length T es
structure Kp (mb:Nat) (H H':Hp):Prop where
 up:H.n≤H'.n
 get:∀ (j:Nat),j<H.n→j≠mb→H'.get j=H.get j
theorem Kp.refl (mb:Nat) (H:Hp):Kp mb H H:=⟨Nat.le_refl _,fun _ _ _=>rfl⟩
theorem Kp.trans {mb:Nat} {H H1 H2:Hp} (h:Kp mb H H1) (k:Kp mb H1 H2):Kp mb H H2:=⟨Nat.le_trans h.up k.up,fun j hj hne=>by rw [k.get j (Nat.lt_of_lt_of_le hj h.up) hne,h.get j hj hne]⟩
theorem Kp.new (mb:Nat) (H:Hp) (b:Blk):Kp mb H (H.new b):=by
 refine ⟨by simp,fun j hj _=>?_⟩
 have:j≠H.n:=by omega
 simp [this]
theorem Kp.setN {mb:Nat} {H H':Hp} (h:Kp mb H H') {j:Nat} (hj:H.n≤j) (b:Option Blk):Kp mb H (H'.set j b):=by
 refine ⟨by simpa using h.up,fun i hi hne=>?_⟩
 have:i≠j:=by omega
 simp [this]; exact h.get i hi hne
theorem gm.keep {t:AV} {C:List (List Lk)} {T:Nat→Nat→Nat→Bool→Bool} {ab mb:Nat} {cs:AV} {H H':Hp} (h:gm t C T ab mb cs H) (hn:H.n≤H'.n) (hg:∀ j,j<H.n→H'.get j=H.get j):gm t C T ab mb cs H':=by
 obtain ⟨es,he,hm⟩:=h.memo
 exact ⟨by rw [hg _ h.nab]; exact h.gab,Nat.lt_of_lt_of_le h.nab hn,Nat.lt_of_lt_of_le h.nmb hn,h.ne,h.gcs.keep (fun j hj=>hg j (h.gcs.lt hj)) hn,h.csm,es,by rw [hg _ h.nmb]; exact he,hm⟩
theorem gm.new {t:AV} {C:List (List Lk)} {T:Nat→Nat→Nat→Bool→Bool} {ab mb:Nat} {cs:AV} {H:Hp} (h:gm t C T ab mb cs H) (b:Blk):gm t C T ab mb cs (H.new b):=by
 refine h.keep (by simp) fun j hj=>?_
 have:j≠H.n:=by omega
 simp [this]
theorem gm.setN {t:AV} {C:List (List Lk)} {T:Nat→Nat→Nat→Bool→Bool} {ab mb:Nat} {cs:AV} {H0 H:Hp} (h0:gm t C T ab mb cs H0) (h:gm t C T ab mb cs H) {j:Nat} (hj:H0.n≤j) (b:Option Blk):gm t C T ab mb cs (H.set j b):=by
 obtain ⟨es,he,hm⟩:=h.memo
 have a1:=h0.nab
 have a2:=h0.nmb
 have e1:ab≠j:=by omega
 have e2:mb≠j:=by omega
 refine ⟨by simp [e1,h.gab],by simpa using h.nab,by simpa using h.nmb,h.ne,h.gcs.keep (fun i hi=>?_) (by simp),h.csm,es,by simp [e2,he],hm⟩
 have:=h0.gcs.lt hi
 have:i≠j:=by omega
 simp [this]
theorem gm.pure {L:List Nd} {d:List Nat} {C:List (List Lk)} {T:Nat→Nat→Nat→Bool→Bool} {ab mb:Nat} {cs:AV} {H:Hp} (h:gm (dw L d) C T ab mb cs H) {f:Nat} {xs:List AV} {r:AV}
  (hg:aH Try.prog σ f (.ip (dw L d::[])::xs) Hp.empty r Hp.empty) (hx:aU xs=true) (hr:fD r=true):aH Try.prog σ f (.ptr ab 0::xs) H r H:=by
 refine hg.frzA (.cons (.ptr (fun _=>dw L d) h.gab (fun j y hj=>?_) (fun j y hj=>?_)) (FzL.refl hx)) hr
 ·have:j=0:=by have:=(List.getElem?_eq_some_iff.1 hj).1; simp at this; omega
  subst this; simp
 ·have:j=0:=by have:=(List.getElem?_eq_some_iff.1 hj).1; simp at this; omega
  subst this
  simp at hj; subst hj
  exact .refl (cq L d)
theorem vI {t:AV} {C:List (List Lk)} {T:Nat→Nat→Nat→Bool→Bool} {ab mb:Nat} {cs:AV} {H:Hp} (h:gm t C T ab mb cs H) {n i e:Nat} {a:Bool} (hnN:n<C.length) (hk:kOk true qKK (.agg (jF n i e a))=true) {fv:AV} {K:AV→Hp→Prop}
  (how:∀ H1 (K1:AV→Hp→Prop),gm t C T ab mb cs H1→Kp mb H H1→(∀ H2,gm t C T ab mb cs H2→Kp mb H1 H2→K1 (Bo (T n i e a)) H2)→jj Try.prog σ fv [] H1 K1)
  (hK:∀ H',gm t C T ab mb cs H'→Kp mb H H'→K (Bo (T n i e a)) H'):ai Try.prog σ dP [.ptr ab 0,.agg (jF n i e a),fv] H K:=by
 obtain ⟨es,hes,hm⟩:=h.memo
 have e1:ab≠H.n:=by have:=h.nab; omega
 have e2:mb≠H.n:=by have:=h.nmb; omega
 refine gD.run ?_
 have hl:ldL true 4 (jF n i e a)=some (.agg (jF n i e a)):=rfl
 simp only [iM,fw,aa,bx,Nat.zero_add,bA,az,e1,if_false,if_true,h.gab,bK,List.drop_zero,hl]
 simp only [List.drop,jb,aa,pz,az,e2,if_false,hes,hk,sY hm,Bool.and_self,cond_true]
 rcases rf hm n i e a with hf | hf
 ·rw [hf]
  simp [wD]
  refine how _ _ (h.new _) (Kp.new _ _ _) fun H2 h2 k2=>?_
  obtain ⟨es2,hes2,hm2⟩:=h2.memo
  have hbox:H2.get H.n=some (.cells (jF n i e a) true):=by rw [k2.get H.n (by simp) (Ne.symm e2)]; simp
  simp only [h2.gab,bK,List.drop_succ_cons,List.drop_zero,jb,aa,hbox,hl,A_,hes2,hk,sY hm2,wy,Bool.not_false,Bool.and_self,cond_true]
  refine hK _ ?_ ?_
  ·refine ⟨by simp [h2.ne,h2.gab],by simpa using h2.nab,by simpa using h2.nmb,h2.ne,h2.gcs.keep (fun j hj=>?_) (by simp),h2.csm,_,by simp,tz hnN hk hm2⟩
   have:j≠mb:=fun e=>h2.csm (e ▸ hj)
   simp [this]
  ·have:=(Kp.new mb H (.cells (jF n i e a) true)).trans k2
   exact ⟨by simpa using this.up,fun j hj hne=>by simp [hne]; exact this.get j hj hne⟩
 ·rw [hf]
  simp [wD]
  exact hK _ (h.new _) (Kp.new _ _ _)
end Go.Proofs.Ythmaggcfghjmfaa.Ev
namespace Go.Proofs.Ythmaggcfghjmfaa.Ev
set_option linter.unusedVariables false
set_option linter.unusedSimpArgs false
variable {σ:Sig}
def CT (c:Cp):Prop:=c.ids.length≤5∧c.classes.length≤5∧c.attrs.length≤5∧c.pseudos.length≤5
def nD:Nat→List Sl→Prop
 | 0,_=>False
 | f+1,l=>∀ s ∈ l,s.length≤60∧∀ p ∈ s,CT p.c∧∀ q ∈ p.c.pseudos,nD f q.list
def CN (f:Nat) (s:Sl):Prop:=s.length≤60∧∀ p ∈ s,CT p.c∧∀ q ∈ p.c.pseudos,nD f q.list
def Eg (f:Nat) (p:Pt):Prop:=CT p.c∧∀ q ∈ p.c.pseudos,nD f q.list
def vJ (f:Nat) (l:List Sl) (n:Int):Prop:=0≤n∧n≤200*4 ^ f∧(n≤40→nD f l)
theorem wv (f:Nat) (hf:f≤10) (ih:∀ l,gt cU l→∃ n,(∀ H,aH Try.prog σ dB [sls l,I ((11 - f:Nat):Int)] H (I n) H)∧vJ f l n) (l:List Sl) (hl:gt cU l) :
  ∃ n,(∀ H,aH Try.prog σ dB [sls l,I ((10 - f:Nat):Int)] H (I n) H)∧vJ (f+1) l n:=by
 have h4:4 ^ f ≥ 1:=Nat.one_le_pow _ _ (by omega)
 have h4b:4 ^ f≤1048576:=by
  calc 4 ^ f≤4 ^ 10:=Nat.pow_le_pow_right (by omega) hf
   _=1048576:=by decide
 have hpow:(200*4 ^ (f+1):Int)=800*4 ^ f:=by rw [Int.pow_succ]; omega
 have cast4:((4 ^ f:Nat):Int)=(4:Int) ^ f:=by simp
 let K:AV→Hp→Prop:=fun r _=>∃ n,r=I n∧vJ (f+1) l n
 have stop:∀ H,K (I 100) H:=fun H=>⟨100,rfl,by omega,by rw [hpow]; omega,fun h=>by omega⟩
 have L0:∀ (d k:Nat) (H:Hp) (n:Int) (y7 y8 y9 y10:AV),l.length - k=d→k≤l.length→0≤n→n≤200*4 ^ (f+1)→(n≤40→∀ s ∈ l.take k,CN f s) →
   aG.L0 σ K (sls l) (I ((10 - f:Nat):Int)) (I n) (I k) y7 y8 y9 y10 H:=by
  intro d
  induction d with
  | zero =>
   intro k H n y7 y8 y9 y10 hd hk hn hn2 hfit
   have e:k=l.length:=by omega
   subst e
   refine aG.L0_step ?_
   simp [sls]
   exact ⟨n,rfl,hn,hn2,fun h=>by simpa [nD,CN] using hfit h⟩
  | succ d ihd =>
   intro k H n y7 y8 y9 y10 hd hk hn hn2 hfit
   have hlt:k<l.length:=by omega
   obtain ⟨s,hs⟩:=cb hlt
   have hsw:=hl.2 s (List.mem_of_getElem? hs)
   have htake:∀ (P:Sl→Prop),(∀ x ∈ l.take k,P x)→P s→∀ x ∈ l.take (k+1),P x:=by
    intro P h1 h2 x hx
    rw [List.take_add_one,hs] at hx
    simp only [Option.toList_some,List.mem_append,List.mem_singleton] at hx
    rcases hx with hx | rfl
    ·exact h1 x hx
    ·exact h2
   have L1:∀ (d2 j:Nat) (H:Hp) (n:Int) (y9 y10:AV),s.length - j=d2→j≤s.length→s.length≤60→0≤n→n≤200*4 ^ (f+1)→(n≤40→(∀ s ∈ l.take k,CN f s)∧∀ p ∈ s.take j,Eg f p) →
     aG.L1 σ K (sls l) (I ((10 - f:Nat):Int)) (I n) (I k) (.imm 6 (s.map aZ)) (I j) y9 y10 H:=by
    intro d2
    induction d2 with
    | zero =>
     intro j H n y9 y10 hd2 hj h60 hn hn2 hfit2
     have e:j=s.length:=by omega
     subst e
     refine aG.L1_step ?_
     simp
     rw [dX hlt hl.1]
     exact ihd (k+1) H n _ _ _ _ (by omega) (by omega) hn hn2 fun h=>htake _ (hfit2 h).1 ⟨h60,by simpa [Eg] using (hfit2 h).2⟩
    | succ d2 ihd2 =>
     intro j H n y9 y10 hd2 hj h60 hn hn2 hfit2
     have hjlt:j<s.length:=by omega
     obtain ⟨p,hp⟩:=cb hjlt
     have hpw:=(Pt.wf_iff.1 (hsw.2 p (List.mem_of_getElem? hp))).2
     have htake2:∀ (P:Pt→Prop),(∀ x ∈ s.take j,P x)→P p→∀ x ∈ s.take (j+1),P x:=by
      intro P h1 h2 x hx
      rw [List.take_add_one,hp] at hx
      simp only [Option.toList_some,List.mem_append,List.mem_singleton] at hx
      rcases hx with hx | rfl
      ·exact h1 x hx
      ·exact h2
     have L2:∀ (d3 i:Nat) (H:Hp) (n:Int) (id:Nat),H.get id=some (.cells (bZ p.c) true)→p.c.pseudos.length - i=d3→i≤p.c.pseudos.length→CT p.c→0≤n→n≤200*4 ^ (f+1) →
       (n≤40→(∀ s ∈ l.take k,CN f s)∧(∀ p ∈ s.take j,Eg f p)∧∀ q ∈ p.c.pseudos.take i,nD f q.list) →
       aG.L2 σ K (sls l) (I ((10 - f:Nat):Int)) (I n) (I k) (.imm 6 (s.map aZ)) (I j) (.ptr id 0) (I i) H:=by
      intro d3
      induction d3 with
      | zero =>
       intro i H n id hid hd3 hi hc hn hn2 hfit3
       have e:i=p.c.pseudos.length:=by omega
       subst e
       refine aG.L2_step ?_
       simp [hid,cR]
       rw [dX hjlt hsw.1]
       exact ihd2 (j+1) H n _ _ (by omega) (by omega) h60 hn hn2 fun h=>⟨(hfit3 h).1,htake2 _ (hfit3 h).2.1 ⟨hc,by simpa using (hfit3 h).2.2⟩⟩
      | succ d3 ihd3 =>
       intro i H n id hid hd3 hi hc hn hn2 hfit3
       have hilt:i<p.c.pseudos.length:=by omega
       obtain ⟨q,hq⟩:=cb hilt
       have hqw:=(Ps.wf_iff.1 (hpw.ps q (List.mem_of_getElem? hq))).2.2.2
       obtain ⟨m,hm,hm0,hm1,hm2⟩:=ih q.list hqw
       refine aG.L2_step ?_
       have e1:wr .i64 (((10 - f:Nat):Int)+1)=((11 - f:Nat):Int):=by rw [fe (by omega) (by omega)]; omega
       simp [hid,cR,cd hq,dN,hilt]
       split
       ·rename_i hlt100
        refine aw (by rw [e1]; exact hm H) ?_
        simp only [pG,aa,co]
        have e2:wr .i64 (3*m)=3*m:=fe (by omega) (by omega)
        have e3:wr .i64 (n+3*m)=n+3*m:=fe (by omega) (by omega)
        rw [e2,e3,dX hilt hpw.psL]
        refine ihd3 (i+1) H (n+3*m) id hid (by omega) (by omega) hc (by omega) (by rw [hpow]; omega) fun h=>?_
        have:=hfit3 (by omega)
        refine ⟨this.1,this.2.1,fun x hx=>?_⟩
        rw [List.take_add_one,hq] at hx
        simp only [Option.toList_some,List.mem_append,List.mem_singleton] at hx
        rcases hx with hx | rfl
        ·exact this.2.2 x hx
        ·exact hm2 (by omega)
       ·rw [dX hjlt hsw.1]
        refine ihd2 (j+1) H n _ _ (by omega) (by omega) h60 hn hn2 fun h=>by omega
     refine aG.L1_step ?_
     simp [cd hp,cB,aS,dy,cR,hjlt]
     split
     ·rename_i hlt100
      have e1:wr .i64 (n+1)=n+1:=fe (by omega) (by omega)
      have e2:wr .i64 (n+1+((10 - f:Nat):Int))=n+1+((10 - f:Nat):Int):=fe (by omega) (by omega)
      simp only [e1,e2]
      split
      ·exact stop Hp.empty
      split
      ·exact stop Hp.empty
      split
      ·exact stop Hp.empty
      split
      ·exact stop Hp.empty
      ·refine L2 _ 0 _ _ H.n ?_ rfl (Nat.zero_le _) ⟨by omega,by omega,by omega,by omega⟩ (by omega) (by rw [hpow]; omega) fun h=>?_
       ·simp [cR]
       ·have:=hfit2 (by omega)
        exact ⟨this.1,this.2,fun x hx=>by simp at hx⟩
     ·rw [dX hlt hl.1]
      exact ihd (k+1) H n _ _ _ _ (by omega) (by omega) hn hn2 fun h=>by omega
   refine aG.L0_step ?_
   simp only [sls]
   simp [cd hs,bc,hlt]
   have go:s.length≤60→∀ H,aG.L1 σ K (.imm 1 (l.map bc)) (I ((10 - f:Nat):Int)) (I n) (I k) (.imm 6 (s.map aZ)) (I 0) y9 y10 H :=
    fun h60 H=>L1 _ 0 H n y9 y10 rfl (Nat.zero_le _) h60 hn hn2 fun h=>⟨hfit h,fun x hx=>by simp at hx⟩
   split
   ·split
    ·split
     ·exact stop Hp.empty
     ·split
      ·exact stop Hp.empty
      ·exact go (by omega) _
    ·split
     ·exact stop Hp.empty
     ·exact go (by omega) _
   ·exact ⟨n,rfl,hn,hn2,fun h=>by omega⟩
 have run:∃ r H1,aH Try.prog σ dB [sls l,I ((10 - f:Nat):Int)] Hp.empty r H1∧K r H1:=by
  refine aG.run ?_
  simp
  rw [if_neg (by omega)]
  exact L0 _ 0 _ 0 _ _ _ _ rfl (Nat.zero_le _) (by omega) (by rw [hpow]; omega) fun _ x hx=>by simp at hx
 obtain ⟨r,H1,hg,n,rfl,hd⟩:=run
 exact ⟨n,fun H=>hg.over (by simp [aU,bQ]) rfl H,hd⟩
theorem wj:∀ (f:Nat),f≤11→∀ (l:List Sl),gt cU l→∃ n,(∀ H,aH Try.prog σ dB [sls l,I ((11 - f:Nat):Int)] H (I n) H)∧vJ f l n
 | 0,_,l,hl=>by
  have run:∃ r H1,aH Try.prog σ dB [sls l,I ((11 - 0:Nat):Int)] Hp.empty r H1∧r=I 100:=aG.run (by simp)
  obtain ⟨r,H1,hg,rfl⟩:=run
  exact ⟨100,fun H=>hg.over (by simp [aU,bQ]) rfl H,by omega,by simp,fun h=>by omega⟩
 | f+1,hf,l,hl=>by
  have:=wv f (by omega) (wj f (by omega)) l hl
  rwa [show 10 - f=11 - (f+1) by omega] at this
theorem Dz (l:List Sl) (hl:gt cU l):∃ b,(∀ H,aH Try.prog σ gd [sls l] H (Bo b) H)∧(b=false→nD 11 l):=by
 obtain ⟨n,hn,h0,h1,h2⟩:=wj (σ:=σ) 11 (by omega) l hl
 have run:∃ r H1,aH Try.prog σ gd [sls l] Hp.empty r H1∧r=Bo (decide (40<n)):=by
  refine lK.run (aw (hn _) ?_)
  simp
 obtain ⟨r,H1,hg,rfl⟩:=run
 exact ⟨_,fun H=>hg.over (by simp [aU,bQ]) rfl H,fun h=>h2 (by simpa using h)⟩
end Go.Proofs.Ythmaggcfghjmfaa.Ev
namespace Go.Proofs.Ythmaggcfghjmfaa.Ev
set_option linter.unusedVariables false
set_option linter.unusedSimpArgs false
variable {σ:Sig}
def fj (g:Nat→Bool) (L:List Nd) (k:Int):Nat→Nat→Bool
 | 0,_=>false
 | f+1,e=>decide (0≤cH L e k)&&(g (cH L e k).toNat||(lL k&&fj g L k f (cH L e k).toNat))
def i6 (any:List Sl→Nat→Bool) (L:List Nd) (e:Nat) (q:Ps):Bool :=
 if q.kind=1 then decide (par L e<0) else if q.kind=2 then decide (cS L e=1) else if q.kind=3 then wb L e else if q.kind=4 then decide (cS L e=1)&&wb L e
 else if q.kind=5 then decide (qj L e 0<0) else if q.kind=6 then GN (cS L e) q.a q.b else if q.kind=7 then !any q.list e else if q.kind=8 then any q.list e else false
def lG (any:List Sl→Nat→Bool) (L:List Nd) (e:Nat) (c:Cp):Bool:=pT (cg (cQ L e)) c&&c.pseudos.all (i6 any L e)
def c7 (any:List Sl→Nat→Bool) (L:List Nd) (s:Sl):Nat→Nat→Bool
 | 0,e=>match s[0]? with
  | some p=>lG any L e p.c
  | none=>false
 | i+1,e=>match s[i+1]? with
  | some p=>lG any L e p.c&&fj (c7 any L s i) L p.comb (e+1) e
  | none=>false
def qw (any:List Sl→Nat→Bool) (L:List Nd) (l:List Sl) (e:Nat):Bool:=l.any fun s=>!decide (s.length=0)&&c7 any L s (s.length - 1) e
def uw (L:List Nd):Nat→List Sl→Nat→Bool
 | 0,_,_=>false
 | f+1,l,e=>qw (uw L f) L l e
def lj:Nat→List Sl→Prop
 | 0,_=>False
 | f+1,l=>∀ s ∈ l,∀ p ∈ s,∀ q ∈ p.c.pseudos,lj f q.list
theorem nD.nest:∀ {f:Nat} {l:List Sl},nD f l→lj f l
 | 0,l,h=>h
 | f+1,l,h=>fun s hs p hp q hq=>(((h s hs).2 p hp).2 q hq).nest
theorem n_ {any any':List Sl→Nat→Bool} {L:List Nd} {c:Cp} (h:∀ q ∈ c.pseudos,∀ e,any q.list e=any' q.list e) (e:Nat):lG any L e c=lG any' L e c:=by
 unfold lG
 congr 1
 rw [Bool.eq_iff_iff,List.all_eq_true,List.all_eq_true]
 have:∀ q ∈ c.pseudos,i6 any L e q=i6 any' L e q:=fun q hq=>by unfold i6; rw [h q hq]
 exact ⟨fun h q hq=>by rw [← this q hq]; exact h q hq,fun h q hq=>by rw [this q hq]; exact h q hq⟩
theorem mY {g g':Nat→Bool} {L:List Nd} {k:Int} (h:∀ e,g e=g' e):∀ (f e:Nat),fj g L k f e=fj g' L k f e
 | 0,e=>rfl
 | f+1,e=>by unfold fj; rw [h,mY h f]
theorem mT {any any':List Sl→Nat→Bool} {L:List Nd} {s:Sl} (h:∀ p ∈ s,∀ q ∈ p.c.pseudos,∀ e,any q.list e=any' q.list e):∀ (i e:Nat),c7 any L s i e=c7 any' L s i e
 | 0,e=>by
  unfold c7
  cases hs:s[0]? with
  | none=>rfl
  | some p=>exact n_ (h p (List.mem_of_getElem? hs)) e
 | i+1,e=>by
  unfold c7
  cases hs:s[i+1]? with
  | none=>rfl
  | some p =>
   simp only
   rw [n_ (h p (List.mem_of_getElem? hs)) e,mY (mT h i)]
theorem vg {any any':List Sl→Nat→Bool} {L:List Nd} {l:List Sl} (h:∀ s ∈ l,∀ p ∈ s,∀ q ∈ p.c.pseudos,∀ e,any q.list e=any' q.list e) (e:Nat):qw any L l e=qw any' L l e:=by
 unfold qw
 rw [Bool.eq_iff_iff,List.any_eq_true,List.any_eq_true]
 have:∀ s ∈ l,(!decide (s.length=0)&&c7 any L s (s.length - 1) e)=(!decide (s.length=0)&&c7 any' L s (s.length - 1) e):=fun s hs=>by rw [mT (h s hs)]
 exact ⟨fun ⟨s,hs,h⟩=>⟨s,hs,by rw [← this s hs]; exact h⟩,fun ⟨s,hs,h⟩=>⟨s,hs,by rw [this s hs]; exact h⟩⟩
theorem ny {L:List Nd}:∀ (f g:Nat) (l:List Sl) (e:Nat),lj f l→f≤g→uw L g l e=uw L f l e
 | 0,g,l,e,h,_=>h.elim
 | f+1,0,l,e,h,hfg=>by omega
 | f+1,g+1,l,e,h,hfg=>by
  unfold uw
  exact vg (fun s hs p hp q hq e=>ny f g q.list e (h s hs p hp q hq) (by omega)) e
def AA (L:List Nd):List Sl→Nat→Bool:=uw L 12
theorem FU {L:List Nd} {f:Nat} {l:List Sl} (h:lj f l) (hf:f≤12) (e:Nat):qw (AA L) L l e=AA L l e:=by
 show uw L 13 l e=uw L 12 l e
 rw [ny f 13 l e h (by omega),ny f 12 l e h hf]
def lQ (C:List (List Lk)) (n:Nat):Sl:=(C.getD n []).map (·.part)
def Tru (L:List Nd) (C:List (List Lk)) (n i e:Nat):Bool→Bool
 | false=>c7 (AA L) L (lQ C n) i e
 | true=>match (lQ C n)[i]? with
  | some p=>fj (c7 (AA L) L (lQ C n) (i - 1)) L p.comb (e+1) e
  | none=>false
def tp (R:List Sl→List Nat→Prop) (C:List (List Lk)) (s:Sl) (n:Nat):Prop :=
 ∃ c,C[n]?=some c∧c.map (·.part)=s∧∀ (k:Nat) (x:Lk),c[k]?=some x→x.lists.length=x.part.c.pseudos.length∧∀ (j:Nat) (q:Ps) (ns:List Nat),x.part.c.pseudos[j]?=some q→x.lists[j]?=some ns→R q.list ns
def Rep (C:List (List Lk)):Nat→List Sl→List Nat→Prop
 | 0,_,_=>False
 | f+1,l,ns=>ns.length=l.length∧∀ (i:Nat) (s:Sl) (n:Nat),l[i]?=some s→ns[i]?=some n→tp (Rep C f) C s n
theorem tp.sel {R:List Sl→List Nat→Prop} {C:List (List Lk)} {s:Sl} {n:Nat} (h:tp R C s n):lQ C n=s:=by
 obtain ⟨c,hc,hs,_⟩:=h
 unfold lQ
 rw [List.getD_eq_getElem?_getD,hc]
 exact hs
structure EI (x:Lk):Prop where
 c:rv x.part.c
 ps:∀ q ∈ x.part.c.pseudos,i64 q.a∧i64 q.b
 ls:∀ l ∈ x.lists,l.length≤reachBytes
structure Mc (σ:Sig) (L:List Nd) (d:List Nat) (C:List (List Lk)):Prop where
 hC:mK σ
 hB:db L L.length d
 hN:L.length≤4096
 sm:∀ e,e<L.length→SmN (cg (cQ L e))
 cl:C.length≤reachBytes
 ll:∀ c ∈ C,c.length≤reachBytes
 lk:∀ c ∈ C,∀ x ∈ c,EI x
theorem Gs.ld1 {H:Hp} {x v:AV} {rows:List (List AV)} {n:Nat} (h:Gs 1 H x rows) (hn:rows[n]?=some [v]):∃ p,aQ 1 x (I (n:Int))=some p∧ldA false 1 H p=some v:=by
 have hlt:=(List.getElem?_eq_some_iff.1 hn).1
 cases h with
 | nil=>simp at hlt
 | sl hl hg hsz =>
  rename_i id ex
  refine ⟨.ptr id (0+(n:Int).toNat*1),mF (by omega) (by omega),?_⟩
  have:=jz hsz hlt
  rw [List.getElem?_eq_getElem hlt] at hn
  rw [Option.some.inj hn] at this
  simp [hg]
  rw [Nat.mul_one] at this
  rw [this]
  simp
section
variable {L:List Nd} {d:List Nat} {C:List (List Lk)}
def qp (σ:Sig) (L:List Nd) (d:List Nat) (C:List (List Lk)) (f:Nat) (xs:List AV) (b:Bool):Prop :=
 ∀ (ab mb:Nat) (cs:AV) (H:Hp) (K:AV→Hp→Prop),gm (dw L d) C (Tru L C) ab mb cs H→(∀ H',gm (dw L d) C (Tru L C) ab mb cs H'→Kp mb H H'→K (Bo b) H')→ai Try.prog σ f (.ptr ab 0::xs) H K
theorem qp.pure {f:Nat} {xs:List AV} {b:Bool} (h:∀ H,aH Try.prog σ f (.ip (dw L d::[])::xs) H (Bo b) H) (hx:aU xs=true):qp σ L d C f xs b :=
 fun ab mb cs H K hA hK=>aw (hA.pure (h Hp.empty) hx rfl) (hK H hA (.refl _ _))
def pM (σ:Sig) (L:List Nd) (d:List Nat) (C:List (List Lk)) (f:Nat):Prop:=∀ (l:List Sl) (ns:List Nat),Rep C f l ns→lj f l→f≤12→ns.length≤reachBytes→∀ e,e<L.length→qp σ L d C dk [I (e:Int),kI ns] (AA L l e)
theorem wZ (M:Mc σ L d C) {f:Nat} (hA:pM σ L d C f) (hf:f≤12) {q:Ps} (hq:i64 q.a∧i64 q.b) {ns:List Nat} (hr:(q.kind=7∨q.kind=8)→Rep C f q.list ns) (hnest:(q.kind=7∨q.kind=8)→lj f q.list) (hns:ns.length≤reachBytes) {e:Nat} (he:e<L.length) :
  qp σ L d C dT [I (e:Int),.agg (bI q),kI ns] (i6 (AA L) L e q):=by
 intro ab mb cs H K hA0 hK
 have hpar:=sj M.hB he
 have hpl:=ta L e
 have e1:ab≠H.n:=by have:=hA0.nab; omega
 have a1:=hA0.new (.cells (bI q) true)
 have k1:=Kp.new mb H (.cells (bI q) true)
 refine fB.run ?_
 simp [dN,e1,hA0.gab]
 have e2:∀ Ks:AV→Hp→Prop,Ks=Ks:=fun _=>rfl
 unfold i6 at hK
 have hH:Hp.new H (.cells [I q.kind,I q.a,I q.b,.imm 1 (q.list.map bc)] true)=Hp.new H (.cells (bI q) true):=by rw [dN]
 rw [hH]
 obtain ⟨H1,hH1⟩:∃ H1,H1=H.new (.cells (bI q) true):=⟨_,rfl⟩
 have gq:H1.get H.n=some (.cells [I q.kind,I q.a,I q.b,.imm 1 (q.list.map bc)] true):=by rw [hH1,← dN]; simp
 rw [← hH1] at a1 k1 ⊢
 have pur:∀ {g:Nat} {xs:List AV} {b:Bool},(∀ H,aH Try.prog σ g (.ip (dw L d::[])::xs) H (Bo b) H)→aU xs=true→aH Try.prog σ g (.ptr ab 0::xs) H1 (Bo b) H1:=fun h hx=>a1.pure (h Hp.empty) hx rfl
 split
 ·rename_i h
  rw [if_pos h] at hK
  refine aw (nG L d M.hN he _) ?_
  simpa using hK H1 a1 k1
 rename_i h1
 rw [if_neg h1] at hK
 split
 ·rename_i h
  rw [if_pos h] at hK
  refine aw (mi L d M.hN he _) ?_
  simpa using hK H1 a1 k1
 rename_i h2
 rw [if_neg h2] at hK
 split
 ·rename_i h
  rw [if_pos h] at hK
  exact aw (pur (fun H=>tS M.hB M.hN he [] rfl H) rfl) (hK H1 a1 k1)
 rename_i h3
 rw [if_neg h3] at hK
 split
 ·rename_i h
  rw [if_pos h] at hK
  refine aw (mi L d M.hN he _) ?_
  simp
  split
  ·rename_i hp
   simp [hp] at hK
   exact aw (pur (fun H=>tS M.hB M.hN he [] rfl H) rfl) (hK H1 a1 k1)
  ·rename_i hp
   simp [hp] at hK
   exact hK H1 a1 k1
 rename_i h4
 rw [if_neg h4] at hK
 split
 ·rename_i h
  rw [if_pos h] at hK
  have:=sO (σ:=σ) L d M.hN (k:=0) he
  refine aw (this _) ?_
  simpa using hK H1 a1 k1
 rename_i h5
 rw [if_neg h5] at hK
 split
 ·rename_i h
  rw [if_pos h] at hK
  refine aw (mi L d M.hN he _) ?_
  simp [gq]
  refine aw (G0 ?_ hq.1 hq.2 _) (hK H1 a1 k1)
  have:=M.hN
  unfold i64
  omega
 rename_i h6
 rw [if_neg h6] at hK
 split
 ·rename_i h
  rw [if_pos h] at hK
  refine hA q.list ns (hr (.inl h)) (hnest (.inl h)) hf hns e he ab mb cs H1 _ a1 fun H2 a2 k2=>?_
  simp
  exact hK H2 a2 (k1.trans k2)
 rename_i h7
 rw [if_neg h7] at hK
 split
 ·rename_i h
  rw [if_pos h] at hK
  exact hA q.list ns (hr (.inr h)) (hnest (.inr h)) hf hns e he ab mb cs H1 _ a1 fun H2 a2 k2=>hK H2 a2 (k1.trans k2)
 ·rename_i h
  rw [if_neg h] at hK
  exact hK H1 a1 k1
theorem KC (x:Lk):ldL true 5 ((dE x).drop 1)=some (.agg (bZ x.part.c)):=by
 have e:(dE x).drop 1=bZ x.part.c++[.imm 1 (x.lists.map fun l=>[kI l])]:=by
  unfold dE; rw [dy]; rfl
 rw [e,Ep (by simp)]
 rw [List.take_append_of_le_length (by simp),List.take_of_length_le (by simp)]
theorem JU (x:Lk):ldL false 1 ((dE x).drop 5)=some (.imm 4 (x.part.c.pseudos.map bI)):=by
 unfold dE; rw [dy,cR]; rfl
theorem Jf (x:Lk):ldL false 1 ((dE x).drop 6)=some (.imm 1 (x.lists.map fun l=>[kI l])):=by
 unfold dE; rw [dy,cR]; rfl
theorem Dq (x:Lk):ldL false 1 (dE x)=some (I x.part.comb):=by
 unfold dE; rw [dy]; rfl
section
attribute [local irreducible] bg.L0
theorem sW (M:Mc σ L d C) {f:Nat} (hA:pM σ L d C f) (hf:f≤12) {x:Lk} (hx:EI x) (hl:x.lists.length=x.part.c.pseudos.length) (hr:∀ (j:Nat) (q:Ps) (ns:List Nat),x.part.c.pseudos[j]?=some q→x.lists[j]?=some ns→Rep C f q.list ns) (hn:∀ q ∈ x.part.c.pseudos,lj f q.list) {e:Nat} (he:e<L.length) :
  qp σ L d C dD [I (e:Int),.agg (dE x)] (lG (AA L) L e x.part.c):=by
 intro ab mb cs H K hA0 hK
 have a1:=hA0.new (.cells (dE x) true)
 have k1:=Kp.new mb H (.cells (dE x) true)
 have hml:mb≠H.n:=by have:=hA0.nmb; omega
 have hm1:mb<H.n:=hA0.nmb
 have hps:=hx.c.ps
 have L0:∀ (m k:Nat) (H1:Hp),x.part.c.pseudos.length - m=k→m≤x.part.c.pseudos.length→gm (dw L d) C (Tru L C) ab mb cs H1→Kp mb (H.new (.cells (dE x) true)) H1 →
   (∀ H',gm (dw L d) C (Tru L C) ab mb cs H'→Kp mb H H'→K (Bo ((x.part.c.pseudos.drop m).all (i6 (AA L) L e))) H')→bg.L0 σ K (.ptr ab 0) (I (e:Int)) (.ptr H.n 0) (.imm 4 (x.part.c.pseudos.map bI)) (I x.part.c.pseudos.length) (I m) H1:=by
  intro m k
  revert m
  induction k with
  | zero =>
   intro m H1 hk hm h1 kp hK
   have:m=x.part.c.pseudos.length:=by omega
   subst this
   refine bg.L0_step ?_
   simp
   simpa using hK H1 h1 (k1.trans kp)
  | succ k ih =>
   intro m H1 hk hm h1 kp hK
   have hlt:m<x.part.c.pseudos.length:=by omega
   obtain ⟨q,hq⟩:=cb hlt
   obtain ⟨ns,hns⟩:=cb (l:=x.lists) (k:=m) (by omega)
   have hqm:=List.mem_of_getElem? hq
   rw [cN hq] at hK
   have hlt':(m:Int)<x.part.c.pseudos.length:=by omega
   have gx:H1.get H.n=some (.cells (dE x) true):=by rw [kp.get H.n (by simp) (Ne.symm hml)]; simp
   have hup:=kp.up
   simp at hup
   have n1:H.n≠H1.n:=by omega
   refine bg.L0_step ?_
   have hls:aQ 1 (.imm 1 (x.lists.map fun l=>[kI l])) (I (m:Int))=some (.ip [kI ns]):=by
    have:=cd (f:=fun l:List Nat=>[kI l]) (sz:=1) hns
    exact this
   simp only [b8,hlt',decide_true,aa,aj,if_true,cd hq,fJ,rM,bl]
   have hst:stA 4 (H1.new (.cells [I 0,I 0,I 0,.lit (.slice none 0 0)] true)) (.ptr H1.n 0) (.agg (bI q))=some ((H1.new (.cells [I 0,I 0,I 0,.lit (.slice none 0 0)] true)).set H1.n (some (.cells (bI q) true))):=by
    simp
    rw [yZ q (by simp)]
   rw [hst,aa]
   simp only [bA,ax,if_true,bK,List.drop_zero,rM,aa,bx,Nat.zero_add,n1,if_false,az,gx,Jf]
   rw [hls,aa]
   simp only [fJ,jb,aa]
   have a2:=h1.setN (h1.new (.cells [I 0,I 0,I 0,.lit (.slice none 0 0)] true)) (Nat.le_refl H1.n) (some (.cells (bI q) true))
   have k2:=(Kp.new mb H1 (.cells [I 0,I 0,I 0,.lit (.slice none 0 0)] true)).setN (Nat.le_refl H1.n) (some (.cells (bI q) true))
   refine wZ M hA hf (hx.ps q hqm) (fun _=>hr m q ns hq hns) (fun _=>hn q hqm) (hx.ls ns (List.mem_of_getElem? hns)) he ab mb cs _ _ a2 fun H2 a3 k3=>?_
   simp only [ep,aa,aj]
   cases hb:i6 (AA L) L e q with
   | false =>
    simp [hb] at hK
    simp
    exact hK H2 a3 (k1.trans (kp.trans (k2.trans k3)))
   | true =>
    simp [hb] at hK
    simp
    rw [dX hlt hps (by decide)]
    exact ih (m+1) H2 (by omega) (by omega) a3 (kp.trans (k2.trans k3)) (by simpa using hK)
 refine bg.run ?_
 simp only [iM,bx,Nat.zero_add,bA,az,if_true,bK,KC,aa]
 refine aw (a1.pure (ye M.hC M.hN he (M.sm e he) hx.c [] rfl Hp.empty) (by simp [aU,bQ,oE]) rfl) ?_
 simp only [ep,aa,aj]
 unfold lG at hK
 cases hb:pT (cg (cQ L e)) x.part.c with
 | false =>
  simp [hb] at hK
  simp
  exact hK _ a1 k1
 | true =>
  simp [hb] at hK
  simp [JU]
  exact L0 0 _ _ rfl (Nat.zero_le _) a1 (.refl _ _) (by simpa using hK)
end
theorem qM (M:Mc σ L d C) {e:Nat} (he:e<L.length) (k:Int):cH L e k<e:=by
 unfold cH
 split
 ·rcases sj M.hB he with h | ⟨p,h,hp⟩
  ·omega
  ·omega
 ·split
  ·unfold iG ra
   cases h:(oT L e).getLast? with
   | none=>simp<;>omega
   | some j =>
    have:=List.mem_of_getLast? h
    unfold oT at this
    simp only [List.mem_filter,List.mem_range] at this
    simp; omega
  ·omega
theorem xe (M:Mc σ L d C) {e:Nat} (he:e<L.length) (k:Int):-1≤cH L e k:=by
 unfold cH
 split
 ·rcases sj M.hB he with h | ⟨p,h,hp⟩
  ·omega
  ·omega
 ·split
  ·unfold iG ra
   cases h:(oT L e).getLast? with
   | none=>simp
   | some j=>simp<;>omega
  ·omega
theorem om (M:Mc σ L d C) (g:Nat→Bool) (k:Int):∀ (f f' e:Nat),e<L.length→e<f→e<f'→fj g L k f e=fj g L k f' e
 | 0,f',e,_,h,_=>by omega
 | f+1,0,e,_,_,h=>by omega
 | f+1,f'+1,e,he,h1,h2=>by
  unfold fj
  have:=qM M he k
  by_cases h:0≤cH L e k
  ·rw [om M g k f f' _ (by omega) (by omega) (by omega)]
  ·simp [h]
theorem tO (M:Mc σ L d C) {ab mb:Nat} {cs:AV} {H:Hp} (hA:gm (dw L d) C (Tru L C) ab mb cs H) {n i:Nat} {c:List Lk} {x:Lk} (hc:C[n]?=some c) (hx:c[i]?=some x) :
  ∃ p,aQ 1 cs (I (n:Int))=some p∧ldA false 1 H p=some (h_ c)∧aQ 7 (h_ c) (I (i:Int))=some (.ip (dE x)):=by
 obtain ⟨p,h1,h2⟩:=hA.gcs.ld1 (n:=n) (v:=h_ c) (by rw [List.getElem?_map,hc]; rfl)
 exact ⟨p,h1,h2,cd hx⟩
theorem vP (M:Mc σ L d C) {f:Nat} (hA:pM σ L d C f) (hf:f≤12) {n:Nat} {s:Sl} (hr:tp (Rep C f) C s n) (hn:∀ p ∈ s,∀ q ∈ p.c.pseudos,lj f q.list) (hn9:n<9000000000000000000) (i:Nat) (hi:i<s.length) (hi9:i<9000000000000000000)
  (hah:i≠0→∀ e,e<L.length→qp σ L d C cO [I (n:Int),I (i:Int),I (e:Int)] (Tru L C n i e true)) (e:Nat) (he:e<L.length) :
  qp σ L d C c_ [I (n:Int),I (i:Int),I (e:Int)] (Tru L C n i e false):=by
 intro ab mb cs H K hA0 hK
 obtain ⟨c,hc,hcs,hcl⟩:=hr
 have hsel:lQ C n=s:=tp.sel ⟨c,hc,hcs,hcl⟩
 obtain ⟨x,hx⟩:=cb (l:=c) (k:=i) (by rw [← List.length_map (f:=(·.part)),hcs]; exact hi)
 have hcm:=List.mem_of_getElem? hc
 have hxm:=List.mem_of_getElem? hx
 have hlk:=M.lk c hcm x hxm
 obtain ⟨hl1,hl2⟩:=hcl i x hx
 have hsx:s[i]?=some x.part:=by rw [← hcs,List.getElem?_map,hx]; rfl
 have hbx:∀ (v:AV) (H:Hp) (K:AV→Hp→Prop),v.isAny=false→v.cells=[v]→eU v H K=K (.ptr H.n 0) (H.new (.cells [v] true)):=fun v H K h1 h2=>pa h1 h2 H K
 have tr:Tru L C n i e false=(lG (AA L) L e x.part.c&&(decide (i=0)||Tru L C n i e true)):=by
  unfold Tru
  simp only [hsel]
  cases i with
  | zero=>unfold c7; simp [hsx]
  | succ i=>rw [c7]; simp [hsx]
 refine iU.run ?_
 rw [hbx _ _ _ rfl rfl,hbx _ _ _ rfl rfl,hbx _ _ _ rfl rfl,hbx _ _ _ rfl rfl]
 obtain ⟨H4,hH4⟩:∃ H4,H4=(((H.new (.cells [.ptr ab 0] true)).new (.cells [I (n:Int)] true)).new (.cells [I (i:Int)] true)).new (.cells [I (e:Int)] true):=⟨_,rfl⟩
 have a4:gm (dw L d) C (Tru L C) ab mb cs H4:=by rw [hH4]; exact (((hA0.new _).new _).new _).new _
 have k4:Kp mb H H4:=by rw [hH4]; exact (((Kp.new mb H _).trans (Kp.new mb _ _)).trans (Kp.new mb _ _)).trans (Kp.new mb _ _)
 have q1:¬ (H.n=H.n+1+1+1):=by omega
 have q2:¬ (H.n=H.n+1+1):=by omega
 have q3:¬ (H.n+1=H.n+1+1+1):=by omega
 have g0:H4.get H.n=some (.cells [.ptr ab 0] true):=by rw [hH4]; simp [q1,q2]
 have g1:H4.get (H.n+1)=some (.cells [I (n:Int)] true):=by rw [hH4]; simp [q3]
 have g2:H4.get (H.n+1+1)=some (.cells [I (i:Int)] true):=by rw [hH4]; simp
 have g3:H4.get (H.n+1+1+1)=some (.cells [I (e:Int)] true):=by rw [hH4]; simp
 have n4:H4.n=H.n+4:=by rw [hH4]; rfl
 rw [← hH4]
 simp only [Hp.n_new]
 rw [ld2 g0,aa,ld2 g1,aa,ld2 g2,aa,ld2 g3,aa]
 have hb:aY [I 0,I 0,I 0,.lit (.bool false)] [(0,1,I (n:Int)),(1,1,I (i:Int)),(2,1,I (e:Int)),(3,1,Bo false)]=some (jF n i e false):=rfl
 rw [hb,aa]
 have mbl:=hA0.nmb
 refine vI (n:=n) (i:=i) (e:=e) (a:=false) a4 (List.getElem?_eq_some_iff.1 hc).1 rfl (fun H1 K1 h1 kp1 hK1=>?_) (fun H' h' kp'=>hK H' h' (k4.trans kp'))
 have keep:∀ {H2:Hp},Kp mb H4 H2→∀ {j:Nat} {v:AV},H.n≤j→j<H.n+4→H4.get j=some (.cells [v] true)→H2.get j=some (.cells [v] true):=fun kp j v h1 h2 hg=>by rw [kp.get j (by omega) (by omega)]; exact hg
 rw [qF,List.nil_append]
 refine gw.run ?_
 obtain ⟨p,c1,c2,c3⟩:=tO M h1 hc hx
 have hlx:ldL true 7 (dE x)=some (.agg (dE x)):=cB (G6 x)
 have hcab:ldA false 1 H1 (.ptr ab 1)=some cs:=by simp [h1.gab]
 rw [ld2 (keep kp1 (by omega) (by omega) g0),aa,ld2 (keep kp1 (by omega) (by omega) g3),aa,aa,fw,aa,bx,aa,hcab,aa,ld2 (keep kp1 (by omega) (by omega) g1),aa,c1,aa,c2,aa,ld2 (keep kp1 (by omega) (by omega) g2),aa,c3,aa,fJ,hlx,aa]
 refine sW M hA hf hlk hl1 hl2 (hn x.part (List.mem_of_getElem? hsx)) he ab mb cs H1 _ h1 fun H2 h2 kp2=>?_
 simp only [aj]
 rw [tr] at hK1
 cases hcb:lG (AA L) L e x.part.c with
 | false =>
  simp [hcb] at hK1
  simp
  exact hK1 H2 h2 kp2
 | true =>
  simp [hcb] at hK1
  simp only [if_true]
  have kp12:=kp1.trans kp2
  rw [ld2 (keep kp12 (by omega) (by omega) g2),aa,bT,aa]
  simp only [aj,decide_eq_true_eq]
  split
  ·rename_i h0
   have h0':i=0:=by omega
   simp [h0'] at hK1
   exact hK1 H2 h2 kp2
  ·rename_i h0
   have h0':i≠0:=by omega
   simp [h0'] at hK1
   rw [ld2 (keep kp12 (by omega) (by omega) g0),aa,ld2 (keep kp12 (by omega) (by omega) g1),aa,aa,ld2 (keep kp12 (by omega) (by omega) g3),aa]
   exact hah h0' e he ab mb cs H2 _ h2 fun H3 h3 kp3=>hK1 H3 h3 (kp2.trans kp3)
theorem vf (M:Mc σ L d C) {n:Nat} {c:List Lk} (hc:C[n]?=some c) (hn9:n<9000000000000000000) {i:Nat} {x:Lk} (hx:c[i+1]?=some x) (hi9:i+1<9000000000000000000)
  (hsx:(lQ C n)[i+1]?=some x.part) (his:∀ e,e<L.length→qp σ L d C c_ [I (n:Int),I (i:Int),I (e:Int)] (Tru L C n i e false)) :
  ∀ (m e:Nat),e<m→e<L.length→qp σ L d C cO [I (n:Int),I ((i+1:Nat):Int),I (e:Int)] (Tru L C n (i+1) e true):=by
 intro m
 induction m with
 | zero=>intro e h; omega
 | succ m ih =>
  intro e hem he ab mb cs H K hA0 hK
  have hlt:=qM M he x.part.comb
  have hge:=xe M he x.part.comb
  have trE:∀ e,e<L.length→Tru L C n (i+1) e true=fj (c7 (AA L) L (lQ C n) i) L x.part.comb (e+1) e:=fun e he=>by
   unfold Tru
   simp only [hsx,Nat.add_sub_cancel]
  have tr:Tru L C n (i+1) e true=(decide (0≤cH L e x.part.comb)&&(Tru L C n i (cH L e x.part.comb).toNat false||(lL x.part.comb&&Tru L C n (i+1) (cH L e x.part.comb).toNat true))):=by
   rw [trE e he]
   by_cases h:0≤cH L e x.part.comb
   ·rw [trE _ (by omega),fj]
    rw [om M (c7 (AA L) L (lQ C n) i) x.part.comb e ((cH L e x.part.comb).toNat+1) (cH L e x.part.comb).toNat (by omega) (by omega) (by omega)]
    rfl
   ·rw [fj]; simp [h]
  have hbx:∀ (v:AV) (H:Hp) (K:AV→Hp→Prop),v.isAny=false→v.cells=[v]→eU v H K=K (.ptr H.n 0) (H.new (.cells [v] true)):=fun v H K h1 h2=>pa h1 h2 H K
  refine fW.run ?_
  rw [hbx _ _ _ rfl rfl,hbx _ _ _ rfl rfl,hbx _ _ _ rfl rfl]
  obtain ⟨H3,hH3⟩:∃ H3,H3=((H.new (.cells [.ptr ab 0] true)).new (.cells [I (n:Int)] true)).new (.cells [I ((i+1:Nat):Int)] true):=⟨_,rfl⟩
  have a3:gm (dw L d) C (Tru L C) ab mb cs H3:=by rw [hH3]; exact ((hA0.new _).new _).new _
  have k3:Kp mb H H3:=by rw [hH3]; exact ((Kp.new mb H _).trans (Kp.new mb _ _)).trans (Kp.new mb _ _)
  have q2:¬ (H.n=H.n+1+1):=by omega
  have g0:H3.get H.n=some (.cells [.ptr ab 0] true):=by rw [hH3]; simp [q2]
  have g1:H3.get (H.n+1)=some (.cells [I (n:Int)] true):=by rw [hH3]; simp
  have g2:H3.get (H.n+1+1)=some (.cells [I ((i+1:Nat):Int)] true):=by rw [hH3]; simp
  have n3:H3.n=H.n+1+1+1:=by rw [hH3]; rfl
  rw [← hH3]
  simp only [Hp.n_new]
  obtain ⟨p,c1,c2,c3⟩:=tO M a3 hc hx
  have hcab:ldA false 1 H3 (.ptr ab 1)=some cs:=by simp [a3.gab]
  rw [ld2 g0,aa,aa,fw,aa,bx,aa,hcab,aa,ld2 g1,aa,c1,aa,c2,aa,ld2 g2,aa,c3,aa,oW,aa,List.drop_zero,oW,aa,List.drop_zero,fJ,Dq,aa]
  refine aw (a3.pure (wL M.hN he x.part.comb [] rfl Hp.empty) rfl (by simp [fD,gP])) ?_
  simp only [mE,List.getElem?_cons_zero,List.getElem?_cons_succ,aa,bl,Hp.n_new]
  obtain ⟨H5,hH5⟩:∃ H5,H5=(((H3.new (.cells [I 0] true)).new (.cells [Bo false] true)).set H3.n (some (.cells [I (cH L e x.part.comb)] true))).set (H3.n+1) (some (.cells [Bo (lL x.part.comb)] true)):=⟨_,rfl⟩
  have s1:stA 1 ((H3.new (.cells [I 0] true)).new (.cells [Bo false] true)) (.ptr H3.n 0) (I (cH L e x.part.comb))=some (((H3.new (.cells [I 0] true)).new (.cells [Bo false] true)).set H3.n (some (.cells [I (cH L e x.part.comb)] true))):=by simp
  have s2:stA 1 (((H3.new (.cells [I 0] true)).new (.cells [Bo false] true)).set H3.n (some (.cells [I (cH L e x.part.comb)] true))) (.ptr (H3.n+1) 0) (Bo (lL x.part.comb))=some H5:=by rw [hH5]; simp
  rw [s1,aa,s2,aa]
  have a5:gm (dw L d) C (Tru L C) ab mb cs H5:=by
   rw [hH5]
   exact a3.setN (a3.setN ((a3.new _).new _) (Nat.le_refl _) _) (by omega) _
  have k5:Kp mb H3 H5:=by
   rw [hH5]
   exact ((((Kp.new mb H3 _).trans (Kp.new mb _ _))).setN (Nat.le_refl _) _).setN (by omega) _
  have mbl:=hA0.nmb
  have n5:H5.n=H.n+1+1+1+1+1:=by rw [hH5]; simp [n3]
  have r0:H5.get H.n=some (.cells [.ptr ab 0] true):=by rw [k5.get _ (by omega) (by omega)]; exact g0
  have r1:H5.get (H.n+1)=some (.cells [I (n:Int)] true):=by rw [k5.get _ (by omega) (by omega)]; exact g1
  have r2:H5.get (H.n+1+1)=some (.cells [I ((i+1:Nat):Int)] true):=by rw [k5.get _ (by omega) (by omega)]; exact g2
  have r3:H5.get H3.n=some (.cells [I (cH L e x.part.comb)] true):=by rw [hH5]; simp
  have r4:H5.get (H3.n+1)=some (.cells [Bo (lL x.part.comb)] true):=by rw [hH5]; simp
  clear hH5 s1 s2
  rw [ld2 r3,aa,iR,aa]
  simp only [aj,decide_eq_true_eq]
  rw [tr] at hK
  split
  ·rename_i h0
   rw [ld2 r0,aa,ld2 r1,aa,ld2 r2,aa]
   have hb:aY [I 0,I 0,I 0,.lit (.bool false)] [(0,1,I (n:Int)),(1,1,I ((i+1:Nat):Int)),(2,1,I (e:Int)),(3,1,Bo true)]=some (jF n (i+1) e true):=rfl
   rw [hb,aa]
   refine vI (n:=n) (i:=i+1) (e:=e) (a:=true) a5 (List.getElem?_eq_some_iff.1 hc).1 rfl (fun H1 K1 h1 kp1 hK1=>?_) (fun H' h' kp'=>?_)
   ·have keep:∀ {H2:Hp},Kp mb H5 H2→∀ {j:Nat} {v:AV},H.n≤j→j<H.n+5→H5.get j=some (.cells [v] true)→H2.get j=some (.cells [v] true):=fun kp j v h1 h2 hg=>by rw [kp.get j (by omega) (by omega)]; exact hg
    obtain ⟨x',hx'⟩:∃ k:Nat,cH L e x.part.comb=k:=⟨(cH L e x.part.comb).toNat,by omega⟩
    rw [tr,hx'] at hK1
    rw [hx'] at r3 hlt
    simp only [Int.toNat_natCast] at hK1
    rw [qF,List.nil_append]
    refine ff.run ?_
    have e1:wr .i64 (((i+1:Nat):Int) - 1)=(i:Int):=by rw [fe (by omega) (by omega)]; omega
    rw [ld2 (keep kp1 (by omega) (by omega) r0),aa,ld2 (keep kp1 (by omega) (by omega) r1),aa,ld2 (keep kp1 (by omega) (by omega) r2),aa,kK,aa,e1,ld2 (keep kp1 (by omega) (by omega) r3),aa]
    refine his x' (by omega) ab mb cs H1 _ h1 fun H2 h2 kp2=>?_
    simp only [aj]
    have kp12:=kp1.trans kp2
    have h0':(0:Int)≤(x':Int):=by omega
    cases hf:Tru L C n i x' false with
    | true =>
     simp [hf,h0'] at hK1
     simp
     exact hK1 H2 h2 kp2
    | false =>
     simp [hf,h0'] at hK1
     simp only [Bool.false_eq_true,if_false]
     rw [ld2 (keep kp12 (by omega) (by omega) r4),aa]
     simp only [aj]
     cases hfar:lL x.part.comb with
     | false =>
      simp [hfar] at hK1
      simp
      exact hK1 H2 h2 kp2
     | true =>
      simp [hfar] at hK1
      simp only [if_true]
      rw [ld2 (keep kp12 (by omega) (by omega) r0),aa,ld2 (keep kp12 (by omega) (by omega) r1),aa,ld2 (keep kp12 (by omega) (by omega) r2),aa,ld2 (keep kp12 (by omega) (by omega) r3),aa]
      exact ih x' (by omega) (by omega) ab mb cs H2 _ h2 fun H3' h3 kp3=>hK1 H3' h3 (kp2.trans kp3)
   ·rw [← tr] at hK
    exact hK H' h' (k3.trans (k5.trans kp'))
  ·rename_i h0
   have:decide (0≤cH L e x.part.comb)=false:=by simpa using h0
   rw [this,Bool.false_and] at hK
   exact hK H5 a5 (k3.trans k5)
theorem FP (M:Mc σ L d C) {f:Nat} (hA:pM σ L d C f) (hf:f≤12) {n:Nat} {s:Sl} (hr:tp (Rep C f) C s n) (hn:∀ p ∈ s,∀ q ∈ p.c.pseudos,lj f q.list) (hn9:n<9000000000000000000):∀ (i:Nat),i<s.length→i<9000000000000000000→∀ e,e<L.length →
  qp σ L d C c_ [I (n:Int),I (i:Int),I (e:Int)] (Tru L C n i e false)
 | 0,hi,hi9,e,he=>vP M hA hf hr hn hn9 0 hi hi9 (fun h=>absurd rfl h) e he
 | i+1,hi,hi9,e,he=>by
  refine vP M hA hf hr hn hn9 (i+1) hi hi9 (fun _ e he=>?_) e he
  obtain ⟨c,hc,hcs,hcl⟩:=hr
  obtain ⟨x,hx⟩:=cb (l:=c) (k:=i+1) (by rw [← List.length_map (f:=(·.part)),hcs]; exact hi)
  have hsel:lQ C n=s:=tp.sel ⟨c,hc,hcs,hcl⟩
  have hsx:(lQ C n)[i+1]?=some x.part:=by rw [hsel,← hcs,List.getElem?_map,hx]; rfl
  exact vf M hc hn9 hx hi9 hsx (fun e he=>FP M hA hf ⟨c,hc,hcs,hcl⟩ hn hn9 i (by omega) (by omega) e he) (e+1) e (by omega) he
section
attribute [local irreducible] bH.L0
theorem yE (M:Mc σ L d C) {f:Nat} (hA:pM σ L d C f) (hf:f+1≤12):pM σ L d C (f+1):=by
 intro l ns hr hn _ hns e he ab mb cs H K hA0 hK
 rw [← FU hn hf] at hK
 obtain ⟨hlen,hrep⟩:=hr
 have L0:∀ (m k:Nat) (H1:Hp),ns.length - m=k→m≤ns.length→gm (dw L d) C (Tru L C) ab mb cs H1→Kp mb H H1→(∀ H',gm (dw L d) C (Tru L C) ab mb cs H'→Kp mb H H'→K (Bo (qw (AA L) L (l.drop m) e)) H') →
   bH.L0 σ K (.ptr ab 0) (I (e:Int)) (kI ns) (I ns.length) (I m) H1:=by
  intro m k
  revert m
  induction k with
  | zero =>
   intro m H1 hk hm h1 kp hK
   have:m=ns.length:=by omega
   subst this
   refine bH.L0_step ?_
   simp
   have:=hK H1 h1 kp
   rw [hlen,List.drop_length] at this
   exact this
  | succ k ih =>
   intro m H1 hk hm h1 kp hK
   have hlt:m<ns.length:=by omega
   obtain ⟨n,hnn⟩:=cb hlt
   obtain ⟨s,hs⟩:=cb (l:=l) (k:=m) (by omega)
   have hrc:=hrep m s n hs hnn
   rw [cN hs] at hK
   have hlt':(m:Int)<ns.length:=by omega
   obtain ⟨c,hc,hcs,hcl⟩:=hrc
   have hcm:=List.mem_of_getElem? hc
   have hcl2:c.length=s.length:=by rw [← hcs,List.length_map]
   obtain ⟨p,c1,c2⟩:=h1.gcs.ld1 (n:=n) (v:=h_ c) (by rw [List.getElem?_map,hc]; rfl)
   have hcab:ldA false 1 H1 (.ptr ab 1)=some cs:=by simp [h1.gab]
   have hix:aQ 1 (kI ns) (I (m:Int))=some (.ip (qk n)):=cd hnn
   have hllen:a8 (h_ c)=some (I (s.length:Int)):=by unfold h_; simp [hcl2]
   have hl9:=M.ll c hcm
   rw [ed] at hl9 hns
   have hn9:n<9000000000000000000:=by
    have:=(List.getElem?_eq_some_iff.1 hc).1
    have:=M.cl
    rw [ed] at this
    omega
   have hsel:lQ C n=s:=tp.sel ⟨c,hc,hcs,hcl⟩
   refine bH.L0_step ?_
   have hle:ldL false 1 (qk n)=some (I (n:Int)):=rfl
   simp only [b8,hlt',decide_true,aa,aj,if_true,hix,fJ,hle,fw,bx,hcab,c1,c2,hllen,eT,decide_eq_true_eq]
   have hcons:qw (AA L) L (s::l.drop (m+1)) e=((!decide (s.length=0)&&c7 (AA L) L s (s.length - 1) e)||qw (AA L) L (l.drop (m+1)) e):=by simp [qw]
   rw [hcons] at hK
   split
   ·rename_i h0
    have e1:wr .i64 ((s.length:Int) - 1)=((s.length - 1:Nat):Int):=by rw [fe (by omega) (by omega)]; omega
    simp only [kK,aa,e1]
    refine FP M hA (by omega) ⟨c,hc,hcs,hcl⟩ (fun p hp q hq=>hn s (List.mem_of_getElem? hs) p hp q hq) hn9 (s.length - 1) (by omega) (by omega) e he ab mb cs H1 _ h1 fun H2 h2 kp2=>?_
    have htr:Tru L C n (s.length - 1) e false=c7 (AA L) L s (s.length - 1) e:=by unfold Tru; simp only [hsel]
    rw [htr]
    have h0':¬ (s.length=0):=by omega
    simp only [aj]
    cases hfr:c7 (AA L) L s (s.length - 1) e with
    | true =>
     rw [hfr] at hK
     simp [h0'] at hK
     simp
     exact hK H2 h2 (kp.trans kp2)
    | false =>
     rw [hfr] at hK
     simp at hK
     simp
     rw [bW (by omega)]
     exact ih (m+1) H2 (by omega) (by omega) h2 (kp.trans kp2) hK
   ·rename_i h0
    have h0':s.length=0:=by omega
    simp [h0'] at hK
    simp only [co,aa]
    rw [bW (by omega)]
    exact ih (m+1) H1 (by omega) (by omega) h1 kp hK
 refine bH.run ?_
 have:a8 (kI ns)=some (I (ns.length:Int)):=by unfold kI; simp
 rw [this,aa]
 exact L0 0 _ H rfl (Nat.zero_le _) hA0 (.refl _ _) (by simpa using hK)
theorem Bv (M:Mc σ L d C):∀ (f:Nat),f≤12→pM σ L d C f
 | 0,_=>fun l ns hr=>hr.elim
 | f+1,hf=>yE M (Bv M f (by omega)) hf
end
end
end Go.Proofs.Ythmaggcfghjmfaa.Ev
namespace Go.Proofs.Ythmaggcfghjmfaa.Ev
set_option linter.unusedVariables false
set_option linter.unusedSimpArgs false
variable {σ:Sig}
def wz (g:List Sl→Nat→Bool) (dp:Nat) (q:Ps):Bool:=if q.kind=7∨q.kind=8 then !decide (dp=0)&&g q.list (dp - 1) else true
def xy (g:List Sl→Nat→Bool) (dp:Nat) (c:Cp):Bool:=c.pseudos.all (wz g dp)
def sK (g:List Sl→Nat→Bool) (dp:Nat) (s:Sl):Bool:=decide (s.length≤50)&&s.all fun p=>xy g dp p.c
def jm:Nat→List Sl→Nat→Bool
 | 0,_,_=>false
 | f+1,l,dp=>l.all (sK (jm f) dp)
section
attribute [local irreducible] bm.L0 bm.L1 aE.L0 aE.J1
def vE (σ:Sig) (f:Nat):Prop:=∀ (l:List Sl) (dp:Nat) (H:Hp),gt cU l→lj f l→dp≤8→aH Try.prog σ eW [sls l,I (dp:Int)] H (Bo (jm f l dp)) H
theorem D4 {f:Nat} (ih:vE σ f) (c:Cp) (hc:t8 cU c) (hn:∀ q ∈ c.pseudos,lj f q.list) (dp:Nat) (hd:dp≤8) (H:Hp):aH Try.prog σ d_ [.agg (bZ c),I (dp:Int)] H (Bo (xy (jm f) dp c)) H:=by
 refine bP (fun K hK=>aE.run ?_) (by simp [aU,bQ,oE]) rfl H
 have L0:∀ (m k:Nat) (H:Hp),c.pseudos.length - m=k→m≤c.pseudos.length→(∀ H,K (Bo ((c.pseudos.drop m).all (wz (jm f) dp))) H)→aE.L0 σ K (I (dp:Int)) (.imm 4 (c.pseudos.map bI)) (I c.pseudos.length) (I m) H:=by
  intro m k
  revert m
  induction k with
  | zero =>
   intro m H hk hm hK
   have:m=c.pseudos.length:=by omega
   subst this
   refine aE.L0_step ?_
   simp
   simpa using hK H
  | succ k ihk =>
   intro m H hk hm hK
   have hlt:m<c.pseudos.length:=by omega
   obtain ⟨q,hq⟩:=cb hlt
   have hqm:=List.mem_of_getElem? hq
   have hqw:=(Ps.wf_iff.1 (hc.ps q hqm)).2.2.2
   rw [cN hq,List.all_cons] at hK
   have hlt':(m:Int)<c.pseudos.length:=by omega
   have next:∀ H,wz (jm f) dp q=true→aE.J1 σ K (I (dp:Int)) (.imm 4 (c.pseudos.map bI)) (I c.pseudos.length) (I m) H:=by
    intro H ht
    refine aE.J1_step ?_
    simp
    rw [dX hlt hc.psL]
    refine ihk (m+1) H (by omega) (by omega) fun H'=>?_
    have:=hK H'
    rwa [ht,Bool.true_and] at this
   have ask:∀ (H:Hp),(q.kind=7∨q.kind=8)→H.get (H.n - 1)=some (.cells (bI q) true)→ifB (Bo (decide ((dp:Int)=0))) (K (Bo false) H) (bnd (ldA false 1 H (.ptr (H.n - 1) 3)) fun x22=>bnd (af .sub (I (dp:Int)) (I 1)) fun x23=>ai Try.prog σ eW [x22,x23] H fun x24 H25=>bnd (unR .not x24) fun x26=>ifB x26 (K (Bo false) H25) (aE.J1 σ K (I (dp:Int)) (.imm 4 (c.pseudos.map bI)) (I c.pseudos.length) (I m) H25)):=by
    intro H hkq hg
    simp only [aj,decide_eq_true_eq]
    have hQ:wz (jm f) dp q=(!decide (dp=0)&&jm f q.list (dp - 1)):=by unfold wz; rw [if_pos hkq]
    split
    ·rename_i h0
     have h0':dp=0:=by omega
     have:=hK H
     rw [hQ] at this
     simpa [h0'] using this
    ·rename_i h0
     have h0':¬ (dp=0):=by omega
     have e1:wr .i64 ((dp:Int) - 1)=((dp - 1:Nat):Int):=by rw [fe (by omega) (by omega)]; omega
     simp only [bA,hg,bK,sF,aa,kK,e1]
     refine aw (ih q.list (dp - 1) H hqw (hn q hqm) (by omega)) ?_
     simp only [ep,aa,aj]
     cases hb:jm f q.list (dp - 1) with
     | false =>
      have:=hK H
      rw [hQ] at this
      simpa [h0',hb] using this
     | true =>
      simp
      exact next H (by rw [hQ]; simp [h0',hb])
   refine aE.L0_step ?_
   have hst:stA 4 (H.new (.cells [I 0,I 0,I 0,.lit (.slice none 0 0)] true)) (.ptr H.n 0) (.agg (bI q))=some ((H.new (.cells [I 0,I 0,I 0,.lit (.slice none 0 0)] true)).set H.n (some (.cells (bI q) true))):=by
    simp
    rw [yZ q (by simp)]
   simp only [b8,hlt',decide_true,aa,aj,if_true,cd hq,fJ,rM,bl,hst,bx,Nat.zero_add,bA,ax,bK,List.drop_zero,Bk,jC]
   have hask:=ask ((H.new (.cells [I 0,I 0,I 0,.lit (.slice none 0 0)] true)).set H.n (some (.cells (bI q) true)))
   simp only [Hp.n_set,Hp.n_new,Nat.add_sub_cancel,bA,ax,if_true,bK] at hask
   by_cases h7:q.kind=7
   ·simp only [h7,decide_true,Bool.not_true,Bool.false_eq_true,if_false,bT,aa]
    exact hask (.inl h7) trivial
   ·simp only [h7,decide_false,Bool.not_false,if_true]
    by_cases h8:q.kind=8
    ·simp only [h8,decide_true,Bool.not_true,Bool.false_eq_true,if_false,bT,aa]
     exact hask (.inr h8) trivial
    ·simp only [h8,decide_false,Bool.not_false,if_true]
     exact next _ (by unfold wz; rw [if_neg (by omega)])
 simp only [iM,bx,aa,Nat.zero_add,bA,az,if_true,bK,BE,fR,List.length_map]
 exact L0 0 _ _ rfl (Nat.zero_le _) (by simpa [xy] using hK)
theorem Af {f:Nat} (ih:vE σ f):vE σ (f+1):=by
 intro l dp H hl hn hd
 refine bP (fun K hK=>bm.run ?_) (by simp [aU,bQ]) rfl H
 have L0:∀ (m k:Nat) (H:Hp) (y20 y21 y22:AV),l.length - m=k→m≤l.length→(∀ H,K (Bo ((l.drop m).all (sK (jm f) dp))) H)→bm.L0 σ K (I (dp:Int)) (sls l) (I l.length) (I m) y20 y21 y22 H:=by
  intro m k
  revert m
  induction k with
  | zero =>
   intro m H y20 y21 y22 hk hm hK
   have:m=l.length:=by omega
   subst this
   refine bm.L0_step ?_
   simp
   simpa using hK H
  | succ k ihk =>
   intro m H y20 y21 y22 hk hm hK
   have hlt:m<l.length:=by omega
   obtain ⟨s,hs⟩:=cb hlt
   have hsm:=List.mem_of_getElem? hs
   have hsw:=hl.2 s hsm
   rw [cN hs,List.all_cons] at hK
   have hlt':(m:Int)<l.length:=by omega
   have L1:∀ (j k2:Nat) (H:Hp),s.length - j=k2→j≤s.length→(∀ H,K (Bo ((s.drop j).all (fun p=>xy (jm f) dp p.c)&&(l.drop (m+1)).all (sK (jm f) dp))) H) →
     bm.L1 σ K (I (dp:Int)) (sls l) (I l.length) (I m) (.imm 6 (s.map aZ)) (I s.length) (I j) H:=by
    intro j k2
    revert j
    induction k2 with
    | zero =>
     intro j H hk2 hj hK
     have:j=s.length:=by omega
     subst this
     refine bm.L1_step ?_
     simp
     rw [dX hlt hl.1]
     exact ihk (m+1) H _ _ _ (by omega) (by omega) (by simpa using hK)
    | succ k2 ih2 =>
     intro j H hk2 hj hK
     have hjlt:j<s.length:=by omega
     obtain ⟨p,hp⟩:=cb hjlt
     have hpm:=List.mem_of_getElem? hp
     have hpw:=(Pt.wf_iff.1 (hsw.2 p hpm)).2
     rw [cN hp,List.all_cons] at hK
     have hjlt':(j:Int)<s.length:=by omega
     have hst:stA 6 (H.new (.cells [I 0,Sx ⟨#[]⟩,.lit (.slice none 0 0),.lit (.slice none 0 0),.lit (.slice none 0 0),.lit (.slice none 0 0)] true)) (.ptr H.n 0) (.agg (aZ p))=some ((H.new (.cells [I 0,Sx ⟨#[]⟩,.lit (.slice none 0 0),.lit (.slice none 0 0),.lit (.slice none 0 0),.lit (.slice none 0 0)] true)).set H.n (some (.cells (aZ p) true))):=by
      simp
      rw [FY p (by simp)]
     refine bm.L1_step ?_
     have hd1:(aZ p).drop 1=bZ p.c:=by rw [dy]; rfl
     simp only [b8,hjlt',decide_true,aa,aj,if_true,cd hp,fJ,Bl,bl,hst,bx,Nat.zero_add,bA,ax,bK,hd1,II]
     refine aw (D4 ih p.c hpw (fun q hq=>hn s hsm p hpm q hq) dp hd _) ?_
     simp only [ep,aa,aj]
     cases hb:xy (jm f) dp p.c with
     | false =>
      rw [hb] at hK
      simpa using hK _
     | true =>
      rw [hb] at hK
      simp
      rw [dX hjlt hsw.1]
      exact ih2 (j+1) _ (by omega) (by omega) (by simpa using hK)
   refine bm.L0_step ?_
   have hst:stA 1 (H.new (.cells [.lit (.slice none 0 0)] true)) (.ptr H.n 0) (.agg (bc s))=some ((H.new (.cells [.lit (.slice none 0 0)] true)).set H.n (some (.cells (bc s) true))):=by
    simp [bc]
   have hix:aQ 1 (sls l) (I (m:Int))=some (.ip (bc s)):=cd hs
   simp only [b8,hlt',decide_true,aa,aj,if_true,hix,fJ,ry,bl,hst,bx,Nat.zero_add,bA,ax,bK,List.drop_zero,sX,fR,List.length_map,eT,decide_eq_true_eq]
   have hS:sK (jm f) dp s=(decide (s.length≤50)&&s.all fun p=>xy (jm f) dp p.c):=rfl
   rw [hS] at hK
   split
   ·rename_i h50
    have:¬ (s.length≤50):=by omega
    simpa [this] using hK _
   ·rename_i h50
    have:s.length≤50:=by omega
    refine L1 0 _ _ rfl (Nat.zero_le _) ?_
    simpa [this] using hK
 simp
 exact L0 0 _ _ _ _ _ rfl (Nat.zero_le _) (by simpa [jm] using hK)
theorem zr:∀ (f:Nat),vE σ f
 | 0=>fun l dp H hl hn=>hn.elim
 | f+1=>Af (zr f)
end
end Go.Proofs.Ythmaggcfghjmfaa.Ev
namespace Go.Proofs.Ythmaggcfghjmfaa.Ev
set_option linter.unusedVariables false
set_option linter.unusedSimpArgs false
variable {σ:Sig}
def HFz (H H2:Hp):Prop:=∃ Hd:Hp,H2.n=H.n∧Hd.n=H.n∧(∀ id k,Hd.get id=some k→H.get id=some k∧H2.get id=none)∧(∀ id k2,H2.get id=some k2→∃ k1,H.get id=some k1∧FzB Hd k1 k2)
theorem FzT.refl {Hd:Hp}:∀ (T:List AV),FzT Hd T T
 | []=>.nil
 | x::T=>.same (.refl T)
theorem HFz.wk {H H2:Hp} (h:HFz H H2) (T:List AV):Wk σ T H T H2:=by
 obtain ⟨Hd,h1,h2,h3,h4⟩:=h
 exact Wk.frz h1 h2 h3 h4 (.refl T)
theorem HFz.loop {P:Program} {C:Ctx P} {c:Code} {T:List AV} {H H2:Hp} {Q:Exit→List AV→Hp→Prop} (k:HFz H H2) (h:bi C c T H2 Q):bi C c T H Q:=bi.conv (k.wk T) h
theorem uL {szc sz:Nat} {H:Hp} {y x:AV} {rows:List (List AV)} {row:List AV} {rs:List (List AV)} (hy:Gs szc H y (rows++[row])) (hx:Gs sz H x rs) (hn:dS rs=true) {j:Nat} (hj:row[j]?=some x) (hd:∀ i,own y i→¬ own x i) :
  ∃ H2,HFz H H2∧H2.n=H.n∧Gs szc H2 y (rows++[row.set j (.imm sz rs)])∧∀ i,¬ own y i→¬ own x i→H2.get i=H.get i:=by
 have hjl:=(List.getElem?_eq_some_iff.1 hj).1
 generalize hr:rows++[row]=rr at hy
 cases hy with
 | nil=>simp at hr
 | sl hlt hg hsz =>
  rename_i id ex
  have hrow:row.length=szc:=hsz row (by rw [← hr]; simp)
  have hrr:rr.length=rows.length+1:=by rw [← hr]; simp
  have hget:rr[rows.length]?=some row:=by rw [← hr]; simp
  have hk:=np hsz rows.length row j x hget hj
  obtain ⟨Hd,H2,h1,h2,h3,h4,h5,h6,h7⟩:=DP hx hn hg hk (hd id rfl)
  have hflat:rr.flatten.set (rows.length*szc+j) (.imm sz rs)=(rows++[row.set j (.imm sz rs)]).flatten:=by
   have hkl:=(List.getElem?_eq_some_iff.1 hk).1
   rw [← ml hkl,io (by simp; omega) hsz (by omega)]
   have e1:rr[rows.length]=row:=by
    rw [List.getElem?_eq_getElem (by omega)] at hget
    exact Option.some.inj hget
   have e2:bM row j [AV.imm sz rs]=row.set j (.imm sz rs):=ml hjl
   simp only [e1,e2]
   rw [← hr]
   simp
  rw [hflat] at h6
  have hl:rr.length=(rows++[row.set j (.imm sz rs)]).length:=by rw [hrr]; simp
  refine ⟨H2,⟨Hd,h2,h1,h3,h4⟩,h2,?_,fun i hi hi2=>h7 i (fun e=>hi e.symm) hi2⟩
  rw [hl]
  exact .sl (by omega) h6 (fun r hr'=>by
   rcases List.mem_append.1 hr' with h | h
   ·exact hsz r (by rw [← hr]; simp [h])
   ·simp at h; subst h; simpa using hrow)
abbrev NB:Nat:=1048576
def eV:Nat→List Sl→Nat
 | 0,_=>0
 | f+1,l=>(l.map fun s=>1+(s.map fun p=>(p.c.pseudos.map fun q=>eV f q.list).sum).sum).sum
def jA:Nat→List Sl→Prop
 | 0,_=>False
 | f+1,l=>l.length≤NB∧∀ s ∈ l,s.length≤NB∧∀ p ∈ s,rv p.c∧p.c.pseudos.length≤NB∧∀ q ∈ p.c.pseudos,(i64 q.a∧i64 q.b)∧jA f q.list
structure Do (c:List Lk):Prop where
 len:c.length≤NB
 lk:∀ x ∈ c,EI x
theorem Rep.mono {C D:List (List Lk)}:∀ {f:Nat} {l:List Sl} {ns:List Nat},Rep C f l ns→Rep (C++D) f l ns
 | 0,l,ns,h=>h
 | f+1,l,ns,h=>⟨h.1,fun i s n hs hn=>by
  obtain ⟨c,h1,h2,h3⟩:=h.2 i s n hs hn
  refine ⟨c,by rw [List.getElem?_append_left (List.getElem?_eq_some_iff.1 h1).1]; exact h1,h2,fun k x hx=>⟨(h3 k x hx).1,fun j q ns' hq hns=>((h3 k x hx).2 j q ns' hq hns).mono⟩⟩⟩
structure sn (t:AV) (C:List (List Lk)) (ab mb:Nat) (cs:AV) (H:Hp):Prop where
 gab:H.get ab=some (.cells [t,cs,.mp mb] true)
 nab:ab<H.n
 gcs:Gs 1 H cs (C.map fun c=>[h_ c])
 csab:¬ own cs ab
structure AFr (H:Hp) (cs:AV) (ab:Nat) (H':Hp) (cs':AV):Prop where
 up:H.n≤H'.n
 get:∀ (j:Nat),j<H.n→j≠ab→¬ own cs j→H'.get j=H.get j
 mine:∀ j,own cs' j→own cs j∨H.n≤j
theorem AFr.refl (H:Hp) (cs:AV) (ab:Nat):AFr H cs ab H cs:=⟨Nat.le_refl _,fun _ _ _ _=>rfl,fun j h=>.inl h⟩
theorem AFr.trans {H H1 H2:Hp} {cs cs1 cs2:AV} {ab:Nat} (h:AFr H cs ab H1 cs1) (k:AFr H1 cs1 ab H2 cs2):AFr H cs ab H2 cs2:=by
 refine ⟨Nat.le_trans h.up k.up,fun j hj hne ho=>?_,fun j hj=>?_⟩
 ·rw [k.get j (Nat.lt_of_lt_of_le hj h.up) hne (fun hc=>by
   rcases h.mine j hc with h | h
   ·exact ho h
   ·omega),h.get j hj hne ho]
 ·rcases k.mine j hj with h1 | h1
  ·exact h.mine j h1
  ·have:=h.up; exact .inr (by omega)
theorem AFr.loc {H H1 H2:Hp} {cs cs1:AV} {ab:Nat} (h:AFr H cs ab H1 cs1) (hn:H1.n≤H2.n) (hg:∀ j,j<H.n→H2.get j=H1.get j):AFr H cs ab H2 cs1 :=
 ⟨Nat.le_trans h.up hn,fun j hj hne ho=>by rw [hg j hj,h.get j hj hne ho],h.mine⟩
theorem sn.loc {t:AV} {C:List (List Lk)} {ab mb:Nat} {cs:AV} {H H':Hp} (h:sn t C ab mb cs H) (hn:H.n≤H'.n) (h1:H'.get ab=H.get ab) (h2:∀ j,own cs j→H'.get j=H.get j):sn t C ab mb cs H' :=
 ⟨by rw [h1]; exact h.gab,Nat.lt_of_lt_of_le h.nab hn,h.gcs.keep h2 hn,h.csab⟩
def tu (σ:Sig) (f:Nat):Prop:=∀ (l:List Sl),jA f l→∀ (t:AV) (C:List (List Lk)) (ab mb:Nat) (cs:AV) (H:Hp) (K:AV→Hp→Prop),sn t C ab mb cs H→C.length+eV f l≤NB →
 (∀ (H':Hp) (cs':AV) (C2:List (List Lk)) (r:AV) (ns:List Nat),sn t (C++C2) ab mb cs' H'→Rep (C++C2) f l ns→C2.length=eV f l→(∀ c ∈ C2,Do c)→Gs 1 H' r (ns.map qk)→(∀ j,own r j→H.n≤j∧¬ own cs' j)→AFr H cs ab H' cs'→K r H') →
 ai Try.prog σ dn [.ptr ab 0,sls l] H K
structure AS (t:AV) (C0:List (List Lk)) (ab mb:Nat) (H0:Hp) (cs0:AV) (C2:List (List Lk)) (cs:AV) (H:Hp) (y5:AV) (ns:List Nat):Prop where
 add:sn t (C0++C2) ab mb cs H
 fr:AFr H0 cs0 ab H cs
 ok:∀ c ∈ C2,Do c
 out:Gs 1 H y5 (ns.map qk)
 o5:∀ j,own y5 j→H0.n≤j∧¬ own cs j
structure rQ (H0:Hp) (cs y5:AV) (sz:Nat) (H:Hp) (x:AV) (rows:List (List AV)):Prop where
 gs:Gs sz H x rows
 o:∀ j,own x j→H0.n≤j∧¬ own cs j∧¬ own y5 j
theorem AS.loc {t:AV} {C0 C2:List (List Lk)} {ab mb:Nat} {H0 H H':Hp} {cs0 cs y5:AV} {ns:List Nat} (h:AS t C0 ab mb H0 cs0 C2 cs H y5 ns) (hab:ab<H0.n) (hn:H.n≤H'.n) (hg:∀ j,j<H0.n→H'.get j=H.get j) (h1:∀ j,own cs j→H'.get j=H.get j) (h5:∀ j,own y5 j→H'.get j=H.get j):AS t C0 ab mb H0 cs0 C2 cs H' y5 ns :=
 ⟨h.add.loc hn (hg _ hab) h1,h.fr.loc hn hg,h.ok,h.out.keep h5 hn,h.o5⟩
theorem rQ.loc {H0 H H':Hp} {cs y5 x:AV} {sz:Nat} {rows:List (List AV)} (h:rQ H0 cs y5 sz H x rows) (hn:H.n≤H'.n) (h1:∀ j,own x j→H'.get j=H.get j):rQ H0 cs y5 sz H' x rows:=⟨h.gs.keep h1 hn,h.o⟩
theorem JD {K:AV→Hp→Prop} {y0 y5 y8 y11 y14 y15 y16 y21 y22 y23 y31 y32 y33:AV} {H H2:Hp} (k:HFz H H2) (h:am.L0 σ K y0 y5 y8 y11 y14 y15 y16 y21 y22 y23 y31 y32 y33 H2):am.L0 σ K y0 y5 y8 y11 y14 y15 y16 y21 y22 y23 y31 y32 y33 H:=fun js=>k.loop (h js)
theorem Jc {K:AV→Hp→Prop} {y0 y5 y8 y11 y14 y15 y16 y21 y22 y23 y31 y32 y33:AV} {H H2:Hp} (k:HFz H H2) (h:am.L1 σ K y0 y5 y8 y11 y14 y15 y16 y21 y22 y23 y31 y32 y33 H2):am.L1 σ K y0 y5 y8 y11 y14 y15 y16 y21 y22 y23 y31 y32 y33 H:=fun js=>k.loop (h js)
theorem JS {K:AV→Hp→Prop} {y0 y5 y8 y11 y14 y15 y16 y21 y22 y23 y31 y32 y33:AV} {H H2:Hp} (k:HFz H H2) (h:am.L2 σ K y0 y5 y8 y11 y14 y15 y16 y21 y22 y23 y31 y32 y33 H2):am.L2 σ K y0 y5 y8 y11 y14 y15 y16 y21 y22 y23 y31 y32 y33 H:=fun js=>k.loop (h js)
def kv (l:List Nat):List AV:=[kI l]
section
attribute [local irreducible] am.L0 am.L1 am.L2
theorem tf (l:List (List Nat)):dS (l.map kv)=true:=a_ _ (fun l=>by simp [kv,aU,qH]) l
theorem zF (p:Pt) (lsl:List (List Nat)):dE ⟨p,lsl⟩=aZ p++[.imm 1 (lsl.map kv)]:=rfl
theorem Ii {f:Nat} (ih:tu σ f) {t:AV} {C0:List (List Lk)} {ab mb:Nat} {H0:Hp} {cs0:AV} (hab:ab<H0.n) {K:AV→Hp→Prop} {y5:AV} {ns:List Nat} {cl:List Lk} {p:Pt} (hpl:p.c.pseudos.length≤NB) (hp:∀ q ∈ p.c.pseudos,(i64 q.a∧i64 q.b)∧jA f q.list)
  {y14 y15 y16 y21 y22:AV} {j:Nat} (hj:j<NB) (hcl:cl.length≤j) {R:Nat} {P:List (List Lk)→Prop}
  (hK:∀ (H:Hp) (cs:AV) (C2:List (List Lk)) (y8 y11:AV) (lsl:List (List Nat)) (y31 y32 y33:AV),AS t C0 ab mb H0 cs0 C2 cs H y5 ns→P C2→rQ H0 cs y5 7 H y8 ((cl++[Lk.mk p lsl]).map dE)→lsl.length=p.c.pseudos.length→(∀ (j:Nat) (q:Ps) (ns':List Nat),p.c.pseudos[j]?=some q→lsl[j]?=some ns'→Rep (C0++C2) f q.list ns')→(∀ l ∈ lsl,l.length≤NB) →
   (C0++C2).length+R≤NB→am.L1 σ K (.ptr ab 0) y5 y8 y11 y14 y15 y16 y21 y22 (I ((j+1:Nat):Int)) y31 y32 y33 H) :
  ∀ (m k:Nat) (H:Hp) (cs:AV) (C2:List (List Lk)) (y8:AV) (xb:Nat) (lv:AV) (lsl:List (List Nat)),p.c.pseudos.length - k=m→k≤p.c.pseudos.length→AS t C0 ab mb H0 cs0 C2 cs H y5 ns→(∀ D,C2 <+: D→D.length=C2.length+((p.c.pseudos.drop k).map fun q=>eV f q.list).sum→P D)→rQ H0 cs y5 7 H y8 (cl.map dE)→H.get xb=some (.cells (aZ p++[lv]) true)→H0.n≤xb→xb<H.n→¬ own cs xb→¬ own y5 xb→¬ own y8 xb →
   rQ H0 cs y5 1 H lv (lsl.map kv)→¬ own lv xb→(∀ i,own lv i→¬ own y8 i)→lsl.length=k→(∀ (j:Nat) (q:Ps) (ns':List Nat),p.c.pseudos[j]?=some q→lsl[j]?=some ns'→Rep (C0++C2) f q.list ns')→(∀ l ∈ lsl,l.length≤NB) →
   (C0++C2).length+(((p.c.pseudos.drop k).map fun q=>eV f q.list).sum+R)≤NB →
   am.L2 σ K (.ptr ab 0) y5 y8 (.ptr xb 0) y14 y15 y16 y21 y22 (I (j:Int)) (.imm 4 (p.c.pseudos.map bI)) (I p.c.pseudos.length) (I (k:Int)) H:=by
 have hNB:NB=1048576:=rfl
 intro m
 induction m with
 | zero =>
  intro k H cs C2 y8 xb lv lsl hm hk hA hP h8 gx hx0 hxn hxc hx5 hx8 hl hlx hl8 hlk hrep hlen hcnt
  have:k=p.c.pseudos.length:=by omega
  subst this
  refine am.L2_step ?_
  have hl7:ldL true 7 (aZ p++[lv])=some (.agg (aZ p++[lv])):=cB (by simp)
  simp only [b8,Int.lt_irrefl,decide_false,aa,aj,Bool.false_eq_true,if_false,bA,gx,bK,List.drop_zero,hl7]
  have hone:(aZ p++[lv]).all AV.one=true:=by simp [hl.gs.one]
  refine fk (y:=.agg (aZ p++[lv])) h8.gs (by simp) rfl hone (by simp; omega) (by simp; omega) fun y8' H2 g8 f8=>?_
  simp only [co,aa]
  rw [bW (by omega)]
  have own8:∀ i,own y8' i→H0.n≤i∧¬ own cs i∧¬ own y5 i∧¬ own lv i:=fun i hi=>by
   rcases f8.mine i hi with h | h
   ·exact ⟨(h8.o i h).1,(h8.o i h).2.1,(h8.o i h).2.2,fun h'=>hl8 i h' h⟩
   ·have h0:=hA.fr.up
    exact ⟨by omega,fun h'=>by have:=hA.add.gcs.lt h'; omega,fun h'=>by have:=hA.out.lt h'; omega,fun h'=>by have:=hl.gs.lt h'; omega⟩
  have keep:∀ i,i<H.n→¬ own y8 i→H2.get i=H.get i:=fun i hi ho=>f8.same i hi ho
  have hA2:AS t C0 ab mb H0 cs0 C2 cs H2 y5 ns:=hA.loc hab f8.grow (fun i hi=>keep i (by have:=hA.fr.up; omega) (fun h=>by have:=(h8.o i h).1; omega)) (fun i hi=>keep i (hA.add.gcs.lt hi) (fun h=>(h8.o i h).2.1 hi)) (fun i hi=>keep i (hA.out.lt hi) (fun h=>(h8.o i h).2.2 hi))
  have hl2:Gs 1 H2 lv (lsl.map kv):=hl.gs.keep (fun i hi=>keep i (hl.gs.lt hi) (hl8 i hi)) f8.grow
  have hcells:(AV.agg (aZ p++[lv])).cells=aZ p++[lv]:=rfl
  rw [hcells] at g8
  obtain ⟨H3,z1,z2,z3,z4⟩:=uL (j:=6) g8 hl2 (tf lsl) (by rw [List.getElem?_append_right (by simp)]; simp) (fun i hi=>(own8 i hi).2.2.2)
  have hrow:(aZ p++[lv]).set 6 (.imm 1 (lsl.map kv))=dE ⟨p,lsl⟩:=by
   rw [zF,List.set_append_right _ _ (by simp)]
   simp
  rw [hrow] at z3
  have z3':Gs 7 H3 y8' ((cl++[Lk.mk p lsl]).map dE):=by simpa using z3
  have fin:am.L1 σ K (.ptr ab 0) y5 y8' (.ptr xb 0) y14 y15 y16 y21 y22 (I ((j+1:Nat):Int)) (.imm 4 (p.c.pseudos.map bI)) (I p.c.pseudos.length) (I (p.c.pseudos.length:Int)) H3:=by
   refine hK H3 cs C2 y8' (.ptr xb 0) lsl _ _ _ ?_ (hP C2 (List.prefix_refl _) (by simp)) ⟨z3',fun i hi=>⟨(own8 i hi).1,(own8 i hi).2.1,(own8 i hi).2.2.1⟩⟩ hlk hrep hlen (by simp at hcnt ⊢; omega)
   refine hA2.loc hab (by omega) (fun i hi=>z4 i (fun h=>by have:=(own8 i h).1; omega) (fun h=>by have:=(hl.o i h).1; omega)) (fun i hi=>z4 i (fun h=>(own8 i h).2.1 hi) (fun h=>(hl.o i h).2.1 hi)) (fun i hi=>z4 i (fun h=>(own8 i h).2.2.1 hi) (fun h=>(hl.o i h).2.2 hi))
  exact Jc z1 fin
 | succ m ihm =>
  intro k H cs C2 y8 xb lv lsl hm hk hA hP h8 gx hx0 hxn hxc hx5 hx8 hl hlx hl8 hlk hrep hlen hcnt
  have hlt:k<p.c.pseudos.length:=by omega
  obtain ⟨q,hq⟩:=cb hlt
  have hqm:=List.mem_of_getElem? hq
  have hlt':(k:Int)<p.c.pseudos.length:=by omega
  rw [cN hq,List.map_cons,List.sum_cons] at hcnt
  have hdq:p.c.pseudos.drop k=q::p.c.pseudos.drop (k+1):=cN hq
  refine am.L2_step ?_
  obtain ⟨H6,hH6⟩:∃ H6,H6=(H.new (.cells [I 0,I 0,I 0,.lit (.slice none 0 0)] true)).set H.n (some (.cells (bI q) true)):=⟨_,rfl⟩
  have hst:stA 4 (H.new (.cells [I 0,I 0,I 0,.lit (.slice none 0 0)] true)) (.ptr H.n 0) (.agg (bI q))=some H6:=by
   rw [hH6]
   simp
   rw [yZ q (by simp)]
  have k6:∀ i,i<H.n→H6.get i=H.get i:=fun i hi=>by
   have:i≠H.n:=by omega
   rw [hH6]; simp [this]
  have n6:H6.n=H.n+1:=by rw [hH6]; rfl
  have g6:H6.get H.n=some (.cells (bI q) true):=by rw [hH6]; simp
  clear hH6
  have gx6:H6.get xb=some (.cells (aZ p++[lv]) true):=by rw [k6 xb hxn]; exact gx
  have hd6:ldL false 1 ((aZ p++[lv]).drop 6)=some lv:=by rw [List.drop_append_of_le_length (by simp),List.drop_of_length_le (by simp)]; simp
  simp only [b8,hlt',decide_true,aa,aj,if_true,cd hq,fJ,rM,bl,hst,bx,Nat.zero_add,bA,gx6,bK,hd6,g6,sF]
  have hA6:AS t C0 ab mb H0 cs0 C2 cs H6 y5 ns:=hA.loc hab (by omega) (fun i hi=>k6 i (by have:=hA.fr.up; omega)) (fun i hi=>k6 i (hA.add.gcs.lt hi)) (fun i hi=>k6 i (hA.out.lt hi))
  refine ih q.list (hp q hqm).2 t (C0++C2) ab mb cs H6 _ hA6.add (by omega) fun H' cs' D r ns' a1 a2 a3 a4 a5 a6 a7=>?_
  have hxab:xb≠ab:=by omega
  have k7:∀ i,H0.n≤i→i<H6.n→¬ own cs i→H'.get i=H6.get i:=fun i h1 h2 h3=>a7.get i h2 (by omega) h3
  have gx7:H'.get xb=some (.cells (aZ p++[lv]) true):=by rw [k7 xb hx0 (by omega) hxc]; exact gx6
  have up7:=a7.up
  have cs7:∀ i,own cs' i→own cs i∨H6.n≤i:=a7.mine
  have hl7:rQ H0 cs' y5 1 H' lv (lsl.map kv):=by
   refine ⟨hl.gs.keep (fun i hi=>?_) (by omega),fun i hi=>⟨(hl.o i hi).1,fun h=>?_,(hl.o i hi).2.2⟩⟩
   ·have:=hl.gs.lt hi
    rw [k7 i (hl.o i hi).1 (by omega) (hl.o i hi).2.1,k6 i this]
   ·rcases cs7 i h with h | h
    ·exact (hl.o i hi).2.1 h
    ·have:=hl.gs.lt hi; omega
  have h87:rQ H0 cs' y5 7 H' y8 (cl.map dE):=by
   refine ⟨h8.gs.keep (fun i hi=>?_) (by omega),fun i hi=>⟨(h8.o i hi).1,fun h=>?_,(h8.o i hi).2.2⟩⟩
   ·have:=h8.gs.lt hi
    rw [k7 i (h8.o i hi).1 (by omega) (h8.o i hi).2.1,k6 i this]
   ·rcases cs7 i h with h | h
    ·exact (h8.o i hi).2.1 h
    ·have:=h8.gs.lt hi; omega
  have hA7:AS t C0 ab mb H0 cs0 (C2++D) cs' H' y5 ns:=by
   refine ⟨by rw [← List.append_assoc]; exact a1,hA6.fr.trans a7,fun c hc=>?_,hA6.out.keep (fun i hi=>?_) a7.up,fun i hi=>⟨(hA.o5 i hi).1,fun h=>?_⟩⟩
   ·rcases List.mem_append.1 hc with h | h
    ·exact hA.ok c h
    ·exact a4 c h
   ·exact k7 i (hA.o5 i hi).1 (hA6.out.lt hi) (hA.o5 i hi).2
   ·rcases cs7 i h with h | h
    ·exact (hA.o5 i hi).2 h
    ·have:=hA.out.lt hi; omega
  have hxc7:¬ own cs' xb:=fun h=>by
   rcases cs7 xb h with h | h
   ·exact hxc h
   ·omega
  have hl7':∀ i,own lv i→i<H'.n:=fun i hi=>hl7.gs.lt hi
  have one7:AV.one r=true:=a5.one
  have cel7:=a5.cells
  have hxn7:xb≠H'.n:=by omega
  simp only [pA,gx7]
  refine ⟨by rw [gx6],?_⟩
  have hlenN:lsl.length<NB:=by omega
  refine nr (y:=r) (rows:=lsl.map kv) (by simp [hxn7,gx7]) hl7.gs (by rw [cel7.1]; rfl) cel7.2 (by rw [cel7.1]; simpa using one7) (by simp; omega) (by simp; omega) fun lv' H2 g2 f2=>?_
  rw [cel7.1] at g2
  have ownl:∀ i,own lv' i→own lv i∨(H'.n≤i∧i<H2.n):=f2.mine
  have k8:∀ i,i<H'.n→¬ own lv i→H2.get i=H'.get i:=fun i h1 h2=>f2.same i h1 h2
  have gx8:H2.get xb=some (.cells (aZ p++[lv]) true):=by rw [k8 xb (by omega) hlx]; exact gx7
  have hst2:=g2.st (id:=xb) (off:=6) gx8 (by simp)
  have hset:(aZ p++[lv]).set 6 lv'=aZ p++[lv']:=by
   rw [List.set_append_right _ _ (by simp)]
   simp
  rw [hset] at hst2
  simp only [hst2,aa,co]
  rw [bW (by omega)]
  obtain ⟨H3,hH3⟩:∃ H3,H3=H2.set xb (some (.cells (aZ p++[lv']) true)):=⟨_,rfl⟩
  rw [← hH3]
  have k9:∀ i,i≠xb→H3.get i=H2.get i:=fun i hi=>by rw [hH3]; simp [hi]
  have gx9:H3.get xb=some (.cells (aZ p++[lv']) true):=by rw [hH3]; simp
  have n9:H3.n=H2.n:=by rw [hH3]; rfl
  clear hH3
  have grow2:=f2.grow
  have lvx:¬ own lv' xb:=fun h=>by
   rcases ownl xb h with h | h
   ·exact hlx h
   ·omega
  have rx:¬ own r xb:=fun h=>by have:=(a6 xb h).1; omega
  have rlv:∀ i,own lv' i→¬ own r i:=fun i hi h=>by
   rcases ownl i hi with h1 | h1
   ·have:=(a6 i h).1; have:=hl.gs.lt h1; omega
   ·have:=a5.lt h; omega
  have g9:Gs 1 H3 lv' (lsl.map kv++[[r]]):=g2.keep (fun i hi=>k9 i (fun e=>lvx (e ▸ hi))) (by omega)
  have gr9:Gs 1 H3 r (ns'.map qk):=a5.keep (fun i hi=>by
   rw [k9 i (fun e=>rx (e ▸ hi)),k8 i (a5.lt hi) (fun h=>by have:=(a6 i hi).1; have:=hl.gs.lt h; omega)]) (by omega)
  obtain ⟨H4,z1,z2,z3,z4⟩:=uL (j:=0) g9 gr9 (a_ _ (fun _=>rfl) _) rfl rlv
  have hrow:([r]:List AV).set 0 (.imm 1 (ns'.map qk))=kv ns':=rfl
  rw [hrow] at z3
  have z3':Gs 1 H4 lv' ((lsl++[ns']).map kv):=by simpa using z3
  have same:∀ i,i<H'.n→i≠xb→¬ own lv i→¬ own r i→H4.get i=H'.get i:=fun i h1 h2 h3 h4=>by
   rw [z4 i (fun h=>by
    rcases ownl i h with h | h
    ·exact h3 h
    ·omega) h4,k9 i h2,k8 i h1 h3]
  have hA4:AS t C0 ab mb H0 cs0 (C2++D) cs' H4 y5 ns:=by
   refine hA7.loc hab (by omega) (fun i hi=>same i (by have:=hA7.fr.up; omega) (by omega) (fun h=>by have:=(hl.o i h).1; omega) (fun h=>by have:=(a6 i h).1; have:=hA.fr.up; omega)) (fun i hi=>same i (a1.gcs.lt hi) (fun e=>hxc7 (e ▸ hi)) (fun h=>(hl7.o i h).2.1 hi) (fun h=>(a6 i h).2 hi)) (fun i hi=>same i (hA7.out.lt hi) (fun e=>hx5 (e ▸ hi)) (fun h=>(hl.o i h).2.2 hi) (fun h=>by have:=(a6 i h).1; have:=hA.out.lt hi; omega))
  refine JS z1 ?_
  refine ihm (k+1) H4 cs' (C2++D) y8 xb lv' (lsl++[ns']) (by omega) (by omega) hA4 (fun D2 hpre hD2=>?_) (h87.loc (by omega) fun i hi=>?_) ?_ hx0 (by omega) hxc7 hx5 hx8 ⟨z3',fun i hi=>?_⟩ lvx (fun i hi h=>?_) (by simp [hlk]) (fun j q' ns2 hq' hns2=>?_) (fun l hl=>?_) ?_
  ·refine hP D2 ((List.prefix_append C2 D).trans hpre) ?_
   rw [hD2,hdq,List.map_cons,List.sum_cons,List.length_append,a3]
   omega
  ·exact same i (by have:=h8.gs.lt hi; omega) (fun e=>hx8 (e ▸ hi)) (fun h=>hl8 i h hi) (fun h=>by have:=(a6 i h).1; have:=h8.gs.lt hi; omega)
  ·rw [z4 xb lvx rx]; exact gx9
  ·rcases ownl i hi with h | h
   ·exact hl7.o i h
   ·exact ⟨by omega,fun h'=>by have:=a1.gcs.lt h'; omega,fun h'=>by have:=hA7.out.lt h'; omega⟩
  ·rcases ownl i hi with h1 | h1
   ·exact hl8 i h1 h
   ·have:=h8.gs.lt h; omega
  ·rw [← List.append_assoc]
   by_cases hjk:j<lsl.length
   ·rw [List.getElem?_append_left hjk] at hns2
    exact (hrep j q' ns2 hq' hns2).mono
   ·rw [List.getElem?_append_right (by omega)] at hns2
    have h1:=(List.getElem?_eq_some_iff.1 hns2).1
    simp at h1
    have:j=k:=by omega
    subst this
    rw [hq] at hq'
    cases hq'
    simp [hlk] at hns2
    subst hns2
    exact a2
  ·rcases List.mem_append.1 hl with h | h
   ·exact hlen l h
   ·simp at h
    subst h
    have hsl:=(hp q hqm).2
    cases f with
    | zero=>exact hsl.elim
    | succ f =>
     have:=a2.1
     have:=hsl.1
     omega
  ·rw [← List.append_assoc,List.length_append,a3]
   omega
def vZ (C:List (List Lk)) (f:Nat) (cl:List Lk):Prop:=∀ (k:Nat) (x:Lk),cl[k]?=some x→x.lists.length=x.part.c.pseudos.length∧∀ (j:Nat) (q:Ps) (ns:List Nat),x.part.c.pseudos[j]?=some q→x.lists[j]?=some ns→Rep C f q.list ns
def tb (f:Nat) (p:Pt):Nat:=(p.c.pseudos.map fun q=>eV f q.list).sum
def JO (f:Nat) (s:Sl):Prop:=s.length≤NB∧∀ p ∈ s,rv p.c∧p.c.pseudos.length≤NB∧∀ q ∈ p.c.pseudos,(i64 q.a∧i64 q.b)∧jA f q.list
theorem Ir {f:Nat} (ih:tu σ f) {t:AV} {C0:List (List Lk)} {ab mb:Nat} {H0:Hp} {cs0:AV} (hab:ab<H0.n) {K:AV→Hp→Prop} {y5:AV} {ns:List Nat} (hns:ns.length<NB) {s:Sl} (hs:JO f s) {y14 y15:AV} {m0:Nat} (hm0:m0<NB) {R:Nat} {Q:List (List Lk)→Prop}
  (hK:∀ (H:Hp) (cs:AV) (C2:List (List Lk)) (y5' y8 y11 y21 y22 y23 y31 y32 y33:AV) (cl:List Lk),AS t C0 ab mb H0 cs0 (C2++[cl]) cs H y5' (ns++[(C0++C2).length])→Q C2→cl.map (·.part)=s→vZ (C0++C2) f cl→(C0++C2).length+1+R≤NB →
   am.L0 σ K (.ptr ab 0) y5' y8 y11 y14 y15 (I ((m0+1:Nat):Int)) y21 y22 y23 y31 y32 y33 H) :
  ∀ (n2 j:Nat) (H:Hp) (cs:AV) (C2:List (List Lk)) (y8 y11 y31 y32 y33:AV) (cl:List Lk),s.length - j=n2→j≤s.length→AS t C0 ab mb H0 cs0 C2 cs H y5 ns→(∀ D,C2 <+: D→D.length=C2.length+((s.drop j).map (tb f)).sum→Q D)→rQ H0 cs y5 7 H y8 (cl.map dE)→cl.map (·.part)=s.take j→vZ (C0++C2) f cl→(∀ x ∈ cl,EI x) →
   (C0++C2).length+(((s.drop j).map (tb f)).sum+(1+R))≤NB →
   am.L1 σ K (.ptr ab 0) y5 y8 y11 y14 y15 (I (m0:Int)) (.imm 6 (s.map aZ)) (I s.length) (I (j:Int)) y31 y32 y33 H:=by
 have hNB:NB=1048576:=rfl
 intro n2
 induction n2 with
 | zero =>
  intro j H cs C2 y8 y11 y31 y32 y33 cl hn hj hA hQ h8 hparts hrep hlk hcnt
  have:j=s.length:=by omega
  subst this
  rw [List.take_length] at hparts
  have hcl:cl.length=s.length:=by rw [← hparts,List.length_map]
  refine am.L1_step ?_
  have hcs1:ldA false 1 H (.ptr ab 1)=some cs:=by simp [hA.add.gab]
  have hlenC:a8 cs=some (I ((C0++C2).length:Int)):=by rw [hA.add.gcs.len,List.length_map]
  simp only [b8,Int.lt_irrefl,decide_false,aa,aj,Bool.false_eq_true,if_false,fw,bx,Nat.zero_add,hcs1,hlenC]
  have habn:=hA.add.nab
  have up0:=hA.fr.up
  have cslt:∀ i,own cs i→i<H.n:=fun i hi=>hA.add.gcs.lt hi
  refine fk (y:=I ((C0++C2).length:Int)) hA.out rfl rfl rfl (by simp; omega) (by simp; omega) fun y5' H1 g1 f1=>?_
  have grow1:=f1.grow
  have k1:∀ i,i<H.n→¬ own y5 i→H1.get i=H.get i:=fun i h1 h2=>f1.same i h1 h2
  have h5ab:¬ own y5 ab:=fun h=>by have:=(hA.o5 ab h).1; omega
  have gab1:H1.get ab=some (.cells [t,cs,.mp mb] true):=by rw [k1 ab habn h5ab]; exact hA.add.gab
  have gcs1:Gs 1 H1 cs ((C0++C2).map fun c=>[h_ c]):=hA.add.gcs.keep (fun i hi=>k1 i (cslt i hi) (fun h=>(hA.o5 i h).2 hi)) f1.grow
  have g81:Gs 7 H1 y8 (cl.map dE):=h8.gs.keep (fun i hi=>k1 i (h8.gs.lt hi) (fun h=>(h8.o i hi).2.2 h)) f1.grow
  have hcs2:ldA false 1 H1 (.ptr ab 1)=some cs:=by simp [gab1]
  simp only [fw,aa,bx,Nat.zero_add,hcs2]
  have cel8:=h8.gs.cells
  have own5:∀ i,own y5' i→own y5 i∨(H.n≤i∧i<H1.n):=f1.mine
  refine fk (y:=y8) gcs1 (by rw [cel8.1]; rfl) cel8.2 (by rw [cel8.1]; simpa using h8.gs.one) (by simp at hcnt ⊢; omega) (by simp at hcnt ⊢; omega) fun cs' H2 g2 f2=>?_
  rw [cel8.1] at g2
  have grow2:=f2.grow
  have csab:¬ own cs ab:=hA.add.csab
  have k2:∀ i,i<H1.n→¬ own cs i→H2.get i=H1.get i:=fun i h1 h2=>f2.same i h1 h2
  have gab2:H2.get ab=some (.cells [t,cs,.mp mb] true):=by rw [k2 ab (by omega) csab]; exact gab1
  have ownc:∀ i,own cs' i→own cs i∨(H1.n≤i∧i<H2.n):=f2.mine
  have cs'ab:¬ own cs' ab:=fun h=>by
   rcases ownc ab h with h | h
   ·exact csab h
   ·omega
  have hst:=g2.st (id:=ab) (off:=1) gab2 (by simp)
  simp only [fw,aa,bx,Nat.zero_add,hst,co]
  rw [bW (by omega)]
  obtain ⟨H3,hH3⟩:∃ H3,H3=H2.set ab (some (.cells ([t,cs,.mp mb].set 1 cs') true)):=⟨_,rfl⟩
  rw [← hH3]
  have k3:∀ i,i≠ab→H3.get i=H2.get i:=fun i hi=>by rw [hH3]; simp [hi]
  have gab3:H3.get ab=some (.cells [t,cs',.mp mb] true):=by rw [hH3]; simp
  have n3:H3.n=H2.n:=by rw [hH3]; rfl
  clear hH3
  have c8:∀ i,own cs' i→¬ own y8 i:=fun i hi h=>by
   rcases ownc i hi with h1 | h1
   ·exact (h8.o i h).2.1 h1
   ·have:=h8.gs.lt h; omega
  have g3:Gs 1 H3 cs' (((C0++C2).map fun c=>[h_ c])++[[y8]]):=g2.keep (fun i hi=>k3 i (fun e=>cs'ab (e ▸ hi))) (by omega)
  have g83:Gs 7 H3 y8 (cl.map dE):=g81.keep (fun i hi=>by
   have h1:=(h8.o i hi)
   have:=h8.gs.lt hi
   rw [k3 i (by omega),k2 i (by omega) h1.2.1]) (by omega)
  obtain ⟨H4,z1,z2,z3,z4⟩:=uL (j:=0) g3 g83 (a_ _ Eh _) rfl c8
  have hrow:([y8]:List AV).set 0 (.imm 7 (cl.map dE))=[h_ cl]:=rfl
  rw [hrow] at z3
  have z3':Gs 1 H4 cs' ((C0++(C2++[cl])).map fun c=>[h_ c]):=by simpa using z3
  have y8ab:¬ own y8 ab:=fun h=>by have:=(h8.o ab h).1; omega
  have same:∀ i,i<H1.n→i≠ab→¬ own cs i→¬ own y8 i→H4.get i=H1.get i:=fun i h1 h2 h3 h4=>by
   rw [z4 i (fun h=>by
    rcases ownc i h with h | h
    ·exact h3 h
    ·omega) h4,k3 i h2,k2 i h1 h3]
  refine JD z1 ?_
  have o5':∀ i,own y5' i→H0.n≤i∧¬ own cs i∧¬ own y8 i:=fun i hi=>by
   rcases own5 i hi with h | h
   ·exact ⟨(hA.o5 i h).1,(hA.o5 i h).2,fun h'=>(h8.o i h').2.2 h⟩
   ·exact ⟨by omega,fun h'=>by have:=cslt i h'; omega,fun h'=>by have:=h8.gs.lt h'; omega⟩
  have g5:Gs 1 H4 y5' ((ns++[(C0++C2).length]).map qk):=by
   have:(I ((C0++C2).length:Int)).cells=qk (C0++C2).length:=rfl
   rw [this] at g1
   have h1:Gs 1 H1 y5' ((ns++[(C0++C2).length]).map qk):=by simpa using g1
   refine h1.keep (fun i hi=>same i (h1.lt hi) (fun e=>?_) (o5' i hi).2.1 (o5' i hi).2.2) (by omega)
   subst e
   have:=(o5' i hi).1
   omega
  refine hK H4 cs' C2 y5' y8 _ _ _ _ _ _ _ cl ⟨⟨?_,by omega,z3',cs'ab⟩,⟨by omega,fun i h1 h2 h3=>?_,fun i hi=>?_⟩,fun c hc=>?_,g5,fun i hi=>⟨(o5' i hi).1,fun h=>?_⟩⟩ (hQ C2 (List.prefix_refl _) (by simp)) hparts hrep (by simp at hcnt ⊢; omega)
  ·rw [z4 ab cs'ab y8ab]; exact gab3
  ·have hi5:¬ own y5 i:=fun h=>by have:=(hA.o5 i h).1; omega
   have hi8:¬ own y8 i:=fun h=>by have:=(h8.o i h).1; omega
   have hic:¬ own cs i:=fun h=>by
    rcases hA.fr.mine i h with h | h
    ·exact h3 h
    ·omega
   rw [same i (by omega) h2 hic hi8,k1 i (by omega) hi5]
   exact hA.fr.get i h1 h2 h3
  ·rcases ownc i hi with h | h
   ·exact hA.fr.mine i h
   ·exact .inr (by omega)
  ·rcases List.mem_append.1 hc with h | h
   ·exact hA.ok c h
   ·simp at h
    subst h
    exact ⟨by rw [hcl]; exact hs.1,hlk⟩
  ·rcases ownc i h with h | h
   ·exact (o5' i hi).2.1 h
   ·rcases own5 i hi with h' | h'
    ·have:=hA.out.lt h'; omega
    ·omega
 | succ n2 ih2 =>
  intro j H cs C2 y8 y11 y31 y32 y33 cl hn hj hA hQ h8 hparts hrep hlk hcnt
  have hlt:j<s.length:=by omega
  obtain ⟨p,hp⟩:=cb hlt
  have hpm:=List.mem_of_getElem? hp
  obtain ⟨hc1,hc2,hc3⟩:=hs.2 p hpm
  have hlt':(j:Int)<s.length:=by omega
  have hdp:s.drop j=p::s.drop (j+1):=cN hp
  rw [hdp,List.map_cons,List.sum_cons] at hcnt
  have hcl:cl.length=j:=by
   have:=congrArg List.length hparts
   simp at this
   omega
  refine am.L1_step ?_
  have hst1:stA 6 (H.new (.cells [I 0,Sx ⟨#[]⟩,.lit (.slice none 0 0),.lit (.slice none 0 0),.lit (.slice none 0 0),.lit (.slice none 0 0)] true)) (.ptr H.n 0) (.agg (aZ p))=some ((H.new (.cells [I 0,Sx ⟨#[]⟩,.lit (.slice none 0 0),.lit (.slice none 0 0),.lit (.slice none 0 0),.lit (.slice none 0 0)] true)).set H.n (some (.cells (aZ p) true))):=by
   simp
   rw [FY p (by simp)]
  obtain ⟨H1,hH1⟩:∃ H1,H1=(H.new (.cells [I 0,Sx ⟨#[]⟩,.lit (.slice none 0 0),.lit (.slice none 0 0),.lit (.slice none 0 0),.lit (.slice none 0 0)] true)).set H.n (some (.cells (aZ p) true)):=⟨_,rfl⟩
  rw [← hH1] at hst1
  have k1:∀ i,i<H.n→H1.get i=H.get i:=fun i hi=>by
   have:i≠H.n:=by omega
   rw [hH1]; simp [this]
  have g1:H1.get H.n=some (.cells (aZ p) true):=by rw [hH1]; simp
  have n1:H1.n=H.n+1:=by rw [hH1]; rfl
  clear hH1
  have hb:aY [I 0,Sx ⟨#[]⟩,.lit (.slice none 0 0),.lit (.slice none 0 0),.lit (.slice none 0 0),.lit (.slice none 0 0),.lit (.slice none 0 0)] [(0,6,.agg (aZ p))]=some (aZ p++[.lit (.slice none 0 0)]):=by
   simp only [aY,xl,dt,jn,decide_true,wY,Bool.not_false,Bool.and_true,rZ]
   simp [bM]
  have hst2:stA 7 (H1.new (.cells [I 0,Sx ⟨#[]⟩,.lit (.slice none 0 0),.lit (.slice none 0 0),.lit (.slice none 0 0),.lit (.slice none 0 0),.lit (.slice none 0 0)] true)) (.ptr H1.n 0) (.agg (aZ p++[.lit (.slice none 0 0)]))=some ((H1.new (.cells [I 0,Sx ⟨#[]⟩,.lit (.slice none 0 0),.lit (.slice none 0 0),.lit (.slice none 0 0),.lit (.slice none 0 0),.lit (.slice none 0 0)] true)).set H1.n (some (.cells (aZ p++[.lit (.slice none 0 0)]) true))):=by
   simp
   rw [aS (by simp)]
  obtain ⟨H2,hH2⟩:∃ H2,H2=(H1.new (.cells [I 0,Sx ⟨#[]⟩,.lit (.slice none 0 0),.lit (.slice none 0 0),.lit (.slice none 0 0),.lit (.slice none 0 0),.lit (.slice none 0 0)] true)).set H1.n (some (.cells (aZ p++[.lit (.slice none 0 0)]) true)):=⟨_,rfl⟩
  rw [← hH2] at hst2
  have k2:∀ i,i<H1.n→H2.get i=H1.get i:=fun i hi=>by
   have:i≠H1.n:=by omega
   rw [hH2]; simp [this]
  have g2:H2.get H1.n=some (.cells (aZ p++[.lit (.slice none 0 0)]) true):=by rw [hH2]; simp
  have n2':H2.n=H1.n+1:=by rw [hH2]; rfl
  clear hH2
  have g1':H2.get H.n=some (.cells (aZ p) true):=by rw [k2 H.n (by omega)]; exact g1
  have hps:ldL false 1 ((aZ p).drop 5)=some (.imm 4 (p.c.pseudos.map bI)):=by rw [dy,cR]; rfl
  simp only [b8,hlt',decide_true,aa,aj,if_true,cd hp,fJ,Bl,bl,hst1,bA,g1,bK,List.drop_zero,hb,hst2,bx,Nat.zero_add,g1',hps,fR,List.length_map]
  have up0:=hA.fr.up
  have kk:∀ i,i<H.n→H2.get i=H.get i:=fun i hi=>by rw [k2 i (by omega),k1 i hi]
  have hA2:AS t C0 ab mb H0 cs0 C2 cs H2 y5 ns:=hA.loc hab (by omega) (fun i hi=>kk i (by omega)) (fun i hi=>kk i (hA.add.gcs.lt hi)) (fun i hi=>kk i (hA.out.lt hi))
  refine Ii ih hab hc2 hc3 (j:=j) (R:=((s.drop (j+1)).map (tb f)).sum+(1+R)) (P:=fun D=>C2 <+: D∧D.length=C2.length+tb f p) (by have:=hs.1; omega) (Nat.le_of_eq hcl) (fun H' cs' C3 y8' y11' lsl y31' y32' y33' b1 b2 b3 b4 b5 b6 b7=>?_) p.c.pseudos.length 0 H2 cs C2 y8 H1.n (.lit (.slice none 0 0)) [] (by omega) (Nat.zero_le _) hA2 (fun D h1 h2=>⟨h1,by rw [h2]; rfl⟩) (h8.loc (by omega) fun i hi=>kk i (h8.gs.lt hi)) g2 (by omega) (by omega) (fun h=>by have:=hA.add.gcs.lt h; omega) (fun h=>by have:=hA.out.lt h; omega) (fun h=>by have:=h8.gs.lt h; omega) ⟨.nil,fun i h=>h.elim⟩ (fun h=>h) (fun i h=>h.elim) rfl (fun j q ns' _ h=>by simp at h) (fun l h=>by cases h) (by have hcp:tb f p=(p.c.pseudos.map (fun q=>eV f q.list)).sum:=rfl; rw [hcp] at hcnt; simp only [List.drop_zero]; omega)
  obtain ⟨D,hD⟩:=b2.1
  refine ih2 (j+1) H' cs' C3 y8' y11' y31' y32' y33' (cl++[Lk.mk p lsl]) (by omega) (by omega) b1 (fun D2 h1 h2=>hQ D2 (b2.1.trans h1) ?_) b3 ?_ (fun k x hx=>?_) (fun x hx=>?_) b7
  ·rw [h2,b2.2,hdp,List.map_cons,List.sum_cons]
   omega
  ·rw [List.map_append,hparts,List.take_succ_eq_append_getElem hlt]
   rw [List.getElem?_eq_getElem hlt] at hp
   rw [Option.some.inj hp]
   rfl
  ·by_cases hk:k<cl.length
   ·rw [List.getElem?_append_left hk] at hx
    refine ⟨(hrep k x hx).1,fun j q ns' h1 h2=>?_⟩
    have:=((hrep k x hx).2 j q ns' h1 h2).mono (D:=D)
    rwa [List.append_assoc,hD] at this
   ·rw [List.getElem?_append_right (by omega)] at hx
    have h1:=(List.getElem?_eq_some_iff.1 hx).1
    simp at h1
    have:k - cl.length=0:=by omega
    rw [this] at hx
    simp at hx
    subst hx
    exact ⟨b4,b5⟩
  ·rcases List.mem_append.1 hx with h | h
   ·exact hlk x h
   ·simp at h
    subst h
    refine ⟨hc1,fun q hq=>(hc3 q hq).1,fun l hl=>?_⟩
    have:=b6 l hl
    rw [ed]
    omega
theorem CA {f:Nat} (ih:tu σ f):tu σ (f+1):=by
 have hNB:NB=1048576:=rfl
 intro l hl t C ab mb cs H K hA hcnt hK
 have L0:∀ (n m:Nat) (H1:Hp) (cs1:AV) (C2:List (List Lk)) (y5 y8 y11 y21 y22 y23 y31 y32 y33:AV) (ns:List Nat),l.length - m=n→m≤l.length→AS t C ab mb H cs C2 cs1 H1 y5 ns→Rep (C++C2) (f+1) (l.take m) ns→C2.length=eV (f+1) (l.take m)→(C++C2).length+eV (f+1) (l.drop m)≤NB →
   am.L0 σ K (.ptr ab 0) y5 y8 y11 (sls l) (I l.length) (I (m:Int)) y21 y22 y23 y31 y32 y33 H1:=by
  intro n
  induction n with
  | zero =>
   intro m H1 cs1 C2 y5 y8 y11 y21 y22 y23 y31 y32 y33 ns hn hm h1 hr hc hb
   have:m=l.length:=by omega
   subst this
   rw [List.take_length] at hr hc
   refine am.L0_step ?_
   simp only [b8,Int.lt_irrefl,decide_false,aa,aj,Bool.false_eq_true,if_false]
   exact hK H1 cs1 C2 y5 ns h1.add hr hc h1.ok h1.out h1.o5 h1.fr
  | succ n ihn =>
   intro m H1 cs1 C2 y5 y8 y11 y21 y22 y23 y31 y32 y33 ns hn hm h1 hr hc hb
   have hlt:m<l.length:=by omega
   obtain ⟨s,hs⟩:=cb hlt
   have hsm:=List.mem_of_getElem? hs
   have hsk:JO f s:=hl.2 s hsm
   have hlt':(m:Int)<l.length:=by omega
   have hds:l.drop m=s::l.drop (m+1):=cN hs
   have hlb:=hl.1
   have hnl:ns.length=m:=by rw [hr.1,List.length_take]; omega
   have hcons:eV (f+1) (s::l.drop (m+1))=1+(s.map (tb f)).sum+eV (f+1) (l.drop (m+1)):=by
    simp [eV]
    rfl
   rw [hds,hcons] at hb
   have htk:eV (f+1) (l.take (m+1))=eV (f+1) (l.take m)+(1+(s.map (tb f)).sum):=by
    have:l.take (m+1)=l.take m++[s]:=by rw [List.take_add_one,hs]; rfl
    rw [this]
    simp [eV]
    rfl
   refine am.L0_step ?_
   have hix:aQ 1 (sls l) (I (m:Int))=some (.ip (bc s)):=cd hs
   have hst:stA 1 (H1.new (.cells [.lit (.slice none 0 0)] true)) (.ptr H1.n 0) (.agg (bc s))=some ((H1.new (.cells [.lit (.slice none 0 0)] true)).set H1.n (some (.cells (bc s) true))):=by
    simp [bc]
   simp only [b8,hlt',decide_true,aa,aj,if_true,hix,fJ,ry,bl,hst,bx,Nat.zero_add,bA,ax,bK,List.drop_zero,sX,fR,List.length_map]
   have up0:=h1.fr.up
   have hab:=hA.nab
   have kk:∀ i,i<H1.n→((H1.new (.cells [.lit (.slice none 0 0)] true)).set H1.n (some (.cells (bc s) true))).get i=H1.get i:=fun i hi=>by
    have:i≠H1.n:=by omega
    simp [this]
   have h1':=h1.loc (H':=(H1.new (.cells [.lit (.slice none 0 0)] true)).set H1.n (some (.cells (bc s) true))) hab (by simp) (fun i hi=>kk i (by omega)) (fun i hi=>kk i (h1.add.gcs.lt hi)) (fun i hi=>kk i (h1.out.lt hi))
   refine Ir ih hab (by omega) hsk (m0:=m) (by omega) (R:=eV (f+1) (l.drop (m+1))) (Q:=fun D=>C2 <+: D∧D.length=C2.length+(s.map (tb f)).sum) (fun H' cs' C3 y5' y8' y11' y21' y22' y23' y31' y32' y33' cl b1 b2 b3 b4 b5=>?_) s.length 0 _ cs1 C2 (.lit (.slice none 0 0)) _ _ _ _ [] (by omega) (Nat.zero_le _) h1' (fun D g1 g2=>⟨g1,by simpa using g2⟩) ⟨.nil,fun i h=>h.elim⟩ rfl (fun k x h=>by simp at h) (fun x h=>by cases h) (by simp at hb ⊢; omega)
   obtain ⟨D,hD⟩:=b2.1
   refine ihn (m+1) H' cs' (C3++[cl]) y5' y8' y11' y21' y22' y23' y31' y32' y33' _ (by omega) (by omega) b1 ⟨by simp [hnl]; omega,fun i s' n' hs' hn'=>?_⟩ ?_ (by simp at b5 ⊢; omega)
   ·by_cases hi:i<m
    ·rw [List.getElem?_take,if_pos (by omega)] at hs'
     rw [List.getElem?_append_left (by omega)] at hn'
     have hr2:Rep (C++(C3++[cl])) (f+1) (l.take m) ns:=by
      have:=hr.mono (D:=D++[cl])
      rwa [show C++C2++(D++[cl])=C++(C3++[cl]) by rw [← hD]; simp] at this
     exact hr2.2 i s' n' (by rw [List.getElem?_take,if_pos hi]; exact hs') hn'
    ·rw [List.getElem?_append_right (by omega)] at hn'
     have h2:=(List.getElem?_eq_some_iff.1 hn').1
     simp at h2
     have him:i=m:=by omega
     subst him
     rw [List.getElem?_take,if_pos (by omega),hs] at hs'
     cases hs'
     simp [hnl] at hn'
     subst hn'
     refine ⟨cl,by simp,b3,fun k x hx=>⟨(b4 k x hx).1,fun j q ns' g1 g2=>?_⟩⟩
     have:=((b4 k x hx).2 j q ns' g1 g2).mono (D:=[cl])
     rwa [List.append_assoc] at this
   ·rw [htk,List.length_append,b2.2,hc]
    simp
    omega
 refine am.run ?_
 simp
 refine L0 l.length 0 H cs [] _ _ _ _ _ _ _ _ _ [] (by omega) (Nat.zero_le _) ⟨by simpa using hA,.refl _ _ _,fun c h=>(by cases h),.nil,fun i h=>h.elim⟩ ⟨rfl,fun i s n h=>by simp at h⟩ (by simp [eV]) (by simpa using hcnt)
theorem AY:∀ (f:Nat),tu σ f
 | 0=>fun l h=>h.elim
 | f+1=>CA (AY f)
end
end Go.Proofs.Ythmaggcfghjmfaa.Ev
namespace Go.Proofs.Ythmaggcfghjmfaa.Ev
set_option linter.unusedVariables false
set_option linter.unusedSimpArgs false
variable {σ:Sig}
theorem Fs {sz:Nat} {H:Hp} {x:AV} {rows:List (List AV)} (hg:Gs sz H x rows) (hn:dS rows=true) :
  ∃ Hd H2:Hp,Hd.n=H.n∧H2.n=H.n∧(∀ id k,Hd.get id=some k→H.get id=some k∧H2.get id=none)∧(∀ id k2,H2.get id=some k2→∃ k1,H.get id=some k1∧FzB Hd k1 k2)∧Fz Hd x (.imm sz rows)∧∀ j,¬ own x j→H2.get j=H.get j:=by
 cases hg with
 | nil =>
  let Hd:Hp:=⟨H.n,Hp.empty.t⟩
  have hd0:∀ id,Hd.get id=none:=fun id=>by simp [Hd,Hp.empty,Hp.get,Tr.get]
  exact ⟨Hd,H,rfl,rfl,fun id k h=>(by rw [hd0] at h; cases h),fun id k2 h=>⟨k2,h,.refl _ _⟩,.nil,fun j _=>rfl⟩
 | sl hlt hg hsz =>
  rename_i id exx
  let Hd:Hp:=(⟨H.n,Hp.empty.t⟩:Hp).set id (some (.cells rows.flatten exx))
  have hd0:∀ j,Hd.get j=if j=id then some (.cells rows.flatten exx) else none:=fun j=>by
   show ((⟨H.n,Hp.empty.t⟩:Hp).set id _).get j=_
   rw [ax]
   split
   ·rfl
   ·simp [Hp.empty,Hp.get,Tr.get]
  have hf:Fz Hd (.sl id 0 sz rows.length none) (.imm sz rows):=.rows (cs:=rows.flatten) (ex:=exx) (by rw [hd0,if_pos rfl]) hsz (by rw [List.drop_zero]; exact List.take_of_length_le (by rw [df hsz]; exact Nat.le_refl _)) hn
  refine ⟨Hd,H.set id none,rfl,rfl,fun j k h=>?_,fun j k2 h=>?_,hf,fun j ho=>?_⟩
  ·rw [hd0] at h
   split at h
   ·rename_i e; subst e; cases h
    exact ⟨hg,by simp⟩
   ·cases h
  ·rw [ax] at h
   split at h
   ·cases h
   ·exact ⟨k2,h,.refl _ _⟩
  ·have:j≠id:=fun e=>ho (by rw [e]; rfl)
   simp [this]
theorem GK {f:Nat} {l:List Sl} (hl:jA f l) {t:AV} {C:List (List Lk)} {ab mb:Nat} {cs:AV} {H:Hp} {K:AV→Hp→Prop} (hA:sn t C ab mb cs H) (hc:C.length+eV f l≤NB)
  (hK:∀ (H':Hp) (cs':AV) (C2:List (List Lk)) (ns:List Nat),sn t (C++C2) ab mb cs' H'→Rep (C++C2) f l ns→C2.length=eV f l→(∀ c ∈ C2,Do c)→AFr H cs ab H' cs'→K (kI ns) H'):ai Try.prog σ dn [.ptr ab 0,sls l] H K:=by
 obtain ⟨r,H1,hg,cs',C2,ns,h1,h2,h3,h4,h5,h6,h7⟩:=AY (σ:=σ) f l hl t C ab mb cs H (fun r H'=>∃ cs' C2 ns,sn t (C++C2) ab mb cs' H'∧Rep (C++C2) f l ns∧C2.length=eV f l∧(∀ c ∈ C2,Do c)∧Gs 1 H' r (ns.map qk)∧(∀ j,own r j→H.n≤j∧¬ own cs' j)∧AFr H cs ab H' cs') hA hc fun H' cs' C2 r ns a b c d e f g=>⟨cs',C2,ns,a,b,c,d,e,f,g⟩
 obtain ⟨Hd,H2,a1,a2,a3,a4,a5,a6⟩:=Fs h5 (a_ _ (fun _=>rfl) ns)
 have hab:=hA.nab
 refine aw (hg.frzH a2 a1 a3 a4 (.inr a5)) (hK H2 cs' C2 ns (h1.loc (by omega) (a6 _ fun h=>?_) fun j hj=>a6 _ fun h=>(h6 j h).2 hj) h2 h3 h4 (h7.loc (by omega) fun j hj=>a6 _ fun h=>?_))
 ·have:=(h6 _ h).1; omega
 ·have:=(h6 _ h).1; omega
theorem Cq {C D:List (List Lk)} {n:Nat} (h:n<C.length):lQ (C++D) n=lQ C n:=by
 unfold lQ
 rw [List.getD_eq_getElem?_getD,List.getD_eq_getElem?_getD,List.getElem?_append_left h]
theorem DC {L:List Nd} {C D:List (List Lk)} {n:Nat} (h:n<C.length) (i e:Nat) (a:Bool):Tru L (C++D) n i e a=Tru L C n i e a:=by
 unfold Tru
 rw [Cq h]
theorem kV.app {L:List Nd} {C D:List (List Lk)} {es:List (AV × AV)} (h:kV C.length (Tru L C) es):kV (C++D).length (Tru L (C++D)) es:=fun p hp=>by
 obtain ⟨n,i,e,a,h1,h2,h3⟩:=h p hp
 exact ⟨n,i,e,a,by rw [List.length_append]; omega,by rw [DC h1]; exact h2,h3⟩
theorem qZ (f:Nat) (s:Sl) (l:List Sl):eV f (s::l)=eV f [s]+eV f l:=by
 cases f with
 | zero=>rfl
 | succ f=>simp [eV]
theorem lj.one {f:Nat} {l:List Sl} (h:lj f l) {s:Sl} (hs:s ∈ l):lj f [s]:=by
 cases f with
 | zero=>exact h
 | succ f=>exact fun s' hs'=>by rw [List.mem_singleton.1 hs']; exact h s hs
theorem jA.one {f:Nat} {l:List Sl} (h:jA f l) {s:Sl} (hs:s ∈ l):jA f [s]:=by
 cases f with
 | zero=>exact h
 | succ f=>exact ⟨(by show 1≤NB; decide),fun s' hs'=>by rw [List.mem_singleton.1 hs']; exact h.2 s hs⟩
theorem Ic {l:List Sl} {m:Nat} {s:Sl} (h:l[m]?=some s):t0 1 (sls l) (some (I (m:Int))) (some (I ((m+1:Nat):Int))) none=some (sls [s]):=by
 have hlt:=(List.getElem?_eq_some_iff.1 h).1
 have e1:((m:Int)+1)≤l.length:=by omega
 have e2:(0:Int)≤(m:Int)+1:=by omega
 have e3:((m:Int)+1).toNat=m+1:=by omega
 have e4:(List.drop m (l.map bc)).take 1=[bc s]:=by
  rw [← List.map_drop,cN h]; rfl
 simp [t0,nE,jx,wd,sls,cL,eM,jn,e1,e2,e3,e4,show ((m:Int)≤(m:Int)+1) from by omega]
def ku (L:List Nd) (f:Nat) (l:List Sl) (e:Nat):Bool:=l.any fun s=>jm f [s] 8&&AA L [s] e
structure McT (σ:Sig) (L:List Nd) (d:List Nat):Prop where
 hC:mK σ
 hB:db L L.length d
 hN:L.length≤4096
 sm:∀ e,e<L.length→SmN (cg (cQ L e))
structure lF (f:Nat) (l:List Sl):Prop where
 wf:gt cU l
 ok:jA f l
 nest:lj f l
 hf:f≤12
 cnt:eV f l≤NB
section
attribute [local irreducible] c9.L0
theorem Hr {L:List Nd} {d:List Nat} (M:McT σ L d) {f:Nat} {l:List Sl} (S:lF f l) (e:Int) (H:Hp) :
  aH Try.prog σ i7 [dw L d,I e,sls l] H (Bo (decide (0≤e)&&decide (e<L.length)&&ku L f l e.toNat)) H:=by
 have hNB:NB=1048576:=rfl
 refine bP (fun K hK=>c9.run (aw (JZ L d e _) ?_)) (by simp [aU,bQ,cq,mI]) rfl H
 simp only [ep,aa,aj]
 cases hin:(decide (0≤e)&&decide (e<L.length)) with
 | false=>rw [hin] at hK; simpa using hK _
 | true =>
 rw [hin] at hK
 simp only [Bool.true_and] at hK
 simp only [Bool.and_eq_true,decide_eq_true_eq] at hin
 obtain ⟨en,rfl⟩:∃ en:Nat,e=(en:Int):=⟨e.toNat,by omega⟩
 have he:en<L.length:=by omega
 rw [Int.toNat_natCast] at hK
 simp only [Bool.not_true,Bool.false_eq_true,if_false]
 have hlen:a8 (sls l)=some (I (l.length:Int)):=by unfold sls; simp
 have hlw:l.length≤NB:=by
  have:=S.ok
  revert this
  cases f with
  | zero=>exact fun h=>h.elim
  | succ f=>exact fun h=>h.1
 have L0:∀ (k m:Nat) (H1:Hp) (C:List (List Lk)) (ab mb:Nat) (cs:AV),l.length - m=k→m≤l.length→gm (dw L d) C (Tru L C) ab mb cs H1→¬ own cs ab→Mc σ L d C→C.length+eV f (l.drop m)≤NB→(∀ H,K (Bo (ku L f (l.drop m) en)) H) →
   c9.L0 σ K (I (en:Int)) (sls l) (.ptr ab 0) (I l.length) (I (m:Int)) H1:=by
  intro k
  induction k with
  | zero =>
   intro m H1 C ab mb cs hk hm hA hcs hM hc hK
   have:m=l.length:=by omega
   subst this
   refine c9.L0_step ?_
   simp
   simpa [ku] using hK H1
  | succ k ih =>
   intro m H1 C ab mb cs hk hm hA hcs hM hc hK
   have hlt:m<l.length:=by omega
   obtain ⟨s,hs⟩:=cb hlt
   have hsm:=List.mem_of_getElem? hs
   have hlt':(m:Int)<l.length:=by omega
   rw [cN hs] at hK hc
   rw [qZ] at hc
   have hwf:gt cU [s]:=⟨(by show 1≤cU; decide),fun s' h=>by rw [List.mem_singleton.1 h]; exact S.wf.2 s hsm⟩
   have hn1:=S.nest.one hsm
   have hcons:ku L f (s::l.drop (m+1)) en=((jm f [s] 8&&AA L [s] en)||ku L f (l.drop (m+1)) en):=by simp [ku]
   rw [hcons] at hK
   refine c9.L0_step ?_
   simp only [b8,hlt',decide_true,aa,aj,if_true,co,bW (show m<9000000000000000000 by omega),Ic hs]
   refine aw (zr f [s] 8 _ hwf hn1 (by omega)) ?_
   simp only [aj]
   cases hmay:jm f [s] 8 with
   | false =>
    rw [hmay] at hK
    simp only [Bool.false_and,Bool.false_or] at hK
    simp only [Bool.false_eq_true,if_false]
    exact ih (m+1) H1 C ab mb cs (by omega) (by omega) hA hcs hM (by omega) hK
   | true =>
    rw [hmay] at hK
    simp only [Bool.true_and] at hK
    simp only [if_true]
    have nmb:=hA.nmb
    have nab:=hA.nab
    refine GK (S.ok.one hsm) ⟨hA.gab,hA.nab,hA.gcs,hcs⟩ (by omega) fun H' cs' C2 ns b1 b2 b3 b4 b5=>?_
    have up:=b5.up
    have hA':gm (dw L d) (C++C2) (Tru L (C++C2)) ab mb cs' H':=by
     obtain ⟨es,g1,g2⟩:=hA.memo
     refine ⟨b1.gab,b1.nab,by omega,hA.ne,b1.gcs,fun h=>?_,es,by rw [b5.get mb nmb hA.ne.symm hA.csm]; exact g1,g2.app⟩
     rcases b5.mine mb h with h | h
     ·exact hA.csm h
     ·omega
    have hM':Mc σ L d (C++C2):=by
     have hre:NB≤reachBytes:=by rw [ed]; decide
     refine ⟨M.hC,M.hB,M.hN,M.sm,?_,fun c hc'=>?_,fun c hc'=>?_⟩
     ·rw [List.length_append,b3]; omega
     ·rcases List.mem_append.1 hc' with h | h
      ·exact hM.ll c h
      ·exact Nat.le_trans (b4 c h).len hre
     ·rcases List.mem_append.1 hc' with h | h
      ·exact hM.lk c h
      ·exact (b4 c h).lk
    have hns:ns.length≤reachBytes:=by
     have:ns.length=1:=by
      have:=b2
      revert this
      cases f with
      | zero=>exact fun h=>h.elim
      | succ f=>exact fun h=>h.1
     rw [this]; decide
    refine Bv hM' f S.hf [s] ns b2 hn1 S.hf hns en he ab mb cs' H' _ hA' fun H2 h2 kp2=>?_
    simp only [aj]
    cases haa:AA L [s] en with
    | true =>
     rw [haa] at hK
     simpa using hK H2
    | false =>
     rw [haa] at hK
     simp only [Bool.false_or] at hK
     simp only [Bool.false_eq_true,if_false]
     exact ih (m+1) H2 (C++C2) ab mb cs' (by omega) (by omega) h2 b1.csab hM' (by rw [List.length_append,b3]; omega) hK
 refine kO.run ?_
 have hb:aY [.lit (.pointer none),.lit (.slice none 0 0),.lit (.map none)] [(0,1,dw L d),(2,1,.mp Hp.empty.n)]=some [dw L d,.lit (.slice none 0 0),.mp Hp.empty.n]:=rfl
 simp only [hb,aa,iM,hlen]
 refine L0 l.length 0 _ [] _ Hp.empty.n (.lit (.slice none 0 0)) (by omega) (Nat.zero_le _) ⟨?_,?_,?_,?_,.nil,fun h=>h.elim,[],?_,fun p hp=>by cases hp⟩ (fun h=>h.elim) ⟨M.hC,M.hB,M.hN,M.sm,Nat.zero_le _,fun c hc=>(by cases hc),fun c hc=>(by cases hc)⟩ (by simpa using S.cnt) (by simpa using hK)
 ·simp
 ·simp
 ·simp only [Hp.n_new]; omega
 ·simp
 ·simp
end
end Go.Proofs.Ythmaggcfghjmfaa.Ev
namespace Go.Proofs.Ythmaggcfghjmfaa.Ev
set_option linter.unusedVariables false
set_option linter.unusedSimpArgs false
variable {σ:Sig}
theorem HG {H:Hp} {id:Nat} {s:Sl} {ex:Bool} {cap:Option Nat} (hg:H.get id=some (.cells (bc s) ex)):Fz H (.sl id 0 1 1 cap) (sls [s]):=by
 have h1:(bc s).length=1:=rfl
 have:Fz H (.sl id 0 1 [bc s].length cap) (.imm 1 [bc s]):=.rows hg (by simp [h1]) (by simp; exact List.take_of_length_le (by rw [h1]; exact Nat.le_refl _)) (by simp [dS,oG])
 exact this
def sQ (L:List Nd) (f:Nat) (s:Sl) (e:Int):Bool:=decide (0≤e)&&decide (e<L.length)&&ku L f [s] e.toNat
theorem pq {L:List Nd} {d:List Nat} (M:McT σ L d) {f:Nat} {s:Sl} (S:lF f [s]) (e:Int) (H:Hp):aH Try.prog σ cJ [dw L d,I e,.agg (bc s)] H (Bo (sQ L f s e)) H:=by
 refine bP (fun K hK=>iL.run ?_) (by simp [aU,bQ,cq,oG]) rfl H
 have hb:∀ H:Hp,au [.slice none 0 0] 1 1 H [(0,1,.agg (bc s))]=some (.sl H.n 0 1 1 (some 1),H.new (.cells (bc s) true)):=fun H=>by
  unfold au bc; rfl
 have hl:∀ H:Hp,ldA true 1 (H.new (.cells (bc s) true)) (.ptr H.n 0)=some (.agg (bc s)):=fun H=>by
  simp only [bA,az,if_true,bK,List.drop_zero,ry]
 simp only [iM,hl,hb,aa]
 refine aw ((Hr M S e Hp.empty).frzA (.cons (.refl (cq L d)) (.cons (.refl rfl) (.cons (HG (ex:=true) (by simp)) .nil))) rfl) ?_
 exact hK _
end Go.Proofs.Ythmaggcfghjmfaa.Ev
namespace Go.Proofs.Ythmaggcfghjmfaa.Ev
set_option linter.unusedVariables false
set_option linter.unusedSimpArgs false
variable {σ:Sig}
section
end
end Go.Proofs.Ythmaggcfghjmfaa.Ev
namespace Go.Proofs.Ythmaggcfghjmfaa.Ev
set_option linter.unusedVariables false
set_option linter.unusedSimpArgs false
variable {σ:Sig}
end Go.Proofs.Ythmaggcfghjmfaa.Ev
namespace Go.Proofs.Ythmaggcfghjmfaa.Ev
set_option linter.unusedVariables false
set_option linter.unusedSimpArgs false
variable {σ:Sig}
end Go.Proofs.Ythmaggcfghjmfaa.Ev
namespace Go.Proofs.Ythmaggcfghjmfaa.Ev
set_option linter.unusedVariables false
set_option linter.unusedSimpArgs false
variable {σ:Sig}
end Go.Proofs.Ythmaggcfghjmfaa.Ev
namespace Go.Proofs.Ythmaggcfghjmfaa.Ev
set_option linter.unusedVariables false
set_option linter.unusedSimpArgs false
variable {σ:Sig}
end Go.Proofs.Ythmaggcfghjmfaa.Ev
namespace Go.Proofs.Ythmaggcfghjmfaa.Ev
set_option linter.unusedVariables false
set_option linter.unusedSimpArgs false
variable {σ:Sig}
end Go.Proofs.Ythmaggcfghjmfaa.Ev
namespace Go.Proofs.Ythmaggcfghjmfaa.Ev
set_option linter.unusedVariables false
set_option linter.unusedSimpArgs false
variable {σ:Sig}
end Go.Proofs.Ythmaggcfghjmfaa.Ev
namespace Go.Proofs.Ythmaggcfghjmfaa.Ev
set_option linter.unusedVariables false
set_option linter.unusedSimpArgs false
variable {σ:Sig}
section
variable {L:List Nd} {d:List Nat} {e:Nat} {c:Cp} {n:Nd} {dp:Nat} {b6 b9:Nat} {K:AV→Hp→Prop}
structure I6 (c:Cp):Prop where
 ids:c.ids.length≤reachBytes
 classes:c.classes.length≤reachBytes
 attrs:c.attrs.length≤reachBytes
 ps:c.pseudos.length≤reachBytes
 texts:∀ a ∈ c.attrs,a.text.data.size<4294967281
end
end Go.Proofs.Ythmaggcfghjmfaa.Ev
namespace Go.Proofs.Ythmaggcfghjmfaa.Ev
set_option linter.unusedVariables false
set_option linter.unusedSimpArgs false
variable {σ:Sig}
section
end
structure Kn (L:List Nd) (s:Sl) (kb M:Nat) (H:Hp):Prop where
 lt:kb<H.n
 get:∃ ks,H.get kb=some (.cells ks true)∧ks.length=M∧∀ e k,e<L.length→k<s.length→∃ v:Int,ks[e*s.length+k]?=some (I v)∧(v=0∨(v=1∧c7 (AA L) L s k e=true)∨(v=2∧c7 (AA L) L s k e=false))
theorem Kn.keep {L:List Nd} {s:Sl} {kb M:Nat} {H H':Hp} (h:Kn L s kb M H) (hn:H.n≤H'.n) (hg:H'.get kb=H.get kb):Kn L s kb M H':=by
 obtain ⟨ks,h1,h2,h3⟩:=h.get
 exact ⟨Nat.lt_of_lt_of_le h.lt hn,ks,by rw [hg]; exact h1,h2,h3⟩
theorem Kn.new {L:List Nd} {s:Sl} {kb M:Nat} {H:Hp} (h:Kn L s kb M H) (b:Blk):Kn L s kb M (H.new b):=by
 refine h.keep (by simp) ?_
 have:kb≠H.n:=by have:=h.lt; omega
 simp [this]
theorem Fw {n a b x y:Nat} (hx:x<n) (hy:y<n) (h:a*n+x=b*n+y):a=b∧x=y:=by
 have h1:(a*n+x) / n=(b*n+y) / n:=by rw [h]
 have hn:0<n:=by omega
 rw [Nat.mul_comm a,Nat.mul_comm b,Nat.mul_add_div hn,Nat.mul_add_div hn,Nat.div_eq_of_lt hx,Nat.div_eq_of_lt hy] at h1
 simp only [Nat.add_zero] at h1
 subst h1
 exact ⟨rfl,by omega⟩
theorem GO:∀ (cs:List AV) (i:Nat) (x:AV),i<cs.length→bM cs i [x]=cs.set i x:=by
 intro cs
 induction cs with
 | nil=>intro i x hi; simp at hi
 | cons c r ih =>
  intro i x hi
  cases i with
  | zero=>simp
  | succ i=>rw [xD,List.set_cons_succ,ih i x (by simpa using hi)]
theorem Kn.put {L:List Nd} {s:Sl} {kb M:Nat} {H:Hp} (h:Kn L s kb M H) {e k:Nat} (he:e<L.length) (hk:k<s.length) {v:Int} (hv:v=0∨(v=1∧c7 (AA L) L s k e=true)∨(v=2∧c7 (AA L) L s k e=false)) :
  ∃ H',stA 1 H (.ptr kb (e*s.length+k)) (I v)=some H'∧Kn L s kb M H'∧Kp kb H H'∧ldA false 1 H' (.ptr kb (e*s.length+k))=some (I v):=by
 obtain ⟨ks,h1,h2,h3⟩:=h.get
 obtain ⟨v0,hv0,_⟩:=h3 e k he hk
 have hlt:=(List.getElem?_eq_some_iff.1 hv0).1
 refine ⟨H.set kb (some (.cells (ks.set (e*s.length+k) (I v)) true)),?_,⟨by simpa using h.lt,_,by simp; rfl,by simpa using h2,fun e' k' he' hk'=>?_⟩,⟨by simp,fun j hj hne=>by simp [hne]⟩,?_⟩
 ·have hlt':e*s.length+k+[I v].length≤ks.length:=by simp; omega
  rw [Gc,h1]
  simp only [cp]
  rw [if_pos ⟨hlt',rfl⟩,GO _ _ _ hlt]
 ·by_cases hi:e*s.length+k=e'*s.length+k'
  ·obtain ⟨rfl,rfl⟩:=Fw hk hk' hi
   exact ⟨v,by simp [hlt],hv⟩
  ·obtain ⟨w,hw,hw'⟩:=h3 e' k' he' hk'
   exact ⟨w,by simp [List.getElem?_set,hi,hw],hw'⟩
 ·simp only [bA,ax,if_true,bK]
  rw [List.drop_eq_getElem_cons (by simpa using hlt),jb]
  simp
section
variable {L:List Nd} {d:List Nat} {s:Sl} {dp kb M:Nat} {cap:Option Nat}
end
end Go.Proofs.Ythmaggcfghjmfaa.Ev
namespace Go.Proofs.Ythmaggcfghjmfaa.Ev
set_option linter.unusedVariables false
set_option linter.unusedSimpArgs false
variable {σ:Sig} {L:List Nd} {d:List Nat}
def frB (L:List Nd) (s:Sl) (e:Nat):Bool:=!decide (s.length=0)&&c7 (AA L) L s (s.length - 1) e
section
end
end Go.Proofs.Ythmaggcfghjmfaa.Ev
namespace Go.Proofs.Ythmaggcfghjmfaa.Ev
set_option linter.unusedVariables false
set_option linter.unusedSimpArgs false
inductive Sk where
 | same
 | sl (sz:Nat) (row:List Sk)
 | agg (row:List Sk)
 | ptr (row:List Sk)
def jc (sz:Nat) (g:List AV→Option (List AV)):Nat→List AV→Option (List (List AV))
 | 0,_=>some []
 | n+1,l=>match g (l.take sz) with
  | some r=>match jc sz g n (l.drop sz) with
   | some rs=>some (r::rs)
   | none=>none
  | none=>none
mutual
def wP (H:Hp):Sk→AV→Option AV
 | .same,x=>bif bQ x then some x else none
 | .sl sz row,x=>match x with
  | .lit (.slice none 0 0)=>some (.imm sz [])
  | .emp=>some (.imm sz [])
  | .se _ _ _=>some (.imm sz [])
  | .imm s rows=>bif bQ (.imm s rows) then some (.imm s rows) else none
  | .sl id off s len _=>bif Nat.beq s sz then match H.get id with
    | some (.cells cs _)=>match jc sz (fun l=>frzR H row l) len (cs.drop off) with
     | some rows=>bif Nat.beq row.length sz then some (.imm sz rows) else none
     | none=>none
    | _=>none
   else none
  | _=>none
 | .agg row,x=>match x with
  | .agg xs=>match frzR H row xs with
   | some ys=>some (.agg ys)
   | none=>none
  | _=>none
 | .ptr row,x=>match x with
  | .ptr id off=>match H.get id with
   | some (.cells cs _)=>match frzR H row ((cs.drop off).take row.length) with
    | some ys=>some (.ip ys)
    | none=>none
   | _=>none
  | _=>none
def frzR (H:Hp):List Sk→List AV→Option (List AV)
 | [],xs=>match xs with
  | []=>some []
  | _=>none
 | k::ks,xs=>match xs with
  | x::xs=>match wP H k x with
   | some y=>match frzR H ks xs with
    | some ys=>some (y::ys)
    | none=>none
   | none=>none
  | []=>none
end
theorem lV {sz:Nat} {g:List AV→Option (List AV)} {H:Hp} (hg:∀ l r,g l=some r→FzL H l r):∀ (n:Nat) (l:List AV) (rows:List (List AV)),jc sz g n l=some rows→rows.length=n∧∀ (i:Nat) (row:List AV),rows[i]?=some row→FzL H ((l.drop (i*sz)).take sz) row
 | 0,l,rows,h=>by
  simp only [jc,Option.some.injEq] at h
  subst h
  exact ⟨rfl,fun i row h=>by simp at h⟩
 | n+1,l,rows,h=>by
  simp only [jc] at h
  split at h
  case h_2=>cases h
  rename_i r hr
  split at h
  case h_2=>cases h
  rename_i rs hrs
  simp only [Option.some.injEq] at h
  subst h
  obtain ⟨h1,h2⟩:=lV hg n _ _ hrs
  refine ⟨by simp [h1],fun i row hi=>?_⟩
  cases i with
  | zero =>
   simp at hi
   subst hi
   simpa using hg _ _ hr
  | succ i =>
   simp at hi
   have:=h2 i row hi
   rw [List.drop_drop] at this
   rw [Nat.succ_mul,Nat.add_comm]
   exact this
theorem FzL.len {H:Hp} {xs ys:List AV} (h:FzL H xs ys):xs.length=ys.length:=h.get.1
mutual
theorem m9 {H:Hp}:∀ (k:Sk) (x y:AV),wP H k x=some y→Fz H x y
 | .same,x,y,h=>by
  simp only [wP] at h
  cases hn:bQ x with
  | false=>rw [hn] at h; cases h
  | true=>rw [hn] at h; cases h; exact .refl hn
 | .sl sz row,x,y,h=>by
  simp only [wP] at h
  split at h
  ·cases h; exact .nil
  ·cases h; exact .emp
  ·cases h; exact .se
  ·rename_i s rows
   cases hn:bQ (.imm s rows) with
   | false=>rw [hn] at h; cases h
   | true=>rw [hn] at h; cases h; exact .refl hn
  ·rename_i id off s len cap
   cases hs:Nat.beq s sz with
   | false=>rw [hs] at h; cases h
   | true =>
    rw [hs] at h
    have:=Nat.eq_of_beq_eq_true hs
    subst this
    simp only [cond_true] at h
    split at h
    case h_2=>cases h
    rename_i cs ex hg
    split at h
    case h_2=>cases h
    rename_i rows hr
    cases hl:Nat.beq row.length s with
    | false=>rw [hl] at h; cases h
    | true =>
     rw [hl] at h
     cases h
     have hlen:=Nat.eq_of_beq_eq_true hl
     obtain ⟨h1,h2⟩:=lV (fun l r hh=>mr row l r hh) _ _ _ hr
     have hrow:∀ (i:Nat) (r:List AV),rows[i]?=some r→r.length=s:=by
      intro i r hi
      obtain ⟨_,hh⟩:=lV (g:=fun l=>frzR H row l) (fun l r hh=>mr row l r hh) _ _ _ hr
      exact oo (fun l r hh=>by rw [← hlen]; exact tv row l r hh) _ _ _ hr i r hi
     refine .sl (fun i j=>cs.getD (off+(i*s+j)) .any) hg h1 hrow (fun i r j y hi hy=>?_) (fun i r j y hi hy=>?_)
     ·obtain ⟨x,hx,_⟩:=(h2 i r hi).get.2 j y hy
      have hj:j<s:=by rw [← hrow i r hi]; exact (List.getElem?_eq_some_iff.1 hy).1
      rw [List.getElem?_take,if_pos hj,List.getElem?_drop,List.getElem?_drop] at hx
      simp [hx]
     ·obtain ⟨x,hx,hf⟩:=(h2 i r hi).get.2 j y hy
      have hj:j<s:=by rw [← hrow i r hi]; exact (List.getElem?_eq_some_iff.1 hy).1
      rw [List.getElem?_take,if_pos hj,List.getElem?_drop,List.getElem?_drop] at hx
      simp [hx]
      exact hf
  ·cases h
 | .agg row,x,y,h=>by
  simp only [wP] at h
  split at h
  case h_2=>cases h
  split at h
  case h_2=>cases h
  rename_i hr
  cases h
  exact Fz.aggL (mr row _ _ hr)
 | .ptr row,x,y,h=>by
  simp only [wP] at h
  split at h
  case h_2=>cases h
  rename_i id off
  split at h
  case h_2=>cases h
  rename_i cs ex hg
  split at h
  case h_2=>cases h
  rename_i ys hr
  cases h
  have hl:=(mr row _ _ hr).get
  refine .ptr (fun j=>cs.getD (off+j) .any) hg (fun j y hy=>?_) (fun j y hy=>?_)
  ·obtain ⟨x,hx,_⟩:=hl.2 j y hy
   rw [List.getElem?_take] at hx
   split at hx
   ·rw [List.getElem?_drop] at hx
    simp [hx]
   ·cases hx
  ·obtain ⟨x,hx,hf⟩:=hl.2 j y hy
   rw [List.getElem?_take] at hx
   split at hx
   ·rw [List.getElem?_drop] at hx
    simp [hx]
    exact hf
   ·cases hx
theorem mr {H:Hp}:∀ (ks:List Sk) (xs ys:List AV),frzR H ks xs=some ys→FzL H xs ys
 | [],xs,ys,h=>by
  simp only [frzR] at h
  split at h
  ·cases h; exact .nil
  ·cases h
 | k::ks,xs,ys,h=>by
  simp only [frzR] at h
  split at h
  case h_2=>cases h
  rename_i x xs
  split at h
  case h_2=>cases h
  rename_i y hy
  split at h
  case h_2=>cases h
  rename_i zs hz
  cases h
  exact .cons (m9 k x y hy) (mr ks xs zs hz)
theorem tv {H:Hp}:∀ (ks:List Sk) (xs ys:List AV),frzR H ks xs=some ys→ys.length=ks.length
 | [],xs,ys,h=>by
  simp only [frzR] at h
  split at h
  ·cases h; rfl
  ·cases h
 | k::ks,xs,ys,h=>by
  simp only [frzR] at h
  split at h
  case h_2=>cases h
  split at h
  case h_2=>cases h
  split at h
  case h_2=>cases h
  rename_i zs hz
  cases h
  simp [tv ks _ _ hz]
theorem oo {sz:Nat} {g:List AV→Option (List AV)} (hg:∀ l r,g l=some r→r.length=sz):∀ (n:Nat) (l:List AV) (rows:List (List AV)),jc sz g n l=some rows→∀ (i:Nat) (r:List AV),rows[i]?=some r→r.length=sz
 | 0,l,rows,h,i,r,hi=>by
  simp only [jc,Option.some.injEq] at h
  subst h
  simp at hi
 | n+1,l,rows,h,i,r,hi=>by
  simp only [jc] at h
  split at h
  case h_2=>cases h
  rename_i r0 hr0
  split at h
  case h_2=>cases h
  rename_i rs hrs
  cases h
  cases i with
  | zero=>simp at hi; subst hi; exact hg _ _ hr0
  | succ i=>exact oo hg n _ _ hrs i r (by simpa using hi)
end
def vj:Sk:=.sl 1 [.same]
def Jd:Sk:=.sl 3 [.same,.same,.same]
def JB:Sk:=.sl 2 [.same,.same]
def Kw:List Sk:=[.same,.same,.same,vj,JB]
def I7:Sk:=.sl 5 Kw
def JV (pss:Sk):List Sk:=[.same,vj,vj,Jd,pss]
def FF:Nat→Sk
 | 0=>.same
 | n+1=>.sl 4 [.same,.same,.same,.sl 1 [.sl 6 (.same::JV (FF n))]]
def JI (n:Nat):Sk:=.sl 6 (.same::JV (FF n))
def skS (n:Nat):Sk:=.agg [JI n]
end Go.Proofs.Ythmaggcfghjmfaa.Ev
namespace Go.Proofs.Ythmaggcfghjmfaa.Ev
theorem aH.conv {P:Program} {σ:Sig} {f:Nat} {xs ys:List AV} {r:AV} {H H2 H3:Hp} (k:Wk σ ys H xs H2) (h:aH P σ f xs H2 r H3):aH P σ f ys H r H3:=by
 refine ⟨h.1,fun B w0 E w vs hσ hst hxs=>?_⟩
 obtain ⟨E2,h1,h2,h3⟩:=k hσ hst hxs
 refine (h.2 B w0 E2 w vs hσ h2 h3).mono fun e w' hh=>?_
 obtain ⟨E',v,rfl,hext,st2,hrel⟩:=hh
 exact ⟨E',v,rfl,h1.trans hext,st2,hrel⟩
def Hp.bare (n:Nat):Hp:=⟨n,.leaf⟩
@[simp] theorem Hp.bare_n (n:Nat):(Hp.bare n).n=n:=rfl
@[simp] theorem Hp.bare_get (n j:Nat):(Hp.bare n).get j=none:=by simp [Hp.bare,Hp.get,Tr.get]
theorem FzL.t {H:Hp} {xs ys:List AV} (h:FzL H xs ys):FzT H xs ys:=by
 induction h with
 | nil=>exact .nil
 | cons h hs ih=>exact .fz h ih
theorem aH.drop {P:Program} {σ:Sig} {f:Nat} {xs ys:List AV} {r:AV} {H:Hp} (h:∀ H,aH P σ f xs H r H) (hx:FzL H ys xs):aH P σ f ys H r (Hp.bare H.n) :=
 aH.conv (Wk.frz (H2:=Hp.bare H.n) (Hd:=H) rfl rfl (fun id k hk=>⟨hk,by simp⟩) (fun id k2 hk=>by simp at hk) hx.t) (h _)
theorem nl {α:Type} {o:Option α} {x:α} {K:α→Prop} (h:o=some x) (k:K x):bnd o K:=by rw [h]; exact k
end Go.Proofs.Ythmaggcfghjmfaa.Ev
namespace Go.Proofs.Ythmaggcfghjmfaa.Ev
set_option linter.unusedVariables false
set_option linter.unusedSimpArgs false
inductive Gsc (sz:Nat) (H:Hp):AV→List (List AV)→Prop where
 | gs {x:AV} {rows:List (List AV)} (h:Gs sz H x rows):Gsc sz H x rows
 | full {id:Nat} {ex:Bool} {rows:List (List AV)} (hlt:id<H.n) (hg:H.get id=some (.cells rows.flatten ex)) (hsz:∀ row ∈ rows,row.length=sz) (h0:rows≠[]):Gsc sz H (.sl id 0 sz rows.length (some rows.length)) rows
theorem Gsc.lit {sz:Nat} {H:Hp} {row:List AV} (hl:row.length=sz):Gsc sz (H.new (.cells row true)) (.sl H.n 0 sz 1 (some 1)) [row]:=by
 refine .full (id:=H.n) (rows:=[row]) (by simp) (by simp; rfl) (by simp [hl]) (by simp)
theorem bi.drop {P:Program} {C:Ctx P} {c:Code} {T T2:List AV} {H:Hp} {Q:Exit→List AV→Hp→Prop} (hT:FzT H T T2) (h:bi C c T2 (Hp.bare H.n) Q):bi C c T H Q :=
 bi.conv (Wk.frz (H2:=Hp.bare H.n) (Hd:=H) rfl rfl (fun id k hk=>⟨hk,by simp⟩) (fun id k2 hk=>by simp at hk) hT) h
end Go.Proofs.Ythmaggcfghjmfaa.Ev
namespace Go.Proofs.Ythmaggcfghjmfaa.Ev
end Go.Proofs.Ythmaggcfghjmfaa.Ev
namespace Go.Proofs.Ythmaggcfghjmfaa.Ev
set_option linter.unusedVariables false
set_option linter.unusedSimpArgs false
variable {σ:Sig} {L:List Nd} {d:List Nat}
def TxL:Nat→List Sl→Prop
 | 0,_=>False
 | f+1,l=>∀ s ∈ l,∀ p ∈ s,(∀ a ∈ p.c.attrs,a.text.data.size<4294967281)∧∀ q ∈ p.c.pseudos,TxL f q.list
theorem TxL.one {f:Nat} {l:List Sl} (h:TxL f l) {s:Sl} (hs:s ∈ l):TxL f [s]:=by
 cases f with
 | zero=>exact h
 | succ f=>exact fun s' hs'=>by rw [List.mem_singleton.1 hs']; exact h s hs
theorem I6.of {c:Cp} (h:rv c) (ht:∀ a ∈ c.attrs,a.text.data.size<4294967281):I6 c:=⟨h.ids,h.classes,h.attrs,h.ps,ht⟩
theorem AC {f:Nat} {s:Sl} (hn:lj f [s]) (hf:f≤12) (e:Nat):AA L [s] e=frB L s e:=by
 rw [← FU hn hf]
 simp [qw,frB]
theorem xV {f:Nat} {s:Sl} {dp:Nat}:jm (f+1) [s] dp=sK (jm f) dp s:=by simp [jm]
end Go.Proofs.Ythmaggcfghjmfaa.Ev
namespace Go.Proofs.Ythmaggcfghjmfaa.Ev
set_option linter.unusedVariables false
set_option linter.unusedSimpArgs false
theorem mz {α:Type} {f:α→List AV} {P:α→Prop}:∀ {rows:List (List AV)},(∀ row ∈ rows,∃ x,row=f x∧P x)→∃ l:List α,rows=l.map f∧∀ x ∈ l,P x
 | [],_=>⟨[],rfl,fun x hx=>by cases hx⟩
 | r::rs,h=>by
  obtain ⟨x,hx,px⟩:=h r (by simp)
  obtain ⟨l,hl,pl⟩:=mz (rows:=rs) fun row hr=>h row (by simp [hr])
  refine ⟨x::l,by rw [hx,hl]; rfl,fun y hy=>?_⟩
  rcases List.mem_cons.1 hy with rfl | hy
  ·exact px
  ·exact pl y hy
theorem Jy {ts:List Nat} {zs:List AV} (h:Sh tiT.get (tT::ts) zs):∃ n ys,zs=I n::ys∧i64 n∧Sh tiT.get ts ys:=by
 obtain ⟨i,hi,hd,_⟩:=yL
 obtain ⟨n,ys,e,hw,hs⟩:=Ip hi hd h
 refine ⟨n,ys,e,?_,hs⟩
 simp [Lit.wf,IntKind.min,IntKind.max,IntKind.signed,IntKind.bits] at hw
 unfold i64
 omega
theorem FX {ts:List Nat} {zs:List AV} (h:Sh tiT.get (dI::ts) zs):∃ s ys,zs=Sx s::ys∧s.data.size≤cU∧Sh tiT.get ts ys:=by
 obtain ⟨i,hi,hd,_⟩:=ja
 obtain ⟨s,ys,e,hw,hs⟩:=Bz hi hd h
 exact ⟨s,ys,e,Nat.le_trans hw (by decide),hs⟩
theorem C_ {t e sz:Nat} (hT:∃ i,tiT.get t=some i∧i.d=.slice e∧i.size=1) (hE:∃ i,tiT.get e=some i∧i.size=sz) {ts:List Nat} {zs:List AV} (h:Sh tiT.get (t::ts) zs) :
  ∃ rows ys,zs=.imm sz rows::ys∧(∀ row ∈ rows,Sh tiT.get [e] row)∧rows.length≤cU∧Sh tiT.get ts ys:=by
 obtain ⟨i,hi,hd,_⟩:=hT
 obtain ⟨j',hj',hs'⟩:=hE
 rcases zD hi hd h with ⟨ys,_,_⟩ | ⟨j,rows,ys,hj,e,hr,hl,hm,_,hs⟩
 ·cases h with
  | sl h' hd' he hc hl hm hb hs=>rw [hi] at h'; cases h'; rw [hd] at hd'; cases hd'; rw [hj'] at he; cases he; exact ⟨_,_,by rw [hs'],hc,hm,hs⟩
  | _=>simp_all
 ·rw [hj'] at hj
  cases hj
  rw [hs'] at e
  exact ⟨rows,ys,e,hr,hm,hs⟩
theorem sN {t:Nat} {fs:List (Nat × Nat)} {sz:Nat} (hT:∃ i,tiT.get t=some i∧i.d=.struct fs∧i.size=sz) {ts:List Nat} {zs:List AV} (h:Sh tiT.get (t::ts) zs):Sh tiT.get (fs.map (·.2)++ts) zs:=by
 obtain ⟨i,hi,hd,_⟩:=hT
 exact wq hi hd h
theorem Bf {t sz:Nat} {d:TD} (h:∃ i,tiT.get t=some i∧i.d=d∧i.size=sz):∃ i,tiT.get t=some i∧i.size=sz:=by
 obtain ⟨i,a,_,b⟩:=h
 exact ⟨i,a,b⟩
def yz:List Nat:=[tT,dI,Hw,gR,qv,ve,qt,uN,pN,oA,rS,mO,qh,de,jZ,fl,jR]
theorem mD:oI tiT.get yz=true:=by kernel_rfl
end Go.Proofs.Ythmaggcfghjmfaa.Ev
namespace Go.Proofs.Ythmaggcfghjmfaa.Ev
theorem FO {t sz:Nat} {d:TD} (hT:∃ i,tiT.get t=some i∧i.d=d∧i.size=sz) (ha:d.agg=false) {x:AV} (h:ShV tiT.get t x):Sh tiT.get [t] [x]:=by
 obtain ⟨i,hi,hd,_⟩:=hT
 unfold ShV at h
 rw [hi] at h
 simp only [hd,ha] at h
 exact h
theorem Jt {x:AV} (h:ShV tiT.get dI x):∃ s,x=Sx s∧s.data.size≤cU:=by
 obtain ⟨n,ys,e,w,hn⟩:=FX (FO ja rfl h)
 cases e
 exact ⟨n,rfl,w⟩
end Go.Proofs.Ythmaggcfghjmfaa.Ev
namespace Go.Proofs.Ythmaggcfghjmfaa.Ev
theorem rJ {ts:List Nat} {zs:List AV} (h:Sh tiT.get (dI::ts) zs):∃ s ys,zs=Sx s::ys∧s.data.size≤reachBytes∧Sh tiT.get ts ys:=by
 obtain ⟨i,hi,hd,_⟩:=ja
 obtain ⟨s,ys,e,hw,hs⟩:=Bz hi hd h
 exact ⟨s,ys,e,hw,hs⟩
theorem tX {t e sz B:Nat} (hT:∃ i,tiT.get t=some i∧i.d=.slice e∧i.size=1) (hE:∃ i,tiT.get e=some i∧i.size=sz) (hB:(tiT.get e).map (·.bytes)=some B) {ts:List Nat} {zs:List AV} (h:Sh tiT.get (t::ts) zs) :
  ∃ rows ys,zs=.imm sz rows::ys∧(∀ row ∈ rows,Sh tiT.get [e] row)∧rows.length*B≤reachBytes∧Sh tiT.get ts ys:=by
 obtain ⟨i,hi,hd,_⟩:=hT
 obtain ⟨j',hj',hs'⟩:=hE
 rw [hj'] at hB
 simp only [Option.map_some,Option.some.injEq] at hB
 cases h with
 | sl h' hd' he hc hl hm hb hs=>rw [hi] at h'; cases h'; rw [hd] at hd'; cases hd'; rw [hj'] at he; cases he; exact ⟨_,_,by rw [hs'],hc,by rw [← hB]; exact hb,hs⟩
 | _=>simp_all
theorem CK {ts:List Nat} {zs:List AV} (h:Sh tiT.get (gR::ts) zs):∃ l ys,zs=dY l::ys∧l.length*16≤reachBytes∧Sh tiT.get ts ys:=by
 obtain ⟨rows,ys,e,hr,hm,hs⟩:=tX pY (Bf ja) (B:=16) (by kernel_rfl) h
 obtain ⟨l,hl,hp⟩:=mz (f:=fun s=>[Sx s]) (P:=fun s=>True) fun row hrow=>by
  obtain ⟨s,ys,e,hw,hs⟩:=FX (hr row hrow)
  rw [uy hs] at e
  exact ⟨s,e,trivial⟩
 exact ⟨l,ys,by rw [e,hl]; rfl,by rw [hl] at hm; simpa using hm,hs⟩
theorem Di {ts:List Nat} {zs:List AV} (h:Sh tiT.get (fl::ts) zs):∃ (l:List (ByteArray × ByteArray)) (ys:List AV),zs=.imm 2 (l.map cC)::ys∧(l.length*32≤reachBytes∧∀ x ∈ l,x.1.data.size≤reachBytes)∧Sh tiT.get ts ys:=by
 obtain ⟨rows,ys,e,hr,hm,hs⟩:=tX ng (Bf lz) (B:=32) (by kernel_rfl) h
 obtain ⟨l,hl,hp⟩:=mz (f:=cC) (P:=fun x=>x.1.data.size≤reachBytes) fun row hrow=>by
  obtain ⟨a,y1,e1,w1,h2⟩:=rJ (sN lz (hr row hrow))
  obtain ⟨b,y2,e2,w2,h3⟩:=rJ h2
  rw [uy h3] at e2
  exact ⟨⟨a,b⟩,by rw [e1,e2]; rfl,w1⟩
 exact ⟨l,ys,by rw [e,hl],⟨by rw [hl] at hm; simpa using hm,hp⟩,hs⟩
theorem EU {ts:List Nat} {zs:List AV} (h:Sh tiT.get (de::ts) zs):∃ (l:List Nd) (ys:List AV),zs=nds l::ys∧(∀ x ∈ l,lu x)∧l.length≤cU∧Sh tiT.get ts ys:=by
 obtain ⟨rows,ys,e,hr,hm,hs⟩:=C_ jG (Bf lI) h
 obtain ⟨l,hl,hp⟩:=mz (f:=bz) (P:=lu) fun row hrow=>by
  obtain ⟨p,y1,e1,w1,h2⟩:=Jy (sN lI (hr row hrow))
  obtain ⟨t,y2,e2,w2,h3⟩:=rJ h2
  obtain ⟨i,y3,e3,w3,h4⟩:=rJ h3
  obtain ⟨c,y4,e4,w4,h5⟩:=CK h4
  obtain ⟨a,y5,e5,w5,h6⟩:=Di h5
  rw [uy h6] at e5
  exact ⟨⟨p,t,i,c,a⟩,by rw [e1,e2,e3,e4,e5]; rfl,w1,w2,w4,w5.1,w5.2⟩
 exact ⟨l,ys,by rw [e,hl]; rfl,hp,by rw [hl] at hm; simpa using hm,hs⟩
theorem D9 {x:AV} (h:ShV tiT.get de x):∃ l,x=nds l∧(∀ n ∈ l,lu n)∧l.length≤cU:=by
 obtain ⟨l,ys,e,w,hl,hn⟩:=EU (FO jG rfl h)
 cases e
 exact ⟨l,rfl,w,hl⟩
end Go.Proofs.Ythmaggcfghjmfaa.Ev
namespace Go.Proofs.Ythmaggcfghjmfaa.Ev
set_option linter.unusedVariables false
set_option linter.unusedSimpArgs false
theorem qi {α:Type} {f:α→List AV} {g:α→Nat}:∀ {l:List α},(∀ x ∈ l,g x≤bkL (f x))→(l.map g).sum≤cP (l.map f)
 | [],_=>by simp [cP]
 | x::r,h=>by
  have h1:=h x (by simp)
  have h2:=qi (f:=f) (g:=g) (l:=r) fun y hy=>h y (by simp [hy])
  simp only [List.map_cons,List.sum_cons,cP]
  omega
theorem lU {α:Type} {f:α→List AV} {l:List α} (h:∀ x ∈ l,1≤bkL (f x)):l.length≤cP (l.map f):=by
 have h1:=qi (f:=f) (g:=fun _=>1) (l:=l) h
 have h2:∀ l:List α,(l.map fun _=>1).sum=l.length:=by
  intro l
  induction l with
  | nil=>rfl
  | cons a r ih=>simp only [List.map_cons,List.sum_cons,List.length_cons,ih]; omega
 rw [h2] at h1
 exact h1
theorem pL {α:Type} {f:α→List AV} {l:List α} {x:α} (h:x ∈ l):bkL (f x)≤cP (l.map f):=tK (List.mem_map_of_mem h)
theorem wU (s:ByteArray):bk (Sx s)=s.data.size+1:=by simp [bk]
theorem Gi (n:Int):bk (I n)=1:=by simp [bk]
theorem rI (sz:Nat) (rows:List (List AV)):bk (.imm sz rows)=cP rows+1:=by simp [bk]
theorem E3 (l:List ByteArray):bk (dY l)=cP (l.map fun s=>[Sx s])+1:=by unfold dY; rw [rI]
theorem kM (c:Cp):bkL (bZ c)=(c.tag.data.size+1)+((cP (c.ids.map fun s=>[Sx s])+1)+((cP (c.classes.map fun s=>[Sx s])+1)+((cP (c.attrs.map bR)+1)+(cP (c.pseudos.map bI)+1)))):=by
 rw [cR]
 simp only [bkL,wU,E3,rI,Nat.add_zero]
theorem qJ (p:Pt):bkL (aZ p)=1+bkL (bZ p.c):=by rw [dy]; simp only [bkL,Gi]
theorem qT (q:Ps):bkL (bI q)=1+(1+(1+(cP (q.list.map bc)+1))):=by rw [dN]; simp only [bkL,Gi,rI,Nat.add_zero]
theorem pp (s:Sl):bkL (bc s)=cP (s.map aZ)+1:=by unfold bc; simp only [bkL,rI,Nat.add_zero]
theorem yA (a:At):bkL (bR a)=(a.name.data.size+1)+(1+(a.text.data.size+1)):=by unfold bR; simp only [bkL,wU,Gi,Nat.add_zero]
structure PtB (f:Nat) (p:Pt):Prop where
 c:rv p.c
 ps:p.c.pseudos.length≤NB
 q:∀ q ∈ p.c.pseudos,(i64 q.a∧i64 q.b)∧jA f q.list
 tx:∀ a ∈ p.c.attrs,a.text.data.size<4294967281
 tq:∀ q ∈ p.c.pseudos,TxL f q.list
 cnt:(p.c.pseudos.map fun q=>eV f q.list).sum+6≤bkL (aZ p)
theorem De {f:Nat} (ih:∀ l,gt cU l→nD f l→cP (l.map bc)≤NB→jA f l∧TxL f l∧eV f l≤cP (l.map bc)) {p:Pt} (hw:t8 cU p.c) (hf:Eg f p) (hb:bkL (bZ p.c)≤NB):PtB f p:=by
 have hN:NB=1048576:=rfl
 have r:reachBytes=140737488351232:=rfl
 rw [kM,hN] at hb
 have l1:p.c.ids.length≤cP (p.c.ids.map fun s=>[Sx s]):=lU fun s _=>by simp only [bkL,wU]; omega
 have l2:p.c.classes.length≤cP (p.c.classes.map fun s=>[Sx s]):=lU fun s _=>by simp only [bkL,wU]; omega
 have l3:p.c.attrs.length≤cP (p.c.attrs.map bR):=lU fun s _=>by rw [yA]; omega
 have l4:p.c.pseudos.length≤cP (p.c.pseudos.map bI):=lU fun s _=>by rw [qT]; omega
 have ht:∀ a ∈ p.c.attrs,a.text.data.size≤1048576:=fun a ha=>by
  have h1:=pL (f:=bR) ha
  rw [yA] at h1
  omega
 have hq:∀ q ∈ p.c.pseudos,jA f q.list∧TxL f q.list∧eV f q.list≤cP (q.list.map bc):=fun q hq=>by
  have h1:=pL (f:=bI) hq
  rw [qT] at h1
  exact ih q.list (Ps.wf_iff.1 (hw.ps q hq)).2.2.2 (hf.2 q hq) (by rw [hN]; omega)
 refine ⟨⟨by omega,by omega,by omega,fun a ha=>⟨by have:=ht a ha; omega⟩,by omega⟩,by omega,fun q h=>⟨⟨(Ps.wf_iff.1 (hw.ps q h)).2.1,(Ps.wf_iff.1 (hw.ps q h)).2.2.1⟩,(hq q h).1⟩,fun a ha=>by have:=ht a ha; omega,fun q h=>(hq q h).2.1,?_⟩
 have h5:(p.c.pseudos.map fun q=>eV f q.list).sum≤cP (p.c.pseudos.map bI):=qi fun q h=>by
  have:=(hq q h).2.2
  rw [qT]; omega
 rw [qJ,kM]
 omega
theorem tP:∀ (f:Nat) (l:List Sl),gt cU l→nD f l→cP (l.map bc)≤NB→jA f l∧TxL f l∧eV f l≤cP (l.map bc)
 | 0,l,_,h,_=>h.elim
 | f+1,l,hw,hf,hb=>by
  have hN:NB=1048576:=rfl
  have hl:l.length≤cP (l.map bc):=lU fun s _=>by rw [pp]; omega
  have hs:∀ s ∈ l,s.length≤NB∧∀ p ∈ s,PtB f p:=fun s h=>by
   have h1:=pL (f:=bc) h
   rw [pp] at h1
   have h2:s.length≤cP (s.map aZ):=lU fun p _=>by rw [qJ]; omega
   refine ⟨by omega,fun p hp=>?_⟩
   have h3:=pL (f:=aZ) hp
   rw [qJ] at h3
   exact De (tP f) (Pt.wf_iff.1 ((hw.2 s h).2 p hp)).2 ((hf s h).2 p hp) (by omega)
  refine ⟨⟨by omega,fun s h=>⟨(hs s h).1,fun p hp=>⟨((hs s h).2 p hp).c,((hs s h).2 p hp).ps,((hs s h).2 p hp).q⟩⟩⟩,fun s h p hp=>⟨((hs s h).2 p hp).tx,((hs s h).2 p hp).tq⟩,?_⟩
  rw [eV]
  refine qi fun s h=>?_
  rw [pp]
  have:(s.map fun p=>(p.c.pseudos.map fun q=>eV f q.list).sum).sum≤cP (s.map aZ):=qi fun p hp=>by
   have:=((hs s h).2 p hp).cnt
   omega
  omega
theorem tF {l:List Sl} (hw:gt cU l) (hf:nD 11 l) (hb:cP (l.map bc)≤NB):lF 11 l∧TxL 11 l:=by
 obtain ⟨h1,h2,h3⟩:=tP 11 l hw hf hb
 exact ⟨⟨hw,h1,hf.nest,by decide,by omega⟩,h2⟩
end Go.Proofs.Ythmaggcfghjmfaa.Ev
namespace Go.Proofs.Ythmaggcfghjmfaa.Ev
set_option linter.unusedVariables false
set_option linter.unusedSimpArgs false
set_option maxRecDepth 100000
variable {σ:Sig}
def alL:List Nd:=[⟨-1,emp,emp,[],[]⟩,⟨0,emp,emp,[],[]⟩,⟨0,emp,emp,[],[]⟩,⟨0,emp,emp,[],[]⟩]
def alS:Sl:=[⟨0,.mk emp [] [] [] [.mk 6 2 1 []]⟩]
theorem alB:db alL alL.length [0,1,1,1]:=by
 have h1:db alL 1 [0]:=db.first (by decide) rfl
 have h2:db alL 2 [0,1]:=h1.next (p:=0) (x:=0) (by decide) (by decide) rfl (by decide) rfl (by decide)
 have h3:db alL 3 [0,1,1]:=h2.next (p:=0) (x:=0) (by decide) (by decide) rfl (by decide) rfl (by decide)
 exact h3.next (p:=0) (x:=0) (by decide) (by decide) rfl (by decide) rfl (by decide)
theorem alW:∀ n ∈ alL,lu n:=by
 intro n hn
 simp only [alL,List.mem_cons,List.not_mem_nil,or_false] at hn
 rcases hn with rfl | rfl | rfl | rfl<;>exact ⟨by unfold i64; decide,by decide,by decide,by decide,by intro p hp; cases hp⟩
theorem KB:∀ e,e<alL.length→SmN (cg (cQ alL e)):=by
 intro e he
 have:e=0∨e=1∨e=2∨e=3:=by simp [alL] at he; omega
 rcases this with rfl | rfl | rfl | rfl<;>exact ⟨by decide,by decide,by intro p hp; cases hp⟩
theorem alM (hC:mK σ):McT σ alL [0,1,1,1]:=⟨hC,alB,by decide,KB⟩
theorem Im:lF 2 [alS]:=by
 refine ⟨⟨by decide,fun s hs=>?_⟩,⟨by decide,fun s hs=>?_⟩,fun s hs p hp q hq=>?_,by decide,by decide⟩
 ·rw [List.mem_singleton.1 hs]
  refine ⟨by decide,fun p hp=>?_⟩
  rw [List.mem_singleton.1 hp,Pt.wf_iff]
  refine ⟨by unfold i64; decide,by decide,⟨by decide,fun s h=>by cases h⟩,⟨by decide,fun s h=>by cases h⟩,by decide,(fun s h=>by cases h),by decide,fun q hq=>?_⟩
  rw [List.mem_singleton.1 hq,Ps.wf_iff]
  exact ⟨by unfold i64; decide,by unfold i64; decide,by unfold i64; decide,by decide,fun s h=>by cases h⟩
 ·rw [List.mem_singleton.1 hs]
  refine ⟨by decide,fun p hp=>?_⟩
  rw [List.mem_singleton.1 hp]
  refine ⟨⟨by decide,by decide,by decide,(fun s h=>by cases h),by decide⟩,by decide,fun q hq=>?_⟩
  rw [List.mem_singleton.1 hq]
  exact ⟨⟨by unfold i64; decide,by unfold i64; decide⟩,by decide,fun s h=>by cases h⟩
 ·rw [List.mem_singleton.1 hs] at hp
  rw [List.mem_singleton.1 hp] at hq
  rw [List.mem_singleton.1 hq]
  exact fun s h=>by cases h
theorem al1:sQ alL 2 alS 1=true:=by kernel_rfl
theorem al2:sQ alL 2 alS 2=false:=by kernel_rfl
theorem al3:sQ alL 2 alS 3=true:=by kernel_rfl
theorem EN (hC:mK σ) (H:Hp):aH Try.prog σ gN [] H (Bo true) H:=by
 refine bP (fun K hK=>kE.run ?_) rfl rfl H
 iterate 5 refine nl rfl ?_
 refine aw (aH.drop (fun H=>qN alB alW (by decide) H) (.cons (m9 I7 _ _ (by kernel_rfl)) .nil)) ?_
 simp only [mE,List.getElem?_cons_zero,List.getElem?_cons_succ,aa]
 iterate 6 refine nl rfl ?_
 simp only [bl]
 refine nl rfl ?_
 refine nl rfl ?_
 refine aw ((pq (alM hC) Im 1 Hp.empty).frzA (.cons (.refl (cq _ _)) (.cons (.refl rfl) (.cons (m9 (skS 1) _ _ (by kernel_rfl)) .nil))) rfl) ?_
 simp only [al1,aj,if_true]
 refine nl rfl ?_
 refine aw ((pq (alM hC) Im 2 Hp.empty).frzA (.cons (.refl (cq _ _)) (.cons (.refl rfl) (.cons (m9 (skS 1) _ _ (by kernel_rfl)) .nil))) rfl) ?_
 simp only [al2,ep,aa,aj,if_true,Bool.not_false]
 refine nl rfl ?_
 refine aw ((pq (alM hC) Im 3 Hp.empty).frzA (.cons (.refl (cq _ _)) (.cons (.refl rfl) (.cons (m9 (skS 1) _ _ (by kernel_rfl)) .nil))) rfl) ?_
 rw [al3]
 exact hK _
end Go.Proofs.Ythmaggcfghjmfaa.Ev
namespace Go.Proofs.Ythmaggcfghjmfaa.Ev
set_option linter.unusedVariables false
set_option linter.unusedSimpArgs false
variable {σ:Sig}
def mu (s:ByteArray):Bool:=decide (60<(s.data.size:Int))
def qq (p:ByteArray × ByteArray):Bool:=mu p.1||decide (100<(p.2.data.size:Int))
def B7 (n:Nd):Bool:=decide (8<(n.classes.length:Int))||(decide (8<(n.attrs.length:Int))||(mu n.tag||(mu n.id||(n.classes.any mu||n.attrs.any qq))))
def wA (L:List Nd):Bool:=if 40<L.length then (if L.length≤4096 then true else decide (4100<L.length)) else decide (4100<L.length)
def mL (L:List Nd) (m:Nat):Bool:=((L.drop m).take (100 - m)).any B7||wA L
structure xg (n:Nd):Prop where
 classes:n.classes.length≤8
 attrs:n.attrs.length≤8
 tag:n.tag.data.size≤60
 id:n.id.data.size≤60
 cl:∀ s ∈ n.classes,s.data.size≤60
 at':∀ p ∈ n.attrs,p.1.data.size≤60∧p.2.data.size≤100
theorem xg.of {n:Nd} (h:B7 n=false):xg n:=by
 unfold B7 qq mu at h
 simp only [Bool.or_eq_false_iff,decide_eq_false_iff_not,List.any_eq_false,Bool.or_eq_true,decide_eq_true_eq,not_or] at h
 obtain ⟨h1,h2,h3,h4,h5,h6⟩:=h
 exact ⟨by omega,by omega,by omega,by omega,fun s hs=>by have:=h5 s hs; omega,fun p hp=>by have:=h6 p hp; omega⟩
theorem xz {L:List Nd} {m:Nat} {n:Nd} (h:L[m]?=some n) (hm:m<100):mL L m=(B7 n||mL L (m+1)):=by
 unfold mL
 obtain ⟨j,hj⟩:∃ j,100 - m=j+1:=⟨99 - m,by omega⟩
 rw [cN h,hj,List.take_succ_cons,List.any_cons,Bool.or_assoc,show 100 - (m+1)=j by omega]
section
attribute [local irreducible] aV.L0 aV.L1 aV.L2
theorem HW {L:List Nd} {m:Nat} {n:Nd} (hn:L[m]?=some n) (hm:m<100) {K:AV→Hp→Prop} {y4:AV} (hl:n.attrs.length≤8)
  (h0:∀ H y4 y5,(∀ H,K (Bo (mL L (m+1))) H)→aV.L0 σ K (nds L) (I ((m+1:Nat):Int)) y4 y5 H):∀ (f k:Nat) (H:Hp),n.attrs.length - k=f→k≤n.attrs.length→(∀ H,K (Bo ((n.attrs.drop k).any qq||mL L (m+1))) H) →
  aV.L2 σ K (nds L) (I (m:Int)) y4 (I (k:Int)) H:=by
 have hix:aQ 5 (nds L) (I (m:Int))=some (.ip (bz n)):=cd hn
 intro f
 induction f with
 | zero =>
  intro k H hf hk hK
  have:k=n.attrs.length:=by omega
  subst this
  refine aV.L2_step ?_
  have hw:wr .i64 ((m:Int)+1)=((m+1:Nat):Int):=bW (by omega)
  simp only [hix,aa,oW,fJ,pb,fR,List.length_map,b8,Int.lt_irrefl,decide_false,aj,Bool.false_eq_true,if_false,co,hw]
  refine h0 _ _ _ ?_
  simpa using hK
 | succ f ih =>
  intro k H hf hk hK
  have hlt:k<n.attrs.length:=by omega
  obtain ⟨p,hp⟩:=cb hlt
  rw [cN hp,List.any_cons] at hK
  have hlt':(k:Int)<n.attrs.length:=by omega
  have hixp:aQ 2 (.imm 2 (n.attrs.map cC)) (I (k:Int))=some (.ip (cC p)):=cd hp
  have hw:wr .i64 ((k:Int)+1)=((k+1:Nat):Int):=bW (by omega)
  refine aV.L2_step ?_
  simp only [hix,aa,oW,fJ,pb,fR,List.length_map,b8,hlt',decide_true,aj,if_true,hixp,List.drop_zero,zR,w_,ik,eT,decide_eq_true_eq,co,hw]
  split
  ·rename_i h
   have:qq p=true:=by unfold qq mu; rw [decide_eq_true h,Bool.true_or]
   rw [this] at hK
   simpa using hK H
  rename_i h1
  split
  ·rename_i h
   have:qq p=true:=by unfold qq; rw [decide_eq_true h,Bool.or_true]
   rw [this] at hK
   simpa using hK H
  ·rename_i h
   have:qq p=false:=by unfold qq mu; rw [decide_eq_false h,decide_eq_false h1]; rfl
   rw [this] at hK
   exact ih (k+1) H (by omega) (by omega) (by simpa using hK)
theorem GT {L:List Nd} {m:Nat} {n:Nd} (hn:L[m]?=some n) (hm:m<100) {K:AV→Hp→Prop} {y5:AV} (hl:n.attrs.length≤8) (hl2:n.classes.length≤8)
  (h0:∀ H y4 y5,(∀ H,K (Bo (mL L (m+1))) H)→aV.L0 σ K (nds L) (I ((m+1:Nat):Int)) y4 y5 H):∀ (f k:Nat) (H:Hp),n.classes.length - k=f→k≤n.classes.length→(∀ H,K (Bo ((n.classes.drop k).any mu||(n.attrs.any qq||mL L (m+1)))) H) →
  aV.L1 σ K (nds L) (I (m:Int)) (I (k:Int)) y5 H:=by
 have hix:aQ 5 (nds L) (I (m:Int))=some (.ip (bz n)):=cd hn
 intro f
 induction f with
 | zero =>
  intro k H hf hk hK
  have:k=n.classes.length:=by omega
  subst this
  refine aV.L1_step ?_
  simp only [hix,aa,oW,fJ,pu,pE,b8,Int.lt_irrefl,decide_false,aj,Bool.false_eq_true,if_false]
  exact HW hn hm hl h0 _ 0 H rfl (Nat.zero_le _) (by simpa using hK)
 | succ f ih =>
  intro k H hf hk hK
  have hlt:k<n.classes.length:=by omega
  obtain ⟨p,hp⟩:=cb hlt
  rw [cN hp,List.any_cons] at hK
  have hlt':(k:Int)<n.classes.length:=by omega
  have hixp:aQ 1 (dY n.classes) (I (k:Int))=some (.ip [Sx p]):=cd hp
  have lx:∀ H,ldA false 1 H (.ip [Sx p])=some (Sx p):=fun _=>rfl
  have hw:wr .i64 ((k:Int)+1)=((k+1:Nat):Int):=bW (by omega)
  refine aV.L1_step ?_
  simp only [hix,aa,oW,fJ,pu,pE,b8,hlt',decide_true,aj,if_true,hixp,jb,ik,eT,decide_eq_true_eq,co,hw]
  split
  ·rename_i h
   have:mu p=true:=decide_eq_true h
   rw [this] at hK
   simpa using hK H
  ·rename_i h
   have:mu p=false:=decide_eq_false h
   rw [this] at hK
   exact ih (k+1) H (by omega) (by omega) (by simpa using hK)
theorem rC {L:List Nd} {K:AV→Hp→Prop} {H:Hp} (hK:∀ H,K (Bo (wA L)) H):bnd (a8 (nds L)) fun x24=>bnd (af .gtr x24 (I 40)) fun x25=>ifB x25 (bnd (a8 (nds L)) fun x26=>bnd (af .leq x26 (I 4096)) fun x27=>ifB x27 (K (Bo true) H) (bnd (a8 (nds L)) fun x28=>bnd (af .gtr x28 (I 4100)) fun x29=>K x29 H)) (bnd (a8 (nds L)) fun x30=>bnd (af .gtr x30 (I 4100)) fun x31=>K x31 H):=by
 simp only [gQ,aa,eT,oa,aj,decide_eq_true_eq]
 have e:decide ((4100:Int)<(L.length:Int))=decide (4100<L.length):=by rw [decide_eq_decide]; omega
 rw [e]
 unfold wA at hK
 by_cases h1:40<L.length
 ·have h1':(40:Int)<(L.length:Int):=by omega
  rw [if_pos h1] at hK
  rw [if_pos h1']
  by_cases h2:L.length≤4096
  ·have h2':(L.length:Int)≤4096:=by omega
   rw [if_pos h2] at hK
   rw [if_pos h2']
   exact hK H
  ·have h2':¬ (L.length:Int)≤4096:=by omega
   rw [if_neg h2] at hK
   rw [if_neg h2']
   exact hK H
 ·have h1':¬ (40:Int)<(L.length:Int):=by omega
  rw [if_neg h1] at hK
  rw [if_neg h1']
  exact hK H
theorem uP (L:List Nd) (H:Hp):aH Try.prog σ j_ [nds L] H (Bo (mL L 0)) H:=by
 refine bP (fun K hK=>aV.run ?_) (by simp [aU,bQ]) rfl H
 have L0:∀ (f m:Nat) (H:Hp) (y4 y5:AV),100 - m=f→m≤L.length→m≤100→(∀ H,K (Bo (mL L m)) H)→aV.L0 σ K (nds L) (I (m:Int)) y4 y5 H:=by
  intro f
  induction f with
  | zero =>
   intro m H y4 y5 hf hm hm2 hK
   obtain rfl:m=100:=by omega
   have hK:∀ H,K (Bo (wA L)) H:=by simpa [mL] using hK
   refine aV.L0_step ?_
   have e0:¬ (((100:Nat):Int)<100):=by decide
   by_cases h:((100:Nat):Int)<L.length
   ·simp only [gQ,aa,b8,h,decide_true,aj,if_true,e0,decide_false,Bool.false_eq_true,if_false]
    have hE:=rC (H:=H) hK
    simp only [gQ,aa,eT,oa] at hE ⊢
    exact hE
   ·simp only [gQ,aa,b8,h,decide_false,aj,Bool.false_eq_true,if_false]
    have hE:=rC (H:=H) hK
    simp only [gQ,aa,eT,oa] at hE ⊢
    exact hE
  | succ f ih =>
   intro m H y4 y5 hf hm hm2 hK
   refine aV.L0_step ?_
   have e0:((m:Nat):Int)<100:=by omega
   by_cases h:m<L.length
   ·have h':(m:Int)<L.length:=by omega
    obtain ⟨n,hn⟩:=cb h
    rw [xz hn (by omega)] at hK
    have hix:aQ 5 (nds L) (I (m:Int))=some (.ip (bz n)):=cd hn
    simp only [gQ,aa,b8,h',decide_true,aj,if_true,e0,hix,oW,fJ,pu,pb,wN,zW,pE,fR,List.length_map,ik,eT,decide_eq_true_eq]
    unfold B7 at hK
    split
    ·rename_i h1; simp only [h1,decide_true,Bool.true_or] at hK; exact hK H
    rename_i h1
    split
    ·rename_i h2; simp only [h2,decide_true,Bool.true_or,Bool.or_true] at hK; exact hK H
    rename_i h2
    split
    ·rename_i h3
     have:mu n.tag=true:=decide_eq_true h3
     simp only [this,Bool.true_or,Bool.or_true] at hK; exact hK H
    rename_i h3
    split
    ·rename_i h4
     have:mu n.id=true:=decide_eq_true h4
     simp only [this,Bool.true_or,Bool.or_true] at hK; exact hK H
    rename_i h4
    have t3:mu n.tag=false:=decide_eq_false h3
    have t4:mu n.id=false:=decide_eq_false h4
    simp only [h1,h2,t3,t4,decide_false,Bool.false_or,Bool.or_assoc] at hK
    exact GT hn (by omega) (by omega) (by omega) (fun H y4 y5 hK'=>ih (m+1) H y4 y5 (by omega) (by omega) (by omega) hK') _ 0 H rfl (Nat.zero_le _) (by simpa using hK)
   ·have h':¬ (m:Int)<L.length:=by omega
    have:m=L.length:=by omega
    subst this
    have hK:∀ H,K (Bo (wA L)) H:=by simpa [mL] using hK
    simp only [gQ,aa,b8,h',decide_false,aj,Bool.false_eq_true,if_false]
    have hE:=rC (H:=H) hK
    simp only [gQ,aa,eT,oa] at hE ⊢
    exact hE
 exact L0 _ 0 _ _ _ rfl (Nat.zero_le _) (by decide) hK
end
theorem sG {P:Program} {σ:Sig} {f:Nat} {xs:List AV} {r:AV} (h:∀ K:AV→Hp→Prop,(∀ H,K r H)→∃ r' H1,aH P σ f xs Hp.empty r' H1∧K r' H1) (hx:aU xs=true) (hr:bQ r=true) (H:Hp):aH P σ f xs H r H:=by
 obtain ⟨r',H1,hg,e⟩:=h (fun r' _=>r'=r) (fun _=>rfl)
 subst e
 exact hg.frzR hx (.refl hr) H
structure nz (L:List Nd) (d:List Nat):Prop where
 len:L.length≤40
 hB:db L L.length d
 sm:∀ n ∈ L,xg n
theorem xW (L:List Nd) (hW:∀ n ∈ L,lu n):(∀ H,aH Try.prog σ fp [nds L] H (.tup [.lit (.pointer none),.lit (.pointer none),Bo false]) H) ∨
  (∃ d,nz L d∧∀ H,aH Try.prog σ fp [nds L] H (.tup [dw L d,A3 L d,Bo true]) H):=by
 rcases xr (σ:=σ) L hW with ⟨_,e,he,hg⟩ | ⟨d,hN,hB,hg⟩
 ·refine .inl fun H=>bP (fun K hK=>gT.run (aw (uP L _) (aw (hg _) ?_))) (by simp [aU,bQ]) rfl H
  simp only [mE,List.getElem?_cons_zero,List.getElem?_cons_succ,aa,aj,jC,he,decide_false,Bool.not_false,if_true]
  cases mL L 0<;>simp only [Bool.false_eq_true,if_true,if_false]<;>exact hK _
 ·cases hb:mL L 0 with
  | true =>
   refine .inl fun H=>bP (fun K hK=>gT.run (aw (uP L _) (aw (hg _) ?_))) (by simp [aU,bQ]) rfl H
   simp only [mE,List.getElem?_cons_zero,List.getElem?_cons_succ,aa,hb,aj,if_true]
   exact hK _
  | false =>
   have hT:nz L d:=by
    unfold mL wA at hb
    simp only [Bool.or_eq_false_iff,List.drop_zero] at hb
    have hl:L.length≤40:=by
     have h2:=hb.2
     by_cases h:40<L.length
     ·rw [if_pos h,if_pos hN] at h2; cases h2
     ·omega
    refine ⟨hl,hB,fun n hn=>xg.of ?_⟩
    have:=List.any_eq_false.1 hb.1 n (by rw [List.take_of_length_le (by omega)]; exact hn)
    simpa using this
   refine .inr ⟨d,hT,fun H=>sG (fun K hK=>gT.run (aw (uP L _) (aw (hg _) ?_))) (by simp [aU,bQ]) ?_ H⟩
   ·simp only [mE,List.getElem?_cons_zero,List.getElem?_cons_succ,aa,hb,aj,jC,decide_true,Bool.not_true,Bool.false_eq_true,if_false]
    refine aw (qN hB hW hN _) ?_
    simp only [mE,List.getElem?_cons_zero,List.getElem?_cons_succ,aa]
    exact hK _
   ·simp [bQ,aU,cq,xq]
end Go.Proofs.Ythmaggcfghjmfaa.Ev
namespace Go.Proofs.Ythmaggcfghjmfaa.Ev
set_option linter.unusedVariables false
set_option linter.unusedSimpArgs false
variable {σ:Sig}
def lR (c:Int):Bool:=decide (0≤c)&&(decide (c≤1114111)&&(decide (c<55296)||decide (57343<c)))
def pi (c:Int):Bool:=decide (c=9)||(decide (c=10)||decide (c=32))
def oq (c:Int):Bool:=decide (48≤c)&&decide (c≤57)
def nsB (c:Int):Bool:=(decide (97≤c)&&decide (c≤122))||((decide (65≤c)&&decide (c≤90))||(decide (c=95)||decide (128≤c)))
def npB (c:Int):Bool:=nsB c||(oq c||decide (c=45))
def tJ (c:Int):Int:=if 48≤c∧c≤57 then c - 48 else if 97≤c∧c≤102 then c - 87 else if 65≤c∧c≤70 then c - 55 else -1
theorem mS (c:Int) (H:Hp):aH Try.prog σ ev [I c] H (Bo (lR c)) H:=by
 refine bP (fun K hK=>lM.run ?_) rfl rfl H
 unfold lR at hK
 simp only [iR,oa,b8,eT,aa,aj,decide_eq_true_eq]
 by_cases h1:0≤c<;>by_cases h2:c≤1114111<;>by_cases h3:c<55296<;>simp [h1,h2,h3] at hK ⊢<;>exact hK _
theorem nN (c:Int) (H:Hp):aH Try.prog σ dc [I c] H (Bo (pi c)) H:=by
 refine bP (fun K hK=>lW.run ?_) rfl rfl H
 unfold pi at hK
 simp only [bT,aa,aj,decide_eq_true_eq]
 by_cases h1:c=9
 ·simp [h1] at hK ⊢; exact hK _
 ·by_cases h2:c=10
  ·simp [h2] at hK ⊢; exact hK _
  ·simp [h1,h2] at hK ⊢; exact hK _
theorem gU (c:Int) (H:Hp):aH Try.prog σ cM [I c] H (Bo (oq c)) H:=by
 refine bP (fun K hK=>lZ.run ?_) rfl rfl H
 unfold oq at hK
 simp only [iR,oa,aa,aj,decide_eq_true_eq]
 by_cases h1:48≤c<;>simp [h1] at hK ⊢<;>exact hK _
theorem jS (c:Int) (H:Hp):aH Try.prog σ dH [I c] H (Bo (nsB c)) H:=by
 refine bP (fun K hK=>iK.run ?_) rfl rfl H
 unfold nsB at hK
 simp only [iR,oa,bT,aa,aj,decide_eq_true_eq]
 by_cases h1:97≤c<;>by_cases h2:c≤122<;>by_cases h3:65≤c<;>by_cases h4:c≤90<;>by_cases h5:c=95<;>simp [h1,h2,h3,h4,h5] at hK ⊢<;>first | exact hK _ | omega
theorem mW (c:Int) (H:Hp):aH Try.prog σ cY [I c] H (Bo (npB c)) H:=by
 refine bP (fun K hK=>iN.run (aw (jS c _) ?_)) rfl rfl H
 unfold npB at hK
 simp only [aj]
 cases h1:nsB c with
 | true=>rw [h1] at hK; simpa using hK _
 | false =>
  rw [h1] at hK
  simp only [Bool.false_eq_true,if_false]
  refine aw (gU c _) ?_
  simp only [aj]
  cases h2:oq c with
  | true=>rw [h2] at hK; simpa using hK _
  | false =>
   rw [h2] at hK
   simpa using hK _
theorem vp (c:Int) (H:Hp):aH Try.prog σ gJ [I c] H (I (tJ c)) H:=by
 refine bP (fun K hK=>o7.run ?_) rfl rfl H
 simp only [iR,oa,kK,co,aa,aj,decide_eq_true_eq]
 have h:∀ (n:Int) (H:Hp),n=tJ c→K (I n) H:=fun n H e=>e ▸ hK H
 unfold tJ at h
 repeat' split
 all_goals
  refine h _ _ ?_
  try rw [show wr .i64 (c - 97)=c - 97 from fe (by omega) (by omega)]
  try rw [show wr .i64 (c - 65)=c - 65 from fe (by omega) (by omega)]
  try rw [fe (by omega) (by omega)]
  repeat' split
  all_goals omega
def zV (c:Int):Int:=if c=58 then 11 else if c=59 then 12 else if c=44 then 13 else if c=123 then 14 else if c=125 then 15 else if c=40 then 16 else if c=41 then 17 else if c=91 then 18 else if c=93 then 19 else 0
theorem wg (c:Int) (H:Hp):aH Try.prog σ aW [I c] H (I (zV c)) H:=by
 refine bP (fun K hK=>nJ.run ?_) rfl rfl H
 simp only [bT,aa,aj,decide_eq_true_eq]
 have h:∀ (n:Int) (H:Hp),n=zV c→K (I n) H:=fun n H e=>e ▸ hK H
 unfold zV at h
 repeat' split
 all_goals
  refine h _ _ ?_
  simp [*]
theorem Hm (c:Int):-1≤tJ c∧tJ c≤15∧(0≤tJ c→0≤c):=by
 unfold tJ
 repeat' split
 all_goals omega
theorem HE {c:Int} (h:npB c=true):0≤c:=by
 unfold npB nsB oq at h
 simp only [Bool.or_eq_true,Bool.and_eq_true,decide_eq_true_eq] at h
 omega
theorem vu {c:Int} (h:oq c=true):0≤c:=by
 unfold oq at h
 simp only [Bool.and_eq_true,decide_eq_true_eq] at h
 omega
theorem qC {c:Int} (h:pi c=true):0≤c:=by
 unfold pi at h
 simp only [Bool.or_eq_true,decide_eq_true_eq] at h
 omega
def zrw (n:Int):List AV:=[I n]
def zs (l:List Int):AV:=.imm 1 (l.map zrw)
theorem Ei (l:List Int):bQ (zs l)=true:=by unfold zs; simp only [bQ]; exact a_ _ (fun _=>rfl) l
theorem sa (l:List Int):a8 (zs l)=some (I (l.length:Int)):=by simp [zs]
def cn (l:List Int) (i:Nat):Int:=match l[i]? with
 | none=>-1
 | some c=>if lR c then c else 65533
theorem wt {c:Int} (h:lR c=true):0≤c:=by
 unfold lR at h
 simp only [Bool.and_eq_true,decide_eq_true_eq] at h
 exact h.1
theorem fh (l:List Int) (i:Nat):-1≤cn l i∧(0≤cn l i ↔ i<l.length):=by
 unfold cn
 split
 ·rename_i h
  have:=List.getElem?_eq_none_iff.1 h
  omega
 ·rename_i c h
  obtain ⟨hlt,_⟩:=List.getElem?_eq_some_iff.1 h
  split
  ·rename_i hr
   have:=wt hr
   omega
  ·omega
def Rd (b:Nat) (l:List Int) (a:Nat) (H:Hp):Prop:=H.get b=some (.cells [zs l,I (a:Int)] true)
structure Kpb (b:Nat) (H H':Hp):Prop where
 n:H.n≤H'.n
 g:∀ j,j<H.n→j≠b→H'.get j=H.get j
theorem Kpb.refl {b:Nat} {H:Hp}:Kpb b H H:=⟨Nat.le_refl _,fun _ _ _=>rfl⟩
theorem Kpb.trans {b:Nat} {H H1 H2:Hp} (h:Kpb b H H1) (h':Kpb b H1 H2):Kpb b H H2:=⟨Nat.le_trans h.n h'.n,fun j hj hb=>(h'.g j (Nat.lt_of_lt_of_le hj h.n) hb).trans (h.g j hj hb)⟩
theorem Rd.l0 {b a:Nat} {l:List Int} {H:Hp} (h:Rd b l a H):ldA false 1 H (.ptr b (0+0))=some (zs l):=by rw [bA,h]; rfl
theorem Rd.l1 {b a:Nat} {l:List Int} {H:Hp} (h:Rd b l a H):ldA false 1 H (.ptr b (0+1))=some (I (a:Int)):=by rw [bA,h]; rfl
theorem b_ {b a:Nat} {l:List Int} {H:Hp} {K:AV→Hp→Prop} {k:Int} (n:Nat) (hk:k=(n:Int)) (h:Rd b l a H) (hn:a+n<4000000000) (hK:K (I (cn l (a+n))) H):ai Try.prog σ al [.ptr b 0,I k] H K:=by
 subst hk
 refine ia.run ?_
 have e:wr .i64 ((a:Int)+(n:Int))=((a+n:Nat):Int):=by rw [fe (by omega) (by omega)]; omega
 simp only [fw,bx,aa,h.l0,h.l1,co,e,sa,iR,aj,decide_eq_true_eq]
 unfold cn at hK
 by_cases hi:(l.length:Int)≤((a+n:Nat):Int)
 ·rw [if_pos hi]
  rw [List.getElem?_eq_none (by omega)] at hK
  exact hK
 ·rw [if_neg hi]
  obtain ⟨c,hc⟩:=cb (show a+n<l.length by omega)
  rw [hc] at hK
  have hK:K (I (if lR c=true then c else 65533)) H:=hK
  have hix:aQ 1 (zs l) (I ((a+n:Nat):Int))=some (.ip (zrw c)):=cd hc
  have lc:ldA false 1 H (.ip (zrw c))=some (I c):=rfl
  simp only [hix,lc,aa]
  refine aw (mS c H) ?_
  simp only [ep,aa,aj]
  cases hr:lR c with
  | true=>rw [hr] at hK; simpa using hK
  | false=>rw [hr] at hK; simpa using hK
theorem kJ {b a:Nat} {l:List Int} {H:Hp} {K:Hp→Prop} {k:Int} (m:Nat) (hk:k=(m:Int)) (h:Rd b l a H) (hm:a+m<4000000000) (hK:∀ H',Rd b l (a+m) H'→Kpb b H H'→H'.n=H.n→K H') :
  bnd (ar (.ptr b 0)) fun x1=>bnd (ae x1 1) fun x2=>bnd (ldA false 1 H x2) fun x3=>bnd (af .add x3 (I k)) fun x4=>bnd (ar (.ptr b 0)) fun x5=>bnd (ae x5 1) fun x6=>bnd (stA 1 H x6 x4) K:=by
 subst hk
 have e:wr .i64 ((a:Int)+(m:Int))=((a+m:Nat):Int):=by rw [fe (by omega) (by omega)]; omega
 have s:stA 1 H (.ptr b (0+1)) (I ((a+m:Nat):Int))=some (H.set b (some (.cells [zs l,I ((a+m:Nat):Int)] true))):=fS h rfl rfl rfl (by simp)
 simp only [fw,bx,aa,h.l1,co,e,s]
 refine hK _ (by unfold Rd; rw [ax,if_pos rfl]) ⟨by simp,fun j _ hj=>by rw [ax,if_neg hj]⟩ (by simp)
def rT (l:List Int) (i:Nat):Bool:=decide (cn l i=92)&&(decide (0≤cn l (i+1))&&!decide (cn l (i+1)=10))
theorem G5 {l:List Int} {i:Nat} (h:rT l i=true):i+2≤l.length:=by
 unfold rT at h
 simp only [Bool.and_eq_true,decide_eq_true_eq] at h
 have:=(fh l (i+1)).2.1 h.2.1
 omega
theorem lf {b a:Nat} {l:List Int} {H:Hp} {K:AV→Hp→Prop} {k:Int} (n:Nat) (hk:k=(n:Int)) (h:Rd b l a H) (hn:a+n<3000000000) (hK:K (Bo (rT l (a+n))) H):ai Try.prog σ bS [.ptr b 0,I k] H K:=by
 subst hk
 refine fF.run ?_
 refine b_ n rfl h (by omega) ?_
 unfold rT at hK
 have e:wr .i64 ((n:Int)+1)=((n+1:Nat):Int):=bW (by omega)
 simp only [bT,aa,aj,decide_eq_true_eq]
 by_cases h1:cn l (a+n)=92
 ·rw [if_pos h1]
  rw [co,aa,e]
  refine b_ (n+1) rfl h (by omega) ?_
  simp only [iR,aa,aj,decide_eq_true_eq]
  by_cases h2:0≤cn l (a+(n+1))
  ·rw [if_pos h2]
   try rw [co,aa,e]
   refine b_ (n+1) rfl h (by omega) ?_
   rw [jC,aa]
   have e2:a+n+1=a+(n+1):=by omega
   rw [e2] at hK
   simpa [h1,h2] using hK
  ·rw [if_neg h2]
   have e2:a+n+1=a+(n+1):=by omega
   rw [e2] at hK
   simpa [h1,h2] using hK
 ·rw [if_neg h1]
  simpa [h1] using hK
def qd (l:List Int) (i:Nat):Bool:=if cn l i=45 then nsB (cn l (i+1))||(decide (cn l (i+1)=45)||rT l (i+1)) else nsB (cn l i)||rT l i
theorem GY {l:List Int} {i:Nat} (h:qd l i=true):npB (cn l i)=true∨rT l i=true:=by
 unfold qd at h
 split at h
 ·rename_i e
  left
  rw [e]; rfl
 ·rw [Bool.or_eq_true] at h
  rcases h with h | h
  ·left; unfold npB; rw [h]; rfl
  ·exact .inr h
theorem na {b a:Nat} {l:List Int} {H:Hp} {K:AV→Hp→Prop} {k:Int} (n:Nat) (hk:k=(n:Int)) (h:Rd b l a H) (hn:a+n<2000000000) (hK:K (Bo (qd l (a+n))) H):ai Try.prog σ bn [.ptr b 0,I k] H K:=by
 subst hk
 refine fG.run ?_
 refine b_ n rfl h (by omega) ?_
 unfold qd at hK
 have e:wr .i64 ((n:Int)+1)=((n+1:Nat):Int):=bW (by omega)
 have e2:a+n+1=a+(n+1):=by omega
 rw [e2] at hK
 simp only [bT,aa,aj,decide_eq_true_eq]
 by_cases h1:cn l (a+n)=45
 ·rw [if_pos h1] at hK ⊢
  rw [co,aa,e]
  refine b_ (n+1) rfl h (by omega) (aw (jS _ H) ?_)
  rw [aj]
  cases h2:nsB (cn l (a+(n+1))) with
  | true=>rw [h2] at hK; simpa using hK
  | false =>
   rw [h2] at hK
   simp only [Bool.false_eq_true,if_false,co,aa,e]
   refine b_ (n+1) rfl h (by omega) ?_
   simp only [bT,aa,aj,decide_eq_true_eq]
   by_cases h3:cn l (a+(n+1))=45
   ·rw [if_pos h3]
    simpa [h3] using hK
   ·rw [if_neg h3]
    try rw [co,aa,e]
    refine lf (n+1) rfl h (by omega) ?_
    simpa [h3] using hK
 ·rw [if_neg h1] at hK ⊢
  refine aw (jS _ H) ?_
  rw [aj]
  cases h2:nsB (cn l (a+n)) with
  | true=>rw [h2] at hK; simpa using hK
  | false =>
   rw [h2] at hK
   simp only [Bool.false_eq_true,if_false]
   refine lf n rfl h (by omega) ?_
   simpa using hK
def tZ (l:List Int) (i:Nat):Bool:=oq (cn l i)||(decide (cn l i=46)&&oq (cn l (i+1)))
def uC (l:List Int) (a:Nat):Bool:=if cn l a=43∨cn l a=45 then tZ l (a+1) else tZ l a
theorem wO {b a:Nat} {l:List Int} {H:Hp} {K:AV→Hp→Prop} (h:Rd b l a H) (hn:a<2000000000) (hK:K (Bo (uC l a)) H):ai Try.prog σ dW [.ptr b 0] H K:=by
 refine bG.run ?_
 have J0:∀ (n:Nat),n≤1→K (Bo (tZ l (a+n))) H→bG.J0 σ K (.ptr b 0) (I (n:Int)) H:=by
  intro n hn1 hK
  refine bG.J0_step ?_
  refine b_ n rfl h (by omega) (aw (gU _ H) ?_)
  unfold tZ at hK
  have e:wr .i64 ((n:Int)+1)=((n+1:Nat):Int):=bW (by omega)
  have e2:a+n+1=a+(n+1):=by omega
  rw [e2] at hK
  rw [aj]
  cases h2:oq (cn l (a+n)) with
  | true=>rw [h2] at hK; simpa using hK
  | false =>
   rw [h2] at hK
   simp only [Bool.false_eq_true,if_false]
   refine b_ n rfl h (by omega) ?_
   simp only [bT,aa,aj,decide_eq_true_eq]
   by_cases h3:cn l (a+n)=46
   ·rw [if_pos h3,co,aa,e]
    refine b_ (n+1) rfl h (by omega) (aw (gU _ H) ?_)
    simpa [h3] using hK
   ·rw [if_neg h3]
    simpa [h3] using hK
 refine b_ 0 rfl h (by omega) ?_
 unfold uC at hK
 simp only [bT,aa,aj,decide_eq_true_eq,Nat.add_zero]
 by_cases h1:cn l a=43
 ·rw [if_pos h1]
  rw [if_pos (.inl h1)] at hK
  exact J0 1 (by omega) hK
 ·rw [if_neg h1]
  refine b_ 0 rfl h (by omega) ?_
  simp only [bT,aa,aj,decide_eq_true_eq,Nat.add_zero]
  by_cases h2:cn l a=45
  ·rw [if_pos h2]
   rw [if_pos (.inr h2)] at hK
   exact J0 1 (by omega) hK
  ·rw [if_neg h2]
   rw [if_neg (by omega)] at hK
   exact J0 0 (by omega) hK
section
attribute [local irreducible] aD.L0 aD.J1
theorem pD {b a:Nat} {l:List Int} {H:Hp} {K:AV→Hp→Prop} (h:Rd b l a H) (ha:a+2≤l.length) (hl:l.length≤1000000) (hK:∀ (c:Int) (a':Nat) (H':Hp),Rd b l a' H'→Kpb b H H'→H'.n=H.n→a<a'→a'≤l.length→K (I c) H'):ai Try.prog σ bO [.ptr b 0] H K:=by
 refine aD.run ?_
 refine kJ 1 rfl h (by omega) fun H1 h1 k1 n1=>?_
 refine b_ 0 rfl h1 (by omega) (aw (vp _ H1) ?_)
 simp only [b8,aa,aj,decide_eq_true_eq]
 by_cases hx:tJ (cn l (a+1+0))<0
 ·rw [if_pos hx]
  refine kJ 1 rfl h1 (by omega) fun H2 h2 k2 n2=>?_
  exact hK _ (a+1+1) H2 h2 (k1.trans k2) (by omega) (by omega) (by omega)
 ·rw [if_neg hx]
  have J1:∀ (n k:Int) (a1:Nat) (H2:Hp),Rd b l a1 H2→Kpb b H H2→H2.n=H.n→a<a1→a1≤l.length→aD.J1 σ K (.ptr b 0) (I n) (I k) H2:=by
   intro n k a1 H2 h2 k2 n2 g1 g2
   refine aD.J1_step ?_
   simp only [bT,aa,aj,decide_eq_true_eq]
   split
   ·exact hK _ a1 H2 h2 k2 n2 g1 g2
   ·refine aw (mS n H2) ?_
    simp only [ep,aa,aj]
    split<;>exact hK _ a1 H2 h2 k2 n2 g1 g2
  have W:∀ (n k:Int) (a1:Nat) (H2:Hp),Rd b l a1 H2→Kpb b H H2→H2.n=H.n→a<a1→a1≤l.length→ai Try.prog σ al [.ptr b 0,I 0] H2 fun x32 H33=>ai Try.prog σ dc [x32] H33 fun x34 H35=>ifB x34 (bnd (ar (.ptr b 0)) fun x36=>bnd (ae x36 1) fun x37=>bnd (ldA false 1 H35 x37) fun x38=>bnd (af .add x38 (I 1)) fun x39=>bnd (ar (.ptr b 0)) fun x40=>bnd (ae x40 1) fun x41=>bnd (stA 1 H35 x41 x39) fun H42=>aD.J1 σ K (.ptr b 0) (I n) (I k) H42) (aD.J1 σ K (.ptr b 0) (I n) (I k) H35):=by
   intro n k a1 H2 h2 k2 n2 g1 g2
   refine b_ 0 rfl h2 (by omega) (aw (nN _ H2) ?_)
   rw [aj]
   split
   ·rename_i hw
    have:=(fh l (a1+0)).2.1 (qC hw)
    refine kJ 1 rfl h2 (by omega) fun H3 h3 k3 n3=>?_
    exact J1 n k (a1+1) H3 h3 (k2.trans k3) (by omega) (by omega) (by omega)
   ·exact J1 n k a1 H2 h2 k2 n2 g1 g2
  have L0:∀ (f:Nat) (n:Int) (k a1:Nat) (H2:Hp),6 - k=f→k≤6→Rd b l a1 H2→Kpb b H H2→H2.n=H.n→a<a1→a1≤l.length→aD.L0 σ K (.ptr b 0) (I n) (I (k:Int)) H2:=by
   intro f
   induction f with
   | zero =>
    intro n k a1 H2 hf hk h2 k2 n2 g1 g2
    have:¬ ((k:Int)<6):=by omega
    refine aD.L0_step ?_
    simp only [b8,aa,this,decide_false,aj,Bool.false_eq_true,if_false]
    exact W n k a1 H2 h2 k2 n2 g1 g2
   | succ f ih =>
    intro n k a1 H2 hf hk h2 k2 n2 g1 g2
    have:(k:Int)<6:=by omega
    refine aD.L0_step ?_
    simp only [b8,aa,this,decide_true,aj,if_true]
    refine b_ 0 rfl h2 (by omega) (aw (vp _ H2) ?_)
    simp only [iR,aa,aj,decide_eq_true_eq]
    split
    ·rename_i hx
     have hlt:=(fh l (a1+0)).2.1 ((Hm _).2.2 hx)
     rw [pG,aa]
     refine b_ 0 rfl h2 (by omega) (aw (vp _ H2) ?_)
     rw [co,aa]
     refine kJ 1 rfl h2 (by omega) fun H3 h3 k3 n3=>?_
     rw [co,aa,bW (by omega)]
     exact ih _ (k+1) (a1+1) H3 (by omega) (by omega) h3 (k2.trans k3) (by omega) (by omega) (by omega)
    ·exact W n k a1 H2 h2 k2 n2 g1 g2
  exact L0 _ 0 0 (a+1) H1 rfl (by omega) h1 k1 n1 (by omega) (by omega)
end
def B8 (l:List UInt8):List (List AV):=l.map fun c=>[dh c]
theorem mo:∀ l:List UInt8,(B8 l).flatten=l.map dh
 | []=>rfl
 | c::l=>by
  have:=mo l
  unfold B8 at this ⊢
  rw [List.map_cons,List.flatten_cons,this]; rfl
theorem hO (l:List UInt8):(B8 l).length=l.length:=by unfold B8; rw [List.length_map]
theorem ru {H:Hp} {x:AV} {l:List UInt8} (h:Gs 1 H x (B8 l)):eO H x=some (Sx ⟨l.toArray⟩):=by
 generalize hr:B8 l=rows at h
 cases h with
 | nil =>
  cases l with
  | nil=>rfl
  | cons c l=>cases hr
 | sl hlt hg hsz =>
  subst hr
  rw [mo] at hg
  rename_i id ex
  simp only [eO,gK,hg,hO]
  have e:List.take l.length (l.map dh)=l.map dh:=by
   have:=List.take_length (l:=l.map dh)
   rwa [List.length_map] at this
  simp only [List.drop_zero,Nat.mul_one,jn,e,List.length_map,decide_true,Bool.and_self,cond_true,po,lO]
  rfl
def u8 (v:Int):UInt8:=UInt8.ofNat (wr .u8 v).toNat
theorem Ga (n:Int):0≤wr .u8 n∧wr .u8 n≤255:=by
 rw [m3]
 simp only [IntKind.wrap,IntKind.bits,IntKind.signed]
 simp
 omega
theorem cv8 (v:Int):d4 .u8 (I v)=some (dh (u8 v)):=by
 show some (AV.lit (.int .u8 (wr .u8 v)))=_
 have:=Ga v
 unfold dh u8
 rw [UInt8.toNat_ofNat_of_lt' (by show _<256; omega)]
 congr 3
 omega
theorem jH {H:Hp} {x:AV} {l bs:List UInt8} (hx:Gs 1 H x (B8 l)) (hn:l.length≤1000000) (hb:bs.length≤10) {n:Nat} (hnl:n=bs.length) {K:AV × Hp→Prop} (hK:∀ x' H',Gs 1 H' x' (B8 (l++bs))→Fr H x H' x'→K (x',H')) :
  bnd (aT false 1 1 (H.new (.cells (bs.map dh) true)) x (.sl H.n 0 1 n (some n))) K:=by
 subst hnl
 have hk:Gs 1 (H.new (.cells (bs.map dh) true)) x (B8 l):=by
  refine hx.keep (fun j hj=>?_) (by simp)
  have:j≠H.n:=by have:=hx.lt hj; omega
  simp [this]
 have e:List.take bs.length (bs.map dh)=bs.map dh:=by
  have:=List.take_length (l:=bs.map dh)
  rwa [List.length_map] at this
 refine oO (rows2:=B8 bs) hk rfl ?_ (fun row hr=>?_) ?_ (by rw [hO,hO]; omega) (by rw [hO,hO]; omega) fun x' H' g' fr=>hK x' H' ?_ ⟨fun j hj ho=>?_,?_,fun j hj=>?_⟩
 ·rw [mo,hO]
  simp [gK,jn,e]
 ·obtain ⟨c,_,rfl⟩:=List.mem_map.1 hr
  rfl
 ·rw [mo]; exact po bs
 ·unfold B8 at g' ⊢; rw [List.map_append]; exact g'
 ·have hne:j≠H.n:=by omega
  rw [fr.same j (by simp; omega) ho]
  simp [hne]
 ·have:=fr.grow; simp at this; omega
 ·rcases fr.mine j hj with h | ⟨h1,h2⟩
  ·exact .inl h
  ·simp at h1; exact .inr ⟨by omega,h2⟩
section
attribute [local irreducible] eE.J0
theorem Fa {H:Hp} {x:AV} {l:List UInt8} (hx:Gs 1 H x (B8 l)) (hn:l.length≤1000000) (c:Int) {K:AV→Hp→Prop} (hK:∀ x' H' bs,Gs 1 H' x' (B8 (l++bs))→bs.length≤4→Fr H x H' x'→K x' H'):ai Try.prog σ bV [x,I c] H K:=by
 have sh:∀ (v:Int) (k:Nat),∃ w,af .shr (I v) (.lit (.int .u64 (k:Int)))=some (I w):=fun v k=>⟨_,by simp [af,lit?,eF]; rfl⟩
 have an:∀ v w:Int,∃ z,af .and (I v) (I w)=some (I z):=fun v w=>⟨_,by simp [af,lit?,eF]; rfl⟩
 have or':∀ v w:Int,∃ z,af .or (I v) (I w)=some (I z):=fun v w=>⟨_,by simp [af,lit?,eF]; rfl⟩
 have J0:∀ c:Int,eE.J0 σ K x (I c) H:=by
  intro c
  refine eE.J0_step ?_
  obtain ⟨a6,ha6⟩:=sh c 6
  obtain ⟨a12,ha12⟩:=sh c 12
  obtain ⟨a18,ha18⟩:=sh c 18
  obtain ⟨m6,hm6⟩:=an a6 63
  obtain ⟨m12,hm12⟩:=an a12 63
  obtain ⟨m0,hm0⟩:=an c 63
  obtain ⟨o6,ho6⟩:=or' 192 a6
  obtain ⟨o12,ho12⟩:=or' 224 a12
  obtain ⟨o18,ho18⟩:=or' 240 a18
  obtain ⟨q6,hq6⟩:=or' 128 m6
  obtain ⟨q12,hq12⟩:=or' 128 m12
  obtain ⟨q0,hq0⟩:=or' 128 m0
  have ha6:af .shr (I c) (.lit (.int .u64 6))=some (I a6):=ha6
  have ha12:af .shr (I c) (.lit (.int .u64 12))=some (I a12):=ha12
  have ha18:af .shr (I c) (.lit (.int .u64 18))=some (I a18):=ha18
  simp only [b8,aa,aj,decide_eq_true_eq,ha6,ha12,ha18,hm6,hm12,hm0,ho6,ho12,ho18,hq6,hq12,hq0,cv8]
  split
  ·have eb:au [.int .u8 0] 1 1 H [(0,1,dh (u8 c))]=some (.sl H.n 0 1 1 (some 1),H.new (.cells ([u8 c].map dh) true)):=rfl
   rw [eb,aa]
   exact jH (bs:=[u8 c]) hx hn (by simp) rfl fun x' H' g f=>hK x' H' _ g (by simp) f
  ·split
   ·have eb:au [.int .u8 0] 1 2 H [(0,1,dh (u8 o6)),(1,1,dh (u8 q0))]=some (.sl H.n 0 1 2 (some 2),H.new (.cells ([u8 o6,u8 q0].map dh) true)):=rfl
    rw [eb,aa]
    exact jH (bs:=[u8 o6,u8 q0]) hx hn (by simp) rfl fun x' H' g f=>hK x' H' _ g (by simp) f
   ·split
    ·have eb:au [.int .u8 0] 1 3 H [(0,1,dh (u8 o12)),(1,1,dh (u8 q6)),(2,1,dh (u8 q0))]=some (.sl H.n 0 1 3 (some 3),H.new (.cells ([u8 o12,u8 q6,u8 q0].map dh) true)):=rfl
     rw [eb,aa]
     exact jH (bs:=[u8 o12,u8 q6,u8 q0]) hx hn (by simp) rfl fun x' H' g f=>hK x' H' _ g (by simp) f
    ·have eb:au [.int .u8 0] 1 4 H [(0,1,dh (u8 o18)),(1,1,dh (u8 q12)),(2,1,dh (u8 q6)),(3,1,dh (u8 q0))]=some (.sl H.n 0 1 4 (some 4),H.new (.cells ([u8 o18,u8 q12,u8 q6,u8 q0].map dh) true)):=rfl
     rw [eb,aa]
     exact jH (bs:=[u8 o18,u8 q12,u8 q6,u8 q0]) hx hn (by simp) rfl fun x' H' g f=>hK x' H' _ g (by simp) f
 refine eE.run ?_
 refine aw (mS c H) ?_
 simp only [ep,aa,aj]
 split
 ·exact J0 _
 ·exact J0 _
end
end Go.Proofs.Ythmaggcfghjmfaa.Ev
namespace Go.Proofs.Ythmaggcfghjmfaa.Ev
set_option linter.unusedVariables false
set_option linter.unusedSimpArgs false
variable {σ:Sig}
structure BW (b:Nat) (l:List Int) (H0:Hp) (a:Nat) (x:AV) (bs:List UInt8) (H:Hp):Prop where
 rd:Rd b l a H
 kp:Kpb b H0 H
 gs:Gs 1 H x (B8 bs)
 ow:∀ j,own x j→H0.n≤j
theorem BW.ob {b a:Nat} {l:List Int} {H0 H:Hp} {x:AV} {bs:List UInt8} (h:BW b l H0 a x bs H) (hb:b<H0.n) {j:Nat} (hj:own x j):j≠b:=by
 have:=h.ow j hj; omega
theorem BW.put {b a:Nat} {l:List Int} {H0 H:Hp} {x:AV} {bs:List UInt8} (h:BW b l H0 a x bs H) (hb:b<H0.n) (hn:bs.length≤1000000) {c:Int} {K:AV→Hp→Prop} (hK:∀ x' H' bs',BW b l H0 a x' (bs++bs') H'→bs'.length≤4→K x' H'):ai Try.prog σ bV [x,I c] H K:=by
 refine Fa h.gs hn c fun x' H' bs' g hl fr=>hK x' H' bs' ⟨?_,⟨?_,fun j hj hjb=>?_⟩,g,fun j hj=>?_⟩ hl
 ·unfold Rd
  rw [fr.same b (by have:=h.kp.n; omega) fun ho=>h.ob hb ho rfl]
  exact h.rd
 ·have:=h.kp.n; have:=fr.grow; omega
 ·rw [fr.same j (by have:=h.kp.n; omega) fun ho=>by have:=h.ow j ho; omega]
  exact h.kp.g j hj hjb
 ·rcases fr.mine j hj with h1 | ⟨h1,_⟩
  ·exact h.ow j h1
  ·have:=h.kp.n; omega
theorem BW.to {b a a':Nat} {l:List Int} {H0 H H':Hp} {x:AV} {bs:List UInt8} (h:BW b l H0 a x bs H) (hb:b<H0.n) (hr:Rd b l a' H') (hk:Kpb b H H'):BW b l H0 a' x bs H' :=
 ⟨hr,h.kp.trans hk,h.gs.keep (fun j hj=>hk.g j (h.gs.lt hj) (h.ob hb hj)) hk.n,h.ow⟩
theorem BW.adv {b a:Nat} {l:List Int} {H0 H:Hp} {x:AV} {bs:List UInt8} (h:BW b l H0 a x bs H) (hb:b<H0.n) {K:Hp→Prop} {k:Int} (m:Nat) (hk:k=(m:Int)) (hm:a+m<4000000000) (hK:∀ H',BW b l H0 (a+m) x bs H'→K H') :
  bnd (ar (.ptr b 0)) fun x1=>bnd (ae x1 1) fun x2=>bnd (ldA false 1 H x2) fun x3=>bnd (af .add x3 (I k)) fun x4=>bnd (ar (.ptr b 0)) fun x5=>bnd (ae x5 1) fun x6=>bnd (stA 1 H x6 x4) K :=
 kJ m hk h.rd hm fun H' h1 h2 _=>hK H' (h.to hb h1 h2)
section
attribute [local irreducible] bN.L0
theorem oF {b a:Nat} {l:List Int} {H:Hp} {K:AV→Hp→Prop} (h:Rd b l a H) (hb:b<H.n) (hl:l.length≤200) (ha:a≤l.length+4)
  (hK:∀ (s:ByteArray) (a':Nat) (H':Hp),Rd b l a' H'→Kpb b H H'→a≤a'→(a'≤l.length∨a'=a)→s.data.size≤900→((npB (cn l a)=true∨rT l a=true)→a<a')→K (Sx s) H'):ai Try.prog σ aA [.ptr b 0] H K:=by
 refine bN.run ?_
 have L0:∀ (f a1:Nat) (H1:Hp) (y3:AV) (bs:List UInt8),l.length+5 - a1≤f→a≤a1→(a1≤l.length∨a1=a)→BW b l H a1 y3 bs H1→bs.length≤4*a1→bN.L0 σ K (.ptr b 0) (.lit (.string ⟨#[]⟩)) y3 H1:=by
  intro f
  induction f with
  | zero=>intro a1 H1 y3 bs hf h1 h2 hB hlen; omega
  | succ f ih =>
   intro a1 H1 y3 bs hf h1 h2 hB hlen
   refine bN.L0_step ?_
   refine b_ 0 rfl hB.rd (by omega) (aw (mW _ H1) ?_)
   rw [aj,Nat.add_zero]
   cases hn:npB (cn l a1) with
   | true =>
    have hlt:=(fh l a1).2.1 (HE hn)
    simp only [if_true]
    refine hB.put hb (by omega) fun x' H2 bs' hB2 hb4=>?_
    refine hB2.adv hb 1 rfl (by omega) fun H3 hB3=>?_
    exact ih (a1+1) H3 x' _ (by omega) (by omega) (.inl (by omega)) hB3 (by rw [List.length_append]; omega)
   | false =>
    simp only [Bool.false_eq_true,if_false]
    refine lf 0 rfl hB.rd (by omega) ?_
    rw [aj,Nat.add_zero]
    cases he:rT l a1 with
    | true =>
     simp only [if_true]
     refine pD hB.rd (G5 he) (by omega) fun c a' H2 hr k2 _ hlt hle=>?_
     refine (hB.to hb hr k2).put hb (by omega) fun x' H3 bs' hB3 hb4=>?_
     exact ih a' H3 x' _ (by omega) (by omega) (.inl hle) hB3 (by rw [List.length_append]; omega)
    | false =>
     simp only [Bool.false_eq_true,if_false,ru hB.gs,aa]
     refine hK _ a1 H1 hB.rd hB.kp h1 h2 (by simp; omega) fun hc=>?_
     rcases Nat.lt_or_ge a a1 with h | h
     ·exact h
     ·have:a1=a:=by omega
      subst this
      rw [hn,he] at hc
      rcases hc with hc | hc<;>cases hc
 exact L0 _ a H _ [] (Nat.le_refl _) (Nat.le_refl _) (.inr rfl) ⟨h,.refl,.nil,fun j hj=>hj.elim⟩ (by simp)
end
structure Tn where
 kind:Int
 text:ByteArray
 n:Int
 whole:Bool
 c:Int
def bD (t:Tn):List AV:=[I t.kind,Sx t.text,I t.n,Bo t.whole,I t.c]
structure g_ (t:Tn):Prop where
 text:t.text.data.size≤900
 n:-2147483647≤t.n∧t.n≤2147483647
theorem u0 {H:Hp} {r:Nat} {cs:List AV} {t:Tn} {K:AV→Hp→Prop} (hg:H.get r=some (.cells cs true)) (hl:cs.length=5) (hK:∀ H',H'.n=H.n→(∀ j,j≠r→H'.get j=H.get j)→K (.agg (bD t)) H') :
  bnd (stA 5 H (.ptr r 0) (.agg (bD t))) fun H6=>bnd (ldA true 5 H6 (.ptr r 0)) fun r7=>K r7 H6:=by
 have s:stA 5 H (.ptr r 0) (.agg (bD t))=some (H.set r (some (.cells (bD t) true))):=by
  rw [fC,hg,if_pos (show (bD t).length=5 from rfl),cp,if_pos ⟨by rw [hl]; show 0+5≤5; omega,rfl⟩,aS (by rw [hl]; rfl)]
 have l2:ldA true 5 (H.set r (some (.cells (bD t) true))) (.ptr r 0)=some (.agg (bD t)):=by
  rw [bA,ax,if_pos rfl,bK,List.drop_zero,cB (show (bD t).length=5 from rfl)]
 rw [s,aa,l2,aa]
 exact hK _ (by simp) fun j hj=>by rw [ax,if_neg hj]
def zTn:List AV:=[I 0,.lit (.string ⟨#[]⟩),I 0,.lit (.bool false),I 0]
section
attribute [local irreducible] aR.L0
theorem Ac {b a:Nat} {l:List Int} {H:Hp} {K:AV→Hp→Prop} (h:Rd b l a H) (hb:b<H.n) (hl:l.length≤200) (ha:a<l.length)
  (hK:∀ (t:Tn) (a':Nat) (H':Hp),Rd b l a' H'→Kpb b H H'→a<a'→a'≤l.length→g_ t→K (.agg (bD t)) H'):ai Try.prog σ cj [.ptr b 0] H K:=by
 refine aR.run ?_
 rw [bl]
 obtain ⟨r,hr⟩:∃ r,r=H.n:=⟨_,rfl⟩
 obtain ⟨H0,hH0⟩:∃ H0,H0=H.new (.cells zTn true):=⟨_,rfl⟩
 have e0:H.new (.cells [I 0,.lit (.string ⟨#[]⟩),I 0,.lit (.bool false),I 0] true)=H0:=hH0.symm
 have n0:H0.n=H.n+1:=by rw [hH0]; rfl
 have g0:H0.get r=some (.cells zTn true):=by rw [hH0,hr]; simp
 have k0:Kpb b H H0:=⟨by omega,fun j hj _=>by rw [hH0,az,if_neg (by omega)]⟩
 have h0:Rd b l a H0:=by unfold Rd; rw [hH0,az,if_neg (by omega)]; exact h
 rw [e0,← hr]
 clear hH0 e0
 have hrb:r≠b:=by omega
 refine b_ 0 rfl h0 (by omega) ?_
 generalize cn l (a+0)=en
 refine kJ 1 rfl h0 (by omega) fun H1 h1 k1 n1=>?_
 have fin:∀ (H1:Hp) (t:Tn) (a1:Nat),Rd b l a1 H1→Kpb b H0 H1→a<a1→a1≤l.length→g_ t→bnd (stA 5 H1 (.ptr r 0) (.agg (bD t))) fun H6=>bnd (ldA true 5 H6 (.ptr r 0)) fun r7=>K r7 H6:=by
  intro H1 t a1 h1 k1 g1 g2 ht
  refine u0 (cs:=zTn) (by rw [k1.g r (by omega) hrb]; exact g0) rfl fun H2 n2 o2=>hK t a1 H2 ?_ ⟨?_,fun j hj hjb=>?_⟩ g1 g2 ht
  ·unfold Rd; rw [o2 b (Ne.symm hrb)]; exact h1
  ·have:=k0.n; have:=k1.n; omega
  ·rw [o2 j (by omega),k1.g j (by omega) hjb]
   exact k0.g j hj hjb
 have L0:∀ (f a1:Nat) (H1:Hp) (y4:AV) (bs:List UInt8),l.length+1 - a1≤f→a<a1→a1≤l.length→BW b l H0 a1 y4 bs H1→bs.length≤4*a1→aR.L0 σ K (.ptr b 0) (.ptr r 0) (I en) y4 H1:=by
  intro f
  induction f with
  | zero=>intro a1 H1 y4 bs hf g1 g2 hB hlen; omega
  | succ f ih =>
   intro a1 H1 y4 bs hf g1 g2 hB hlen
   have hb0:b<H0.n:=by omega
   have stepA:a1<l.length→∀ c:Int,ai Try.prog σ bV [y4,I c] H1 fun x51 H52=>bnd (ar (.ptr b 0)) fun x53=>bnd (ae x53 1) fun x54=>bnd (ldA false 1 H52 x54) fun x55=>bnd (af .add x55 (I 1)) fun x56=>bnd (ar (.ptr b 0)) fun x57=>bnd (ae x57 1) fun x58=>bnd (stA 1 H52 x58 x56) fun H59=>aR.L0 σ K (.ptr b 0) (.ptr r 0) (I en) x51 H59:=by
    intro hlt c
    refine hB.put hb0 (by omega) fun x' H2 bs' hB2 hb4=>?_
    refine hB2.adv hb0 1 rfl (by omega) fun H3 hB3=>?_
    exact ih (a1+1) H3 x' _ (by omega) (by omega) (by omega) hB3 (by rw [List.length_append]; omega)
   have stepE:a1+2≤l.length→ai Try.prog σ bO [.ptr b 0] H1 fun x47 H48=>ai Try.prog σ bV [y4,x47] H48 fun x49 H50=>aR.L0 σ K (.ptr b 0) (.ptr r 0) (I en) x49 H50:=by
    intro h2
    refine pD hB.rd h2 (by omega) fun c a' H2 hr k2 _ hlt hle=>?_
    refine (hB.to hb0 hr k2).put hb0 (by omega) fun x' H3 bs' hB3 hb4=>?_
    exact ih a' H3 x' _ (by omega) (by omega) hle hB3 (by rw [List.length_append]; omega)
   have stepM:∀ (m:Nat) (k:Int),k=(m:Int)→1≤m→a1+m≤l.length→bnd (ar (.ptr b 0)) fun x28=>bnd (ae x28 1) fun x29=>bnd (ldA false 1 H1 x29) fun x30=>bnd (af .add x30 (I k)) fun x31=>bnd (ar (.ptr b 0)) fun x32=>bnd (ae x32 1) fun x33=>bnd (stA 1 H1 x33 x31) fun H34=>aR.L0 σ K (.ptr b 0) (.ptr r 0) (I en) y4 H34:=by
    intro m k hk hm hle
    refine hB.adv hb0 m hk (by omega) fun H3 hB3=>?_
    exact ih (a1+m) H3 y4 _ (by omega) (by omega) hle hB3 (by omega)
   have b1:aY [I 0,.lit (.string ⟨#[]⟩),I 0,.lit (.bool false),I 0] [(0,1,I 4),(1,1,Sx ⟨bs.toArray⟩)]=some (bD ⟨4,⟨bs.toArray⟩,0,false,0⟩):=rfl
   have b2:aY [I 0,.lit (.string ⟨#[]⟩),I 0,.lit (.bool false),I 0] [(0,1,I 5)]=some (bD ⟨5,⟨#[]⟩,0,false,0⟩):=rfl
   have t1:g_ ⟨4,⟨bs.toArray⟩,0,false,0⟩:=⟨by simp; omega,(by decide:(-2147483647:Int)≤0),(by decide:(0:Int)≤2147483647)⟩
   have t2:g_ ⟨5,⟨#[]⟩,0,false,0⟩:=⟨by decide,by decide⟩
   have sb:=fh l a1
   have sb1:=fh l (a1+1)
   refine aR.L0_step ?_
   refine b_ 0 rfl hB.rd (by omega) ?_
   rw [Nat.add_zero,b8,aa,aj]
   simp only [decide_eq_true_eq]
   by_cases c0:cn l a1<0
   ·rw [if_pos c0,ru hB.gs,aa,b1,aa]
    exact fin H1 _ a1 hB.rd hB.kp g1 g2 t1
   rw [if_neg c0,bT,aa,aj]
   simp only [decide_eq_true_eq]
   have hlt:a1<l.length:=sb.2.1 (by omega)
   by_cases c1:cn l a1=en
   ·rw [if_pos c1]
    refine hB.adv hb0 1 rfl (by omega) fun H3 hB3=>?_
    rw [ru hB3.gs,aa,b1,aa]
    exact fin H3 _ (a1+1) hB3.rd hB3.kp (by omega) (by omega) t1
   rw [if_neg c1,bT,aa,aj]
   simp only [decide_eq_true_eq]
   by_cases c2:cn l a1=10
   ·rw [if_pos c2,b2,aa]
    exact fin H1 _ a1 hB.rd hB.kp g1 g2 t2
   rw [if_neg c2]
   simp only [bT,aa,aj,decide_eq_true_eq]
   by_cases c3:cn l a1=92
   ·simp only [if_pos c3]
    refine b_ 1 rfl hB.rd (by omega) ?_
    rw [b8,aa,aj]
    simp only [decide_eq_true_eq]
    by_cases c4:cn l (a1+1)<0
    ·rw [if_pos c4]
     exact stepM 1 1 rfl (by omega) (by omega)
    have h2l:a1+1<l.length:=sb1.2.1 (by omega)
    rw [if_neg c4]
    refine b_ 1 rfl hB.rd (by omega) ?_
    simp only [bT,aa,aj,decide_eq_true_eq]
    by_cases c5:cn l (a1+1)=10
    ·rw [if_pos c5]
     exact stepM 2 2 rfl (by omega) (by omega)
    ·rw [if_neg c5]
     exact stepE (by omega)
   ·simp only [if_neg c3]
    exact stepA hlt _
 exact L0 _ (a+1) H1 _ [] (Nat.le_refl _) (by omega) (by omega) ⟨h1,k1,.nil,fun j hj=>hj.elim⟩ (by simp)
end
theorem GU (v:Int) (H:Hp) {K:AV→Hp→Prop} (hK:∀ m:Int,-2147483647≤m→m≤2147483647→K (I m) H):ai Try.prog σ kh [I v] H K:=by
 refine pB.run ?_
 simp only [eT,b8,aa,aj,decide_eq_true_eq]
 split
 ·exact hK _ (by omega) (by omega)
 ·split
  ·exact hK _ (by omega) (by omega)
  ·exact hK _ (by omega) (by omega)
section
attribute [local irreducible] aC.J0 aC.L1 aC.J2 aC.L3 aC.J4 aC.J5
theorem HH (s:ByteArray) (hs:s.data.size≤1000000) (H:Hp) {K:AV→Hp→Prop} (hK:∀ (m:Int) (ok:Bool),-2147483647≤m→m≤2147483647→K (.tup [I m,Bo ok]) H):ai Try.prog σ j8 [Sx s] H K:=by
 refine aC.run ?_
 have ls:cG (Sx s)=some (I (s.data.size:Int)):=rfl
 have hz:=hK 0 false (by decide) (by decide)
 have ix:∀ i:Nat,i<s.data.size→∃ c:UInt8,gv (Sx s) (I (i:Int))=some (.lit (.int .u8 c.toNat)):=fun i hi=>by
  obtain ⟨c,hc⟩:=cb (show i<(tl s).length by rw [gF]; exact hi)
  exact ⟨c,u4 hc⟩
 have cv:∀ c:UInt8,d4 .i64 (.lit (.int .u8 (c.toNat:Int)))=some (I (c.toNat:Int)):=fun c=>by
  show some (AV.lit (.int .i64 (wr .i64 (c.toNat:Int))))=_
  have:=c.toNat_lt
  rw [fe (by omega) (by omega)]
 have J5:∀ (y4 y7 y8 y9 y10:AV) (b5:Bool) (v:Int),aC.J5 σ K (Sx s) y4 (Bo b5) (I v) y7 y8 y9 y10 H:=by
  intro y4 y7 y8 y9 y10 b5 v
  refine aC.J5_step ?_
  exact GU v H fun m h1 h2=>hK m true h1 h2
 have J4:∀ (i:Int) (b5 b9:Bool) (v n7 n8:Int) (y10:AV),aC.J4 σ K (Sx s) (I i) (Bo b5) (I v) (I n7) (I n8) (Bo b9) y10 H:=by
  intro i b5 b9 v n7 n8 y10
  refine aC.J4_step ?_
  have j5:(if b5=true then aC.J5 σ K (Sx s) (I i) (Bo b5) (I (wr .i64 (0 - v))) (I n7) (I n8) (Bo b9) y10 H else aC.J5 σ K (Sx s) (I i) (Bo b5) (I v) (I n7) (I n8) (Bo b9) y10 H):=by
   split
   ·exact J5 _ _ _ _ _ _ _
   ·exact J5 _ _ _ _ _ _ _
  simp only [ls,aa,jC,bT,ep,Ja,aj]
  repeat' split
  all_goals first | exact hz | exact J5 _ _ _ _ _ _ _
 have L3:∀ (f i:Nat) (b5 b9:Bool) (v n7 n8 n10:Int),s.data.size+1 - i≤f→i≤s.data.size→aC.L3 σ K (Sx s) (I (i:Int)) (Bo b5) (I v) (I n7) (I n8) (Bo b9) (I n10) H:=by
  intro f
  induction f with
  | zero=>intro i b5 b9 v n7 n8 n10 hf hi; omega
  | succ f ih =>
   intro i b5 b9 v n7 n8 n10 hf hi
   refine aC.L3_step ?_
   simp only [ls,aa,b8,aj,decide_eq_true_eq]
   by_cases hlt:(i:Int)<s.data.size
   ·rw [if_pos hlt]
    obtain ⟨c,hc⟩:=ix i (by omega)
    simp only [hc,aa,cv]
    refine aw (gU _ H) ?_
    rw [aj]
    split
    ·simp only [kK,pG,co,aa,FN _ 10 .i64 (by decide)]
     rw [bW (by omega)]
     exact ih (i+1) _ _ _ _ _ _ (by omega) (by omega)
    ·exact J4 _ _ _ _ _ _ _
   ·rw [if_neg hlt]
    exact J4 _ _ _ _ _ _ _
 have L1:∀ (f i:Nat) (b5:Bool) (v n7:Int) (y8 y9 y10:AV),s.data.size+1 - i≤f→i≤s.data.size→aC.L1 σ K (Sx s) (I (i:Int)) (Bo b5) (I v) (I n7) y8 y9 y10 H:=by
  intro f
  induction f with
  | zero=>intro i b5 v n7 y8 y9 y10 hf hi; omega
  | succ f ih =>
   intro i b5 v n7 y8 y9 y10 hf hi
   have J2:∀ v:Int,i<s.data.size→aC.J2 σ K (Sx s) (I (i:Int)) (Bo b5) (I v) (I n7) y8 y9 y10 H:=by
    intro v hlt
    refine aC.J2_step ?_
    simp only [co,aa]
    rw [bW (show i<9000000000000000000 by omega)]
    exact ih (i+1) _ _ _ _ _ _ (by omega) (by omega)
   have pt:∀ v:Int,(if (i:Int)<(s.data.size:Int) then bnd (gv (Sx s) (I (i:Int))) fun x16=>bnd (af .eql x16 (.lit (.int .u8 46))) fun x17=>ifB x17 (bnd (af .add (I (i:Int)) (I 1)) fun x18=>aC.L3 σ K (Sx s) x18 (Bo b5) (I v) (I n7) (I 0) x17 (I 100) H) (aC.J4 σ K (Sx s) (I (i:Int)) (Bo b5) (I v) (I n7) (I 0) x17 y10 H) else aC.J4 σ K (Sx s) (I (i:Int)) (Bo b5) (I v) (I n7) (I 0) (Bo false) y10 H):=by
    intro v
    split
    ·rename_i hlt
     obtain ⟨c,hc⟩:=ix i (by omega)
     simp only [hc,aa,bT,aj,co]
     split
     ·rw [bW (by omega)]
      exact L3 _ (i+1) _ _ _ _ _ _ (Nat.le_refl _) (by omega)
     ·exact J4 _ _ _ _ _ _ _
    ·exact J4 _ _ _ _ _ _ _
   refine aC.L1_step ?_
   simp only [ls,aa,b8,aj,decide_eq_true_eq]
   by_cases hlt:(i:Int)<s.data.size
   ·rw [if_pos hlt]
    obtain ⟨c,hc⟩:=ix i (by omega)
    simp only [hc,aa,cv]
    refine aw (gU _ H) ?_
    rw [aj]
    split
    ·simp only [kK,pG,co,eT,aa,aj]
     split
     ·exact J2 _ (by omega)
     ·exact J2 _ (by omega)
    ·have:=pt (wr .i64 (v*1000))
     rw [if_pos hlt] at this
     simp only [hc,aa] at this
     simp only [pG,aa,if_pos hlt]
     exact this
   ·rw [if_neg hlt]
    have:=pt (wr .i64 (v*1000))
    rw [if_neg hlt] at this
    simp only [pG,aa,if_neg hlt]
    exact this
 have J0:∀ (i:Nat) (b5:Bool) (y6 y7 y8 y9 y10:AV),i≤s.data.size→aC.J0 σ K (Sx s) (I (i:Int)) (Bo b5) y6 y7 y8 y9 y10 H:=by
  intro i b5 y6 y7 y8 y9 y10 hi
  exact aC.J0_step (L1 _ i _ _ _ _ _ _ (Nat.le_refl _) hi)
 have w1:wr .i64 ((0:Int)+1)=((1:Nat):Int):=rfl
 simp only [ls,aa,b8,aj,decide_eq_true_eq]
 split
 ·rename_i h0
  obtain ⟨c,hc⟩:=ix 0 (by omega)
  have hc:gv (Sx s) (I 0)=some (.lit (.int .u8 c.toNat)):=hc
  simp only [hc,aa,bT,aj,co,w1]
  split
  ·exact J0 1 _ _ _ _ _ _ (by omega)
  ·split
   ·exact J0 1 _ _ _ _ _ _ (by omega)
   ·exact J0 0 _ _ _ _ _ _ (by omega)
 ·exact J0 0 _ _ _ _ _ _ (by omega)
end
end Go.Proofs.Ythmaggcfghjmfaa.Ev
