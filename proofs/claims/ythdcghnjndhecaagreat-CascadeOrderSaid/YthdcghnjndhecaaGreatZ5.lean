/- The walks, part 5: the evaluator, the functions, the laws. Conditions: none. -/
import Derived.Test.YthdcghnjndhecaaGreatZ4
namespace Go.Proofs.YthdcghnjndhecaaGreat.Ev
set_option linter.unusedVariables false
set_option linter.unusedSimpArgs false
variable {σ:Sig}
def HFz (H H2:Hp):Prop:=∃ Hd:Hp,H2.n=H.n∧Hd.n=H.n∧(∀ id k,Hd.get id=some k→H.get id=some k∧H2.get id=none)∧(∀ id k2,H2.get id=some k2→∃ k1,H.get id=some k1∧FzB Hd k1 k2)
theorem FzT.refl {Hd:Hp}:∀ (T:List AV),FzT Hd T T
 | []=>.nil
 | x::T=>.same (.refl T)
theorem HFz.wk {H H2:Hp} (h:HFz H H2) (T:List AV):Wk σ T H T H2:=by
 obtain ⟨Hd,h1,h2,h3,h4⟩:=h
 exact Wk.frz h1 h2 h3 h4 (.refl T)
theorem HFz.loop {P:Program} {C:Ctx P} {c:Code} {T:List AV} {H H2:Hp} {Q:Exit→List AV→Hp→Prop} (k:HFz H H2) (h:aZ C c T H2 Q):aZ C c T H Q:=aZ.conv (k.wk T) h
theorem rM {szc sz:Nat} {H:Hp} {y x:AV} {rows:List (List AV)} {row:List AV} {rs:List (List AV)} (hy:Gs szc H y (rows++[row])) (hx:Gs sz H x rs) (hn:cS rs=true) {j:Nat} (hj:row[j]?=some x) (hd:∀ i,own y i→¬ own x i) :
  ∃ H2,HFz H H2∧H2.n=H.n∧Gs szc H2 y (rows++[row.set j (.imm sz rs)])∧∀ i,¬ own y i→¬ own x i→H2.get i=H.get i:=by
 have hjl:=(List.getElem?_eq_some_iff.1 hj).1
 generalize hr:rows++[row]=rr at hy
 cases hy with
 | nil=>simp at hr
 | sl hlt hg hsz =>
  rename_i id ex
  have hrow:row.length=szc:=hsz row (by rw [← hr]; simp)
  have hrr:rr.length=rows.length+1:=by rw [← hr]; simp
  have hget:rr[rows.length]?=some row:=by rw [← hr]; simp
  have hk:=lC hsz rows.length row j x hget hj
  obtain ⟨Hd,H2,h1,h2,h3,h4,h5,h6,h7⟩:=Ff hx hn hg hk (hd id rfl)
  have hflat:rr.flatten.set (rows.length*szc+j) (.imm sz rs)=(rows++[row.set j (.imm sz rs)]).flatten:=by
   have hkl:=(List.getElem?_eq_some_iff.1 hk).1
   rw [← kT hkl,eI (by simp; omega) hsz (by omega)]
   have e1:rr[rows.length]=row:=by
    rw [List.getElem?_eq_getElem (by omega)] at hget
    exact Option.some.inj hget
   have e2:aP row j [AV.imm sz rs]=row.set j (.imm sz rs):=kT hjl
   simp only [e1,e2]
   rw [← hr]
   simp
  rw [hflat] at h6
  have hl:rr.length=(rows++[row.set j (.imm sz rs)]).length:=by rw [hrr]; simp
  refine ⟨H2,⟨Hd,h2,h1,h3,h4⟩,h2,?_,fun i hi hi2=>h7 i (fun e=>hi e.symm) hi2⟩
  rw [hl]
  exact .sl (by omega) h6 (fun r hr'=>by
   rcases List.mem_append.1 hr' with h | h
   ·exact hsz r (by rw [← hr]; simp [h])
   ·simp at h; subst h; simpa using hrow)
abbrev NB:Nat:=1048576
def d_:Nat→List Sl→Nat
 | 0,_=>0
 | f+1,l=>(l.map fun s=>1+(s.map fun p=>(p.c.pseudos.map fun q=>d_ f q.list).sum).sum).sum
def h_:Nat→List Sl→Prop
 | 0,_=>False
 | f+1,l=>l.length≤NB∧∀ s ∈ l,s.length≤NB∧∀ p ∈ s,pB p.c∧p.c.pseudos.length≤NB∧∀ q ∈ p.c.pseudos,(i64 q.a∧i64 q.b)∧h_ f q.list
structure EL (c:List Lk):Prop where
 len:c.length≤NB
 lk:∀ x ∈ c,Fw x
theorem Rep.mono {C D:List (List Lk)}:∀ {f:Nat} {l:List Sl} {ns:List Nat},Rep C f l ns→Rep (C++D) f l ns
 | 0,l,ns,h=>h
 | f+1,l,ns,h=>⟨h.1,fun i s n hs hn=>by
  obtain ⟨c,h1,h2,h3⟩:=h.2 i s n hs hn
  refine ⟨c,by rw [List.getElem?_append_left (List.getElem?_eq_some_iff.1 h1).1]; exact h1,h2,fun k x hx=>⟨(h3 k x hx).1,fun j q ns' hq hns=>((h3 k x hx).2 j q ns' hq hns).mono⟩⟩⟩
structure pP (t:AV) (C:List (List Lk)) (ab mb:Nat) (cs:AV) (H:Hp):Prop where
 gab:H.get ab=some (.cells [t,cs,.mp mb] true)
 nab:ab<H.n
 gcs:Gs 1 H cs (C.map fun c=>[fF c])
 csab:¬ own cs ab
structure AFr (H:Hp) (cs:AV) (ab:Nat) (H':Hp) (cs':AV):Prop where
 up:H.n≤H'.n
 get:∀ (j:Nat),j<H.n→j≠ab→¬ own cs j→H'.get j=H.get j
 mine:∀ j,own cs' j→own cs j∨H.n≤j
theorem AFr.refl (H:Hp) (cs:AV) (ab:Nat):AFr H cs ab H cs:=⟨Nat.le_refl _,fun _ _ _ _=>rfl,fun j h=>.inl h⟩
theorem AFr.trans {H H1 H2:Hp} {cs cs1 cs2:AV} {ab:Nat} (h:AFr H cs ab H1 cs1) (k:AFr H1 cs1 ab H2 cs2):AFr H cs ab H2 cs2:=by
 refine ⟨Nat.le_trans h.up k.up,fun j hj hne ho=>?_,fun j hj=>?_⟩
 ·rw [k.get j (Nat.lt_of_lt_of_le hj h.up) hne (fun hc=>by
   rcases h.mine j hc with h | h
   ·exact ho h
   ·omega),h.get j hj hne ho]
 ·rcases k.mine j hj with h1 | h1
  ·exact h.mine j h1
  ·have:=h.up; exact .inr (by omega)
theorem AFr.loc {H H1 H2:Hp} {cs cs1:AV} {ab:Nat} (h:AFr H cs ab H1 cs1) (hn:H1.n≤H2.n) (hg:∀ j,j<H.n→H2.get j=H1.get j):AFr H cs ab H2 cs1 :=
 ⟨Nat.le_trans h.up hn,fun j hj hne ho=>by rw [hg j hj,h.get j hj hne ho],h.mine⟩
theorem pP.loc {t:AV} {C:List (List Lk)} {ab mb:Nat} {cs:AV} {H H':Hp} (h:pP t C ab mb cs H) (hn:H.n≤H'.n) (h1:H'.get ab=H.get ab) (h2:∀ j,own cs j→H'.get j=H.get j):pP t C ab mb cs H' :=
 ⟨by rw [h1]; exact h.gab,Nat.lt_of_lt_of_le h.nab hn,h.gcs.keep h2 hn,h.csab⟩
def qI (σ:Sig) (f:Nat):Prop:=∀ (l:List Sl),h_ f l→∀ (t:AV) (C:List (List Lk)) (ab mb:Nat) (cs:AV) (H:Hp) (K:AV→Hp→Prop),pP t C ab mb cs H→C.length+d_ f l≤NB →
 (∀ (H':Hp) (cs':AV) (C2:List (List Lk)) (r:AV) (ns:List Nat),pP t (C++C2) ab mb cs' H'→Rep (C++C2) f l ns→C2.length=d_ f l→(∀ c ∈ C2,EL c)→Gs 1 H' r (ns.map nz)→(∀ j,own r j→H.n≤j∧¬ own cs' j)→AFr H cs ab H' cs'→K r H') →
 az Tryz.prog σ ct [.ptr ab 0,sls l] H K
structure AS (t:AV) (C0:List (List Lk)) (ab mb:Nat) (H0:Hp) (cs0:AV) (C2:List (List Lk)) (cs:AV) (H:Hp) (y5:AV) (ns:List Nat):Prop where
 add:pP t (C0++C2) ab mb cs H
 fr:AFr H0 cs0 ab H cs
 ok:∀ c ∈ C2,EL c
 out:Gs 1 H y5 (ns.map nz)
 o5:∀ j,own y5 j→H0.n≤j∧¬ own cs j
structure po (H0:Hp) (cs y5:AV) (sz:Nat) (H:Hp) (x:AV) (rows:List (List AV)):Prop where
 gs:Gs sz H x rows
 o:∀ j,own x j→H0.n≤j∧¬ own cs j∧¬ own y5 j
theorem AS.loc {t:AV} {C0 C2:List (List Lk)} {ab mb:Nat} {H0 H H':Hp} {cs0 cs y5:AV} {ns:List Nat} (h:AS t C0 ab mb H0 cs0 C2 cs H y5 ns) (hab:ab<H0.n) (hn:H.n≤H'.n) (hg:∀ j,j<H0.n→H'.get j=H.get j) (h1:∀ j,own cs j→H'.get j=H.get j) (h5:∀ j,own y5 j→H'.get j=H.get j):AS t C0 ab mb H0 cs0 C2 cs H' y5 ns :=
 ⟨h.add.loc hn (hg _ hab) h1,h.fr.loc hn hg,h.ok,h.out.keep h5 hn,h.o5⟩
theorem po.loc {H0 H H':Hp} {cs y5 x:AV} {sz:Nat} {rows:List (List AV)} (h:po H0 cs y5 sz H x rows) (hn:H.n≤H'.n) (h1:∀ j,own x j→H'.get j=H.get j):po H0 cs y5 sz H' x rows:=⟨h.gs.keep h1 hn,h.o⟩
theorem KF {K:AV→Hp→Prop} {y0 y5 y8 y11 y14 y15 y16 y21 y22 y23 y31 y32 y33:AV} {H H2:Hp} (k:HFz H H2) (h:af.L0 σ K y0 y5 y8 y11 y14 y15 y16 y21 y22 y23 y31 y32 y33 H2):af.L0 σ K y0 y5 y8 y11 y14 y15 y16 y21 y22 y23 y31 y32 y33 H:=fun js=>k.loop (h js)
theorem Lr {K:AV→Hp→Prop} {y0 y5 y8 y11 y14 y15 y16 y21 y22 y23 y31 y32 y33:AV} {H H2:Hp} (k:HFz H H2) (h:af.L1 σ K y0 y5 y8 y11 y14 y15 y16 y21 y22 y23 y31 y32 y33 H2):af.L1 σ K y0 y5 y8 y11 y14 y15 y16 y21 y22 y23 y31 y32 y33 H:=fun js=>k.loop (h js)
theorem Kw {K:AV→Hp→Prop} {y0 y5 y8 y11 y14 y15 y16 y21 y22 y23 y31 y32 y33:AV} {H H2:Hp} (k:HFz H H2) (h:af.L2 σ K y0 y5 y8 y11 y14 y15 y16 y21 y22 y23 y31 y32 y33 H2):af.L2 σ K y0 y5 y8 y11 y14 y15 y16 y21 y22 y23 y31 y32 y33 H:=fun js=>k.loop (h js)
def jd (l:List Nat):List AV:=[jm l]
section
attribute [local irreducible] af.L0 af.L1 af.L2
theorem qx (l:List (List Nat)):cS (l.map jd)=true:=bi _ (fun l=>by simp [jd,aC,oQ]) l
theorem vJ (p:Pt) (lsl:List (List Nat)):cD ⟨p,lsl⟩=ba p++[.imm 1 (lsl.map jd)]:=rfl
theorem J6 {f:Nat} (ih:qI σ f) {t:AV} {C0:List (List Lk)} {ab mb:Nat} {H0:Hp} {cs0:AV} (hab:ab<H0.n) {K:AV→Hp→Prop} {y5:AV} {ns:List Nat} {cl:List Lk} {p:Pt} (hpl:p.c.pseudos.length≤NB) (hp:∀ q ∈ p.c.pseudos,(i64 q.a∧i64 q.b)∧h_ f q.list)
  {y14 y15 y16 y21 y22:AV} {j:Nat} (hj:j<NB) (hcl:cl.length≤j) {R:Nat} {P:List (List Lk)→Prop}
  (hK:∀ (H:Hp) (cs:AV) (C2:List (List Lk)) (y8 y11:AV) (lsl:List (List Nat)) (y31 y32 y33:AV),AS t C0 ab mb H0 cs0 C2 cs H y5 ns→P C2→po H0 cs y5 7 H y8 ((cl++[Lk.mk p lsl]).map cD)→lsl.length=p.c.pseudos.length→(∀ (j:Nat) (q:Ps) (ns':List Nat),p.c.pseudos[j]?=some q→lsl[j]?=some ns'→Rep (C0++C2) f q.list ns')→(∀ l ∈ lsl,l.length≤NB) →
   (C0++C2).length+R≤NB→af.L1 σ K (.ptr ab 0) y5 y8 y11 y14 y15 y16 y21 y22 (I ((j+1:Nat):Int)) y31 y32 y33 H) :
  ∀ (m k:Nat) (H:Hp) (cs:AV) (C2:List (List Lk)) (y8:AV) (xb:Nat) (lv:AV) (lsl:List (List Nat)),p.c.pseudos.length - k=m→k≤p.c.pseudos.length→AS t C0 ab mb H0 cs0 C2 cs H y5 ns→(∀ D,C2 <+: D→D.length=C2.length+((p.c.pseudos.drop k).map fun q=>d_ f q.list).sum→P D)→po H0 cs y5 7 H y8 (cl.map cD)→H.get xb=some (.cells (ba p++[lv]) true)→H0.n≤xb→xb<H.n→¬ own cs xb→¬ own y5 xb→¬ own y8 xb →
   po H0 cs y5 1 H lv (lsl.map jd)→¬ own lv xb→(∀ i,own lv i→¬ own y8 i)→lsl.length=k→(∀ (j:Nat) (q:Ps) (ns':List Nat),p.c.pseudos[j]?=some q→lsl[j]?=some ns'→Rep (C0++C2) f q.list ns')→(∀ l ∈ lsl,l.length≤NB) →
   (C0++C2).length+(((p.c.pseudos.drop k).map fun q=>d_ f q.list).sum+R)≤NB →
   af.L2 σ K (.ptr ab 0) y5 y8 (.ptr xb 0) y14 y15 y16 y21 y22 (I (j:Int)) (.imm 4 (p.c.pseudos.map bu)) (I p.c.pseudos.length) (I (k:Int)) H:=by
 have hNB:NB=1048576:=rfl
 intro m
 induction m with
 | zero =>
  intro k H cs C2 y8 xb lv lsl hm hk hA hP h8 gx hx0 hxn hxc hx5 hx8 hl hlx hl8 hlk hrep hlen hcnt
  have:k=p.c.pseudos.length:=by omega
  subst this
  refine af.L2_step ?_
  have hl7:ldL true 7 (ba p++[lv])=some (.agg (ba p++[lv])):=cr (by simp)
  simp only [c9,Int.lt_irrefl,decide_false,ae,aq,Bool.false_eq_true,if_false,aW,gx,bm,List.drop_zero,hl7]
  have hone:(ba p++[lv]).all AV.one=true:=by simp [hl.gs.one]
  refine gh (y:=.agg (ba p++[lv])) h8.gs (by simp) rfl hone (by simp; omega) (by simp; omega) fun y8' H2 g8 f8=>?_
  simp only [ia,ae]
  rw [df (by omega)]
  have own8:∀ i,own y8' i→H0.n≤i∧¬ own cs i∧¬ own y5 i∧¬ own lv i:=fun i hi=>by
   rcases f8.mine i hi with h | h
   ·exact ⟨(h8.o i h).1,(h8.o i h).2.1,(h8.o i h).2.2,fun h'=>hl8 i h' h⟩
   ·have h0:=hA.fr.up
    exact ⟨by omega,fun h'=>by have:=hA.add.gcs.lt h'; omega,fun h'=>by have:=hA.out.lt h'; omega,fun h'=>by have:=hl.gs.lt h'; omega⟩
  have keep:∀ i,i<H.n→¬ own y8 i→H2.get i=H.get i:=fun i hi ho=>f8.same i hi ho
  have hA2:AS t C0 ab mb H0 cs0 C2 cs H2 y5 ns:=hA.loc hab f8.grow (fun i hi=>keep i (by have:=hA.fr.up; omega) (fun h=>by have:=(h8.o i h).1; omega)) (fun i hi=>keep i (hA.add.gcs.lt hi) (fun h=>(h8.o i h).2.1 hi)) (fun i hi=>keep i (hA.out.lt hi) (fun h=>(h8.o i h).2.2 hi))
  have hl2:Gs 1 H2 lv (lsl.map jd):=hl.gs.keep (fun i hi=>keep i (hl.gs.lt hi) (hl8 i hi)) f8.grow
  have hcells:(AV.agg (ba p++[lv])).cells=ba p++[lv]:=rfl
  rw [hcells] at g8
  obtain ⟨H3,z1,z2,z3,z4⟩:=rM (j:=6) g8 hl2 (qx lsl) (by rw [List.getElem?_append_right (by simp)]; simp) (fun i hi=>(own8 i hi).2.2.2)
  have hrow:(ba p++[lv]).set 6 (.imm 1 (lsl.map jd))=cD ⟨p,lsl⟩:=by
   rw [vJ,List.set_append_right _ _ (by simp)]
   simp
  rw [hrow] at z3
  have z3':Gs 7 H3 y8' ((cl++[Lk.mk p lsl]).map cD):=by simpa using z3
  have fin:af.L1 σ K (.ptr ab 0) y5 y8' (.ptr xb 0) y14 y15 y16 y21 y22 (I ((j+1:Nat):Int)) (.imm 4 (p.c.pseudos.map bu)) (I p.c.pseudos.length) (I (p.c.pseudos.length:Int)) H3:=by
   refine hK H3 cs C2 y8' (.ptr xb 0) lsl _ _ _ ?_ (hP C2 (List.prefix_refl _) (by simp)) ⟨z3',fun i hi=>⟨(own8 i hi).1,(own8 i hi).2.1,(own8 i hi).2.2.1⟩⟩ hlk hrep hlen (by simp at hcnt ⊢; omega)
   refine hA2.loc hab (by omega) (fun i hi=>z4 i (fun h=>by have:=(own8 i h).1; omega) (fun h=>by have:=(hl.o i h).1; omega)) (fun i hi=>z4 i (fun h=>(own8 i h).2.1 hi) (fun h=>(hl.o i h).2.1 hi)) (fun i hi=>z4 i (fun h=>(own8 i h).2.2.1 hi) (fun h=>(hl.o i h).2.2 hi))
  exact Lr z1 fin
 | succ m ihm =>
  intro k H cs C2 y8 xb lv lsl hm hk hA hP h8 gx hx0 hxn hxc hx5 hx8 hl hlx hl8 hlk hrep hlen hcnt
  have hlt:k<p.c.pseudos.length:=by omega
  obtain ⟨q,hq⟩:=bQ hlt
  have hqm:=List.mem_of_getElem? hq
  have hlt':(k:Int)<p.c.pseudos.length:=by omega
  rw [cn hq,List.map_cons,List.sum_cons] at hcnt
  have hdq:p.c.pseudos.drop k=q::p.c.pseudos.drop (k+1):=cn hq
  refine af.L2_step ?_
  obtain ⟨H6,hH6⟩:∃ H6,H6=(H.new (.cells [I 0,I 0,I 0,.lit (.slice none 0 0)] true)).set H.n (some (.cells (bu q) true)):=⟨_,rfl⟩
  have hst:stA 4 (H.new (.cells [I 0,I 0,I 0,.lit (.slice none 0 0)] true)) (.ptr H.n 0) (.agg (bu q))=some H6:=by
   rw [hH6]
   simp
   rw [Ad q (by simp)]
  have k6:∀ i,i<H.n→H6.get i=H.get i:=fun i hi=>by
   have:i≠H.n:=by omega
   rw [hH6]; simp [this]
  have n6:H6.n=H.n+1:=by rw [hH6]; rfl
  have g6:H6.get H.n=some (.cells (bu q) true):=by rw [hH6]; simp
  clear hH6
  have gx6:H6.get xb=some (.cells (ba p++[lv]) true):=by rw [k6 xb hxn]; exact gx
  have hd6:ldL false 1 ((ba p++[lv]).drop 6)=some lv:=by rw [List.drop_append_of_le_length (by simp),List.drop_of_length_le (by simp)]; simp
  simp only [c9,hlt',decide_true,ae,aq,if_true,cj hq,fT,pK,bG,hst,cM,Nat.zero_add,aW,gx6,bm,hd6,g6,qF]
  have hA6:AS t C0 ab mb H0 cs0 C2 cs H6 y5 ns:=hA.loc hab (by omega) (fun i hi=>k6 i (by have:=hA.fr.up; omega)) (fun i hi=>k6 i (hA.add.gcs.lt hi)) (fun i hi=>k6 i (hA.out.lt hi))
  refine ih q.list (hp q hqm).2 t (C0++C2) ab mb cs H6 _ hA6.add (by omega) fun H' cs' D r ns' a1 a2 a3 a4 a5 a6 a7=>?_
  have hxab:xb≠ab:=by omega
  have k7:∀ i,H0.n≤i→i<H6.n→¬ own cs i→H'.get i=H6.get i:=fun i h1 h2 h3=>a7.get i h2 (by omega) h3
  have gx7:H'.get xb=some (.cells (ba p++[lv]) true):=by rw [k7 xb hx0 (by omega) hxc]; exact gx6
  have up7:=a7.up
  have cs7:∀ i,own cs' i→own cs i∨H6.n≤i:=a7.mine
  have hl7:po H0 cs' y5 1 H' lv (lsl.map jd):=by
   refine ⟨hl.gs.keep (fun i hi=>?_) (by omega),fun i hi=>⟨(hl.o i hi).1,fun h=>?_,(hl.o i hi).2.2⟩⟩
   ·have:=hl.gs.lt hi
    rw [k7 i (hl.o i hi).1 (by omega) (hl.o i hi).2.1,k6 i this]
   ·rcases cs7 i h with h | h
    ·exact (hl.o i hi).2.1 h
    ·have:=hl.gs.lt hi; omega
  have h87:po H0 cs' y5 7 H' y8 (cl.map cD):=by
   refine ⟨h8.gs.keep (fun i hi=>?_) (by omega),fun i hi=>⟨(h8.o i hi).1,fun h=>?_,(h8.o i hi).2.2⟩⟩
   ·have:=h8.gs.lt hi
    rw [k7 i (h8.o i hi).1 (by omega) (h8.o i hi).2.1,k6 i this]
   ·rcases cs7 i h with h | h
    ·exact (h8.o i hi).2.1 h
    ·have:=h8.gs.lt hi; omega
  have hA7:AS t C0 ab mb H0 cs0 (C2++D) cs' H' y5 ns:=by
   refine ⟨by rw [← List.append_assoc]; exact a1,hA6.fr.trans a7,fun c hc=>?_,hA6.out.keep (fun i hi=>?_) a7.up,fun i hi=>⟨(hA.o5 i hi).1,fun h=>?_⟩⟩
   ·rcases List.mem_append.1 hc with h | h
    ·exact hA.ok c h
    ·exact a4 c h
   ·exact k7 i (hA.o5 i hi).1 (hA6.out.lt hi) (hA.o5 i hi).2
   ·rcases cs7 i h with h | h
    ·exact (hA.o5 i hi).2 h
    ·have:=hA.out.lt hi; omega
  have hxc7:¬ own cs' xb:=fun h=>by
   rcases cs7 xb h with h | h
   ·exact hxc h
   ·omega
  have hl7':∀ i,own lv i→i<H'.n:=fun i hi=>hl7.gs.lt hi
  have one7:AV.one r=true:=a5.one
  have cel7:=a5.cells
  have hxn7:xb≠H'.n:=by omega
  simp only [H_,gx7]
  refine ⟨by rw [gx6],?_⟩
  have hlenN:lsl.length<NB:=by omega
  refine oK (y:=r) (rows:=lsl.map jd) (by simp [hxn7,gx7]) hl7.gs (by rw [cel7.1]; rfl) cel7.2 (by rw [cel7.1]; simpa using one7) (by simp; omega) (by simp; omega) fun lv' H2 g2 f2=>?_
  rw [cel7.1] at g2
  have ownl:∀ i,own lv' i→own lv i∨(H'.n≤i∧i<H2.n):=f2.mine
  have k8:∀ i,i<H'.n→¬ own lv i→H2.get i=H'.get i:=fun i h1 h2=>f2.same i h1 h2
  have gx8:H2.get xb=some (.cells (ba p++[lv]) true):=by rw [k8 xb (by omega) hlx]; exact gx7
  have hst2:=g2.st (id:=xb) (off:=6) gx8 (by simp)
  have hset:(ba p++[lv]).set 6 lv'=ba p++[lv']:=by
   rw [List.set_append_right _ _ (by simp)]
   simp
  rw [hset] at hst2
  simp only [hst2,ae,ia]
  rw [df (by omega)]
  obtain ⟨H3,hH3⟩:∃ H3,H3=H2.set xb (some (.cells (ba p++[lv']) true)):=⟨_,rfl⟩
  rw [← hH3]
  have k9:∀ i,i≠xb→H3.get i=H2.get i:=fun i hi=>by rw [hH3]; simp [hi]
  have gx9:H3.get xb=some (.cells (ba p++[lv']) true):=by rw [hH3]; simp
  have n9:H3.n=H2.n:=by rw [hH3]; rfl
  clear hH3
  have grow2:=f2.grow
  have lvx:¬ own lv' xb:=fun h=>by
   rcases ownl xb h with h | h
   ·exact hlx h
   ·omega
  have rx:¬ own r xb:=fun h=>by have:=(a6 xb h).1; omega
  have rlv:∀ i,own lv' i→¬ own r i:=fun i hi h=>by
   rcases ownl i hi with h1 | h1
   ·have:=(a6 i h).1; have:=hl.gs.lt h1; omega
   ·have:=a5.lt h; omega
  have g9:Gs 1 H3 lv' (lsl.map jd++[[r]]):=g2.keep (fun i hi=>k9 i (fun e=>lvx (e ▸ hi))) (by omega)
  have gr9:Gs 1 H3 r (ns'.map nz):=a5.keep (fun i hi=>by
   rw [k9 i (fun e=>rx (e ▸ hi)),k8 i (a5.lt hi) (fun h=>by have:=(a6 i hi).1; have:=hl.gs.lt h; omega)]) (by omega)
  obtain ⟨H4,z1,z2,z3,z4⟩:=rM (j:=0) g9 gr9 (bi _ (fun _=>rfl) _) rfl rlv
  have hrow:([r]:List AV).set 0 (.imm 1 (ns'.map nz))=jd ns':=rfl
  rw [hrow] at z3
  have z3':Gs 1 H4 lv' ((lsl++[ns']).map jd):=by simpa using z3
  have same:∀ i,i<H'.n→i≠xb→¬ own lv i→¬ own r i→H4.get i=H'.get i:=fun i h1 h2 h3 h4=>by
   rw [z4 i (fun h=>by
    rcases ownl i h with h | h
    ·exact h3 h
    ·omega) h4,k9 i h2,k8 i h1 h3]
  have hA4:AS t C0 ab mb H0 cs0 (C2++D) cs' H4 y5 ns:=by
   refine hA7.loc hab (by omega) (fun i hi=>same i (by have:=hA7.fr.up; omega) (by omega) (fun h=>by have:=(hl.o i h).1; omega) (fun h=>by have:=(a6 i h).1; have:=hA.fr.up; omega)) (fun i hi=>same i (a1.gcs.lt hi) (fun e=>hxc7 (e ▸ hi)) (fun h=>(hl7.o i h).2.1 hi) (fun h=>(a6 i h).2 hi)) (fun i hi=>same i (hA7.out.lt hi) (fun e=>hx5 (e ▸ hi)) (fun h=>(hl.o i h).2.2 hi) (fun h=>by have:=(a6 i h).1; have:=hA.out.lt hi; omega))
  refine Kw z1 ?_
  refine ihm (k+1) H4 cs' (C2++D) y8 xb lv' (lsl++[ns']) (by omega) (by omega) hA4 (fun D2 hpre hD2=>?_) (h87.loc (by omega) fun i hi=>?_) ?_ hx0 (by omega) hxc7 hx5 hx8 ⟨z3',fun i hi=>?_⟩ lvx (fun i hi h=>?_) (by simp [hlk]) (fun j q' ns2 hq' hns2=>?_) (fun l hl=>?_) ?_
  ·refine hP D2 ((List.prefix_append C2 D).trans hpre) ?_
   rw [hD2,hdq,List.map_cons,List.sum_cons,List.length_append,a3]
   omega
  ·exact same i (by have:=h8.gs.lt hi; omega) (fun e=>hx8 (e ▸ hi)) (fun h=>hl8 i h hi) (fun h=>by have:=(a6 i h).1; have:=h8.gs.lt hi; omega)
  ·rw [z4 xb lvx rx]; exact gx9
  ·rcases ownl i hi with h | h
   ·exact hl7.o i h
   ·exact ⟨by omega,fun h'=>by have:=a1.gcs.lt h'; omega,fun h'=>by have:=hA7.out.lt h'; omega⟩
  ·rcases ownl i hi with h1 | h1
   ·exact hl8 i h1 h
   ·have:=h8.gs.lt h; omega
  ·rw [← List.append_assoc]
   by_cases hjk:j<lsl.length
   ·rw [List.getElem?_append_left hjk] at hns2
    exact (hrep j q' ns2 hq' hns2).mono
   ·rw [List.getElem?_append_right (by omega)] at hns2
    have h1:=(List.getElem?_eq_some_iff.1 hns2).1
    simp at h1
    have:j=k:=by omega
    subst this
    rw [hq] at hq'
    cases hq'
    simp [hlk] at hns2
    subst hns2
    exact a2
  ·rcases List.mem_append.1 hl with h | h
   ·exact hlen l h
   ·simp at h
    subst h
    have hsl:=(hp q hqm).2
    cases f with
    | zero=>exact hsl.elim
    | succ f =>
     have:=a2.1
     have:=hsl.1
     omega
  ·rw [← List.append_assoc,List.length_append,a3]
   omega
def tC (C:List (List Lk)) (f:Nat) (cl:List Lk):Prop:=∀ (k:Nat) (x:Lk),cl[k]?=some x→x.lists.length=x.part.c.pseudos.length∧∀ (j:Nat) (q:Ps) (ns:List Nat),x.part.c.pseudos[j]?=some q→x.lists[j]?=some ns→Rep C f q.list ns
def p7 (f:Nat) (p:Pt):Nat:=(p.c.pseudos.map fun q=>d_ f q.list).sum
def Ll (f:Nat) (s:Sl):Prop:=s.length≤NB∧∀ p ∈ s,pB p.c∧p.c.pseudos.length≤NB∧∀ q ∈ p.c.pseudos,(i64 q.a∧i64 q.b)∧h_ f q.list
theorem Iv {f:Nat} (ih:qI σ f) {t:AV} {C0:List (List Lk)} {ab mb:Nat} {H0:Hp} {cs0:AV} (hab:ab<H0.n) {K:AV→Hp→Prop} {y5:AV} {ns:List Nat} (hns:ns.length<NB) {s:Sl} (hs:Ll f s) {y14 y15:AV} {m0:Nat} (hm0:m0<NB) {R:Nat} {Q:List (List Lk)→Prop}
  (hK:∀ (H:Hp) (cs:AV) (C2:List (List Lk)) (y5' y8 y11 y21 y22 y23 y31 y32 y33:AV) (cl:List Lk),AS t C0 ab mb H0 cs0 (C2++[cl]) cs H y5' (ns++[(C0++C2).length])→Q C2→cl.map (·.part)=s→tC (C0++C2) f cl→(C0++C2).length+1+R≤NB →
   af.L0 σ K (.ptr ab 0) y5' y8 y11 y14 y15 (I ((m0+1:Nat):Int)) y21 y22 y23 y31 y32 y33 H) :
  ∀ (n2 j:Nat) (H:Hp) (cs:AV) (C2:List (List Lk)) (y8 y11 y31 y32 y33:AV) (cl:List Lk),s.length - j=n2→j≤s.length→AS t C0 ab mb H0 cs0 C2 cs H y5 ns→(∀ D,C2 <+: D→D.length=C2.length+((s.drop j).map (p7 f)).sum→Q D)→po H0 cs y5 7 H y8 (cl.map cD)→cl.map (·.part)=s.take j→tC (C0++C2) f cl→(∀ x ∈ cl,Fw x) →
   (C0++C2).length+(((s.drop j).map (p7 f)).sum+(1+R))≤NB →
   af.L1 σ K (.ptr ab 0) y5 y8 y11 y14 y15 (I (m0:Int)) (.imm 6 (s.map ba)) (I s.length) (I (j:Int)) y31 y32 y33 H:=by
 have hNB:NB=1048576:=rfl
 intro n2
 induction n2 with
 | zero =>
  intro j H cs C2 y8 y11 y31 y32 y33 cl hn hj hA hQ h8 hparts hrep hlk hcnt
  have:j=s.length:=by omega
  subst this
  rw [List.take_length] at hparts
  have hcl:cl.length=s.length:=by rw [← hparts,List.length_map]
  refine af.L1_step ?_
  have hcs1:ldA false 1 H (.ptr ab 1)=some cs:=by simp [hA.add.gab]
  have hlenC:aY cs=some (I ((C0++C2).length:Int)):=by rw [hA.add.gcs.len,List.length_map]
  simp only [c9,Int.lt_irrefl,decide_false,ae,aq,Bool.false_eq_true,if_false,mV,cM,Nat.zero_add,hcs1,hlenC]
  have habn:=hA.add.nab
  have up0:=hA.fr.up
  have cslt:∀ i,own cs i→i<H.n:=fun i hi=>hA.add.gcs.lt hi
  refine gh (y:=I ((C0++C2).length:Int)) hA.out rfl rfl rfl (by simp; omega) (by simp; omega) fun y5' H1 g1 f1=>?_
  have grow1:=f1.grow
  have k1:∀ i,i<H.n→¬ own y5 i→H1.get i=H.get i:=fun i h1 h2=>f1.same i h1 h2
  have h5ab:¬ own y5 ab:=fun h=>by have:=(hA.o5 ab h).1; omega
  have gab1:H1.get ab=some (.cells [t,cs,.mp mb] true):=by rw [k1 ab habn h5ab]; exact hA.add.gab
  have gcs1:Gs 1 H1 cs ((C0++C2).map fun c=>[fF c]):=hA.add.gcs.keep (fun i hi=>k1 i (cslt i hi) (fun h=>(hA.o5 i h).2 hi)) f1.grow
  have g81:Gs 7 H1 y8 (cl.map cD):=h8.gs.keep (fun i hi=>k1 i (h8.gs.lt hi) (fun h=>(h8.o i hi).2.2 h)) f1.grow
  have hcs2:ldA false 1 H1 (.ptr ab 1)=some cs:=by simp [gab1]
  simp only [mV,ae,cM,Nat.zero_add,hcs2]
  have cel8:=h8.gs.cells
  have own5:∀ i,own y5' i→own y5 i∨(H.n≤i∧i<H1.n):=f1.mine
  refine gh (y:=y8) gcs1 (by rw [cel8.1]; rfl) cel8.2 (by rw [cel8.1]; simpa using h8.gs.one) (by simp at hcnt ⊢; omega) (by simp at hcnt ⊢; omega) fun cs' H2 g2 f2=>?_
  rw [cel8.1] at g2
  have grow2:=f2.grow
  have csab:¬ own cs ab:=hA.add.csab
  have k2:∀ i,i<H1.n→¬ own cs i→H2.get i=H1.get i:=fun i h1 h2=>f2.same i h1 h2
  have gab2:H2.get ab=some (.cells [t,cs,.mp mb] true):=by rw [k2 ab (by omega) csab]; exact gab1
  have ownc:∀ i,own cs' i→own cs i∨(H1.n≤i∧i<H2.n):=f2.mine
  have cs'ab:¬ own cs' ab:=fun h=>by
   rcases ownc ab h with h | h
   ·exact csab h
   ·omega
  have hst:=g2.st (id:=ab) (off:=1) gab2 (by simp)
  simp only [mV,ae,cM,Nat.zero_add,hst,ia]
  rw [df (by omega)]
  obtain ⟨H3,hH3⟩:∃ H3,H3=H2.set ab (some (.cells ([t,cs,.mp mb].set 1 cs') true)):=⟨_,rfl⟩
  rw [← hH3]
  have k3:∀ i,i≠ab→H3.get i=H2.get i:=fun i hi=>by rw [hH3]; simp [hi]
  have gab3:H3.get ab=some (.cells [t,cs',.mp mb] true):=by rw [hH3]; simp
  have n3:H3.n=H2.n:=by rw [hH3]; rfl
  clear hH3
  have c8:∀ i,own cs' i→¬ own y8 i:=fun i hi h=>by
   rcases ownc i hi with h1 | h1
   ·exact (h8.o i h).2.1 h1
   ·have:=h8.gs.lt h; omega
  have g3:Gs 1 H3 cs' (((C0++C2).map fun c=>[fF c])++[[y8]]):=g2.keep (fun i hi=>k3 i (fun e=>cs'ab (e ▸ hi))) (by omega)
  have g83:Gs 7 H3 y8 (cl.map cD):=g81.keep (fun i hi=>by
   have h1:=(h8.o i hi)
   have:=h8.gs.lt hi
   rw [k3 i (by omega),k2 i (by omega) h1.2.1]) (by omega)
  obtain ⟨H4,z1,z2,z3,z4⟩:=rM (j:=0) g3 g83 (bi _ EX _) rfl c8
  have hrow:([y8]:List AV).set 0 (.imm 7 (cl.map cD))=[fF cl]:=rfl
  rw [hrow] at z3
  have z3':Gs 1 H4 cs' ((C0++(C2++[cl])).map fun c=>[fF c]):=by simpa using z3
  have y8ab:¬ own y8 ab:=fun h=>by have:=(h8.o ab h).1; omega
  have same:∀ i,i<H1.n→i≠ab→¬ own cs i→¬ own y8 i→H4.get i=H1.get i:=fun i h1 h2 h3 h4=>by
   rw [z4 i (fun h=>by
    rcases ownc i h with h | h
    ·exact h3 h
    ·omega) h4,k3 i h2,k2 i h1 h3]
  refine KF z1 ?_
  have o5':∀ i,own y5' i→H0.n≤i∧¬ own cs i∧¬ own y8 i:=fun i hi=>by
   rcases own5 i hi with h | h
   ·exact ⟨(hA.o5 i h).1,(hA.o5 i h).2,fun h'=>(h8.o i h').2.2 h⟩
   ·exact ⟨by omega,fun h'=>by have:=cslt i h'; omega,fun h'=>by have:=h8.gs.lt h'; omega⟩
  have g5:Gs 1 H4 y5' ((ns++[(C0++C2).length]).map nz):=by
   have:(I ((C0++C2).length:Int)).cells=nz (C0++C2).length:=rfl
   rw [this] at g1
   have h1:Gs 1 H1 y5' ((ns++[(C0++C2).length]).map nz):=by simpa using g1
   refine h1.keep (fun i hi=>same i (h1.lt hi) (fun e=>?_) (o5' i hi).2.1 (o5' i hi).2.2) (by omega)
   subst e
   have:=(o5' i hi).1
   omega
  refine hK H4 cs' C2 y5' y8 _ _ _ _ _ _ _ cl ⟨⟨?_,by omega,z3',cs'ab⟩,⟨by omega,fun i h1 h2 h3=>?_,fun i hi=>?_⟩,fun c hc=>?_,g5,fun i hi=>⟨(o5' i hi).1,fun h=>?_⟩⟩ (hQ C2 (List.prefix_refl _) (by simp)) hparts hrep (by simp at hcnt ⊢; omega)
  ·rw [z4 ab cs'ab y8ab]; exact gab3
  ·have hi5:¬ own y5 i:=fun h=>by have:=(hA.o5 i h).1; omega
   have hi8:¬ own y8 i:=fun h=>by have:=(h8.o i h).1; omega
   have hic:¬ own cs i:=fun h=>by
    rcases hA.fr.mine i h with h | h
    ·exact h3 h
    ·omega
   rw [same i (by omega) h2 hic hi8,k1 i (by omega) hi5]
   exact hA.fr.get i h1 h2 h3
  ·rcases ownc i hi with h | h
   ·exact hA.fr.mine i h
   ·exact .inr (by omega)
  ·rcases List.mem_append.1 hc with h | h
   ·exact hA.ok c h
   ·simp at h
    subst h
    exact ⟨by rw [hcl]; exact hs.1,hlk⟩
  ·rcases ownc i h with h | h
   ·exact (o5' i hi).2.1 h
   ·rcases own5 i hi with h' | h'
    ·have:=hA.out.lt h'; omega
    ·omega
 | succ n2 ih2 =>
  intro j H cs C2 y8 y11 y31 y32 y33 cl hn hj hA hQ h8 hparts hrep hlk hcnt
  have hlt:j<s.length:=by omega
  obtain ⟨p,hp⟩:=bQ hlt
  have hpm:=List.mem_of_getElem? hp
  obtain ⟨hc1,hc2,hc3⟩:=hs.2 p hpm
  have hlt':(j:Int)<s.length:=by omega
  have hdp:s.drop j=p::s.drop (j+1):=cn hp
  rw [hdp,List.map_cons,List.sum_cons] at hcnt
  have hcl:cl.length=j:=by
   have:=congrArg List.length hparts
   simp at this
   omega
  refine af.L1_step ?_
  have hst1:stA 6 (H.new (.cells [I 0,Sx ⟨#[]⟩,.lit (.slice none 0 0),.lit (.slice none 0 0),.lit (.slice none 0 0),.lit (.slice none 0 0)] true)) (.ptr H.n 0) (.agg (ba p))=some ((H.new (.cells [I 0,Sx ⟨#[]⟩,.lit (.slice none 0 0),.lit (.slice none 0 0),.lit (.slice none 0 0),.lit (.slice none 0 0)] true)).set H.n (some (.cells (ba p) true))):=by
   simp
   rw [Hk p (by simp)]
  obtain ⟨H1,hH1⟩:∃ H1,H1=(H.new (.cells [I 0,Sx ⟨#[]⟩,.lit (.slice none 0 0),.lit (.slice none 0 0),.lit (.slice none 0 0),.lit (.slice none 0 0)] true)).set H.n (some (.cells (ba p) true)):=⟨_,rfl⟩
  rw [← hH1] at hst1
  have k1:∀ i,i<H.n→H1.get i=H.get i:=fun i hi=>by
   have:i≠H.n:=by omega
   rw [hH1]; simp [this]
  have g1:H1.get H.n=some (.cells (ba p) true):=by rw [hH1]; simp
  have n1:H1.n=H.n+1:=by rw [hH1]; rfl
  clear hH1
  have hb:dv [I 0,Sx ⟨#[]⟩,.lit (.slice none 0 0),.lit (.slice none 0 0),.lit (.slice none 0 0),.lit (.slice none 0 0),.lit (.slice none 0 0)] [(0,6,.agg (ba p))]=some (ba p++[.lit (.slice none 0 0)]):=by
   simp only [dv,uI,lS,jD,decide_true,uz,Bool.not_false,Bool.and_true,s7]
   simp [aP]
  have hst2:stA 7 (H1.new (.cells [I 0,Sx ⟨#[]⟩,.lit (.slice none 0 0),.lit (.slice none 0 0),.lit (.slice none 0 0),.lit (.slice none 0 0),.lit (.slice none 0 0)] true)) (.ptr H1.n 0) (.agg (ba p++[.lit (.slice none 0 0)]))=some ((H1.new (.cells [I 0,Sx ⟨#[]⟩,.lit (.slice none 0 0),.lit (.slice none 0 0),.lit (.slice none 0 0),.lit (.slice none 0 0),.lit (.slice none 0 0)] true)).set H1.n (some (.cells (ba p++[.lit (.slice none 0 0)]) true))):=by
   simp
   rw [aE (by simp)]
  obtain ⟨H2,hH2⟩:∃ H2,H2=(H1.new (.cells [I 0,Sx ⟨#[]⟩,.lit (.slice none 0 0),.lit (.slice none 0 0),.lit (.slice none 0 0),.lit (.slice none 0 0),.lit (.slice none 0 0)] true)).set H1.n (some (.cells (ba p++[.lit (.slice none 0 0)]) true)):=⟨_,rfl⟩
  rw [← hH2] at hst2
  have k2:∀ i,i<H1.n→H2.get i=H1.get i:=fun i hi=>by
   have:i≠H1.n:=by omega
   rw [hH2]; simp [this]
  have g2:H2.get H1.n=some (.cells (ba p++[.lit (.slice none 0 0)]) true):=by rw [hH2]; simp
  have n2':H2.n=H1.n+1:=by rw [hH2]; rfl
  clear hH2
  have g1':H2.get H.n=some (.cells (ba p) true):=by rw [k2 H.n (by omega)]; exact g1
  have hps:ldL false 1 ((ba p).drop 5)=some (.imm 4 (p.c.pseudos.map bu)):=by rw [dO,cy]; rfl
  simp only [c9,hlt',decide_true,ae,aq,if_true,cj hp,fT,ve,bG,hst1,aW,g1,bm,List.drop_zero,hb,hst2,cM,Nat.zero_add,g1',hps,kB,List.length_map]
  have up0:=hA.fr.up
  have kk:∀ i,i<H.n→H2.get i=H.get i:=fun i hi=>by rw [k2 i (by omega),k1 i hi]
  have hA2:AS t C0 ab mb H0 cs0 C2 cs H2 y5 ns:=hA.loc hab (by omega) (fun i hi=>kk i (by omega)) (fun i hi=>kk i (hA.add.gcs.lt hi)) (fun i hi=>kk i (hA.out.lt hi))
  refine J6 ih hab hc2 hc3 (j:=j) (R:=((s.drop (j+1)).map (p7 f)).sum+(1+R)) (P:=fun D=>C2 <+: D∧D.length=C2.length+p7 f p) (by have:=hs.1; omega) (Nat.le_of_eq hcl) (fun H' cs' C3 y8' y11' lsl y31' y32' y33' b1 b2 b3 b4 b5 b6 b7=>?_) p.c.pseudos.length 0 H2 cs C2 y8 H1.n (.lit (.slice none 0 0)) [] (by omega) (Nat.zero_le _) hA2 (fun D h1 h2=>⟨h1,by rw [h2]; rfl⟩) (h8.loc (by omega) fun i hi=>kk i (h8.gs.lt hi)) g2 (by omega) (by omega) (fun h=>by have:=hA.add.gcs.lt h; omega) (fun h=>by have:=hA.out.lt h; omega) (fun h=>by have:=h8.gs.lt h; omega) ⟨.nil,fun i h=>h.elim⟩ (fun h=>h) (fun i h=>h.elim) rfl (fun j q ns' _ h=>by simp at h) (fun l h=>by cases h) (by have hcp:p7 f p=(p.c.pseudos.map (fun q=>d_ f q.list)).sum:=rfl; rw [hcp] at hcnt; simp only [List.drop_zero]; omega)
  obtain ⟨D,hD⟩:=b2.1
  refine ih2 (j+1) H' cs' C3 y8' y11' y31' y32' y33' (cl++[Lk.mk p lsl]) (by omega) (by omega) b1 (fun D2 h1 h2=>hQ D2 (b2.1.trans h1) ?_) b3 ?_ (fun k x hx=>?_) (fun x hx=>?_) b7
  ·rw [h2,b2.2,hdp,List.map_cons,List.sum_cons]
   omega
  ·rw [List.map_append,hparts,List.take_succ_eq_append_getElem hlt]
   rw [List.getElem?_eq_getElem hlt] at hp
   rw [Option.some.inj hp]
   rfl
  ·by_cases hk:k<cl.length
   ·rw [List.getElem?_append_left hk] at hx
    refine ⟨(hrep k x hx).1,fun j q ns' h1 h2=>?_⟩
    have:=((hrep k x hx).2 j q ns' h1 h2).mono (D:=D)
    rwa [List.append_assoc,hD] at this
   ·rw [List.getElem?_append_right (by omega)] at hx
    have h1:=(List.getElem?_eq_some_iff.1 hx).1
    simp at h1
    have:k - cl.length=0:=by omega
    rw [this] at hx
    simp at hx
    subst hx
    exact ⟨b4,b5⟩
  ·rcases List.mem_append.1 hx with h | h
   ·exact hlk x h
   ·simp at h
    subst h
    refine ⟨hc1,fun q hq=>(hc3 q hq).1,fun l hl=>?_⟩
    have:=b6 l hl
    rw [eL]
    omega
theorem wY {f:Nat} (ih:qI σ f):qI σ (f+1):=by
 have hNB:NB=1048576:=rfl
 intro l hl t C ab mb cs H K hA hcnt hK
 have L0:∀ (n m:Nat) (H1:Hp) (cs1:AV) (C2:List (List Lk)) (y5 y8 y11 y21 y22 y23 y31 y32 y33:AV) (ns:List Nat),l.length - m=n→m≤l.length→AS t C ab mb H cs C2 cs1 H1 y5 ns→Rep (C++C2) (f+1) (l.take m) ns→C2.length=d_ (f+1) (l.take m)→(C++C2).length+d_ (f+1) (l.drop m)≤NB →
   af.L0 σ K (.ptr ab 0) y5 y8 y11 (sls l) (I l.length) (I (m:Int)) y21 y22 y23 y31 y32 y33 H1:=by
  intro n
  induction n with
  | zero =>
   intro m H1 cs1 C2 y5 y8 y11 y21 y22 y23 y31 y32 y33 ns hn hm h1 hr hc hb
   have:m=l.length:=by omega
   subst this
   rw [List.take_length] at hr hc
   refine af.L0_step ?_
   simp only [c9,Int.lt_irrefl,decide_false,ae,aq,Bool.false_eq_true,if_false]
   exact hK H1 cs1 C2 y5 ns h1.add hr hc h1.ok h1.out h1.o5 h1.fr
  | succ n ihn =>
   intro m H1 cs1 C2 y5 y8 y11 y21 y22 y23 y31 y32 y33 ns hn hm h1 hr hc hb
   have hlt:m<l.length:=by omega
   obtain ⟨s,hs⟩:=bQ hlt
   have hsm:=List.mem_of_getElem? hs
   have hsk:Ll f s:=hl.2 s hsm
   have hlt':(m:Int)<l.length:=by omega
   have hds:l.drop m=s::l.drop (m+1):=cn hs
   have hlb:=hl.1
   have hnl:ns.length=m:=by rw [hr.1,List.length_take]; omega
   have hcons:d_ (f+1) (s::l.drop (m+1))=1+(s.map (p7 f)).sum+d_ (f+1) (l.drop (m+1)):=by
    simp [d_]
    rfl
   rw [hds,hcons] at hb
   have htk:d_ (f+1) (l.take (m+1))=d_ (f+1) (l.take m)+(1+(s.map (p7 f)).sum):=by
    have:l.take (m+1)=l.take m++[s]:=by rw [List.take_add_one,hs]; rfl
    rw [this]
    simp [d_]
    rfl
   refine af.L0_step ?_
   have hix:aV 1 (sls l) (I (m:Int))=some (.ip (aI s)):=cj hs
   have hst:stA 1 (H1.new (.cells [.lit (.slice none 0 0)] true)) (.ptr H1.n 0) (.agg (aI s))=some ((H1.new (.cells [.lit (.slice none 0 0)] true)).set H1.n (some (.cells (aI s) true))):=by
    simp [aI]
   simp only [c9,hlt',decide_true,ae,aq,if_true,hix,fT,ni,bG,hst,cM,Nat.zero_add,aW,ay,bm,List.drop_zero,rk,kB,List.length_map]
   have up0:=h1.fr.up
   have hab:=hA.nab
   have kk:∀ i,i<H1.n→((H1.new (.cells [.lit (.slice none 0 0)] true)).set H1.n (some (.cells (aI s) true))).get i=H1.get i:=fun i hi=>by
    have:i≠H1.n:=by omega
    simp [this]
   have h1':=h1.loc (H':=(H1.new (.cells [.lit (.slice none 0 0)] true)).set H1.n (some (.cells (aI s) true))) hab (by simp) (fun i hi=>kk i (by omega)) (fun i hi=>kk i (h1.add.gcs.lt hi)) (fun i hi=>kk i (h1.out.lt hi))
   refine Iv ih hab (by omega) hsk (m0:=m) (by omega) (R:=d_ (f+1) (l.drop (m+1))) (Q:=fun D=>C2 <+: D∧D.length=C2.length+(s.map (p7 f)).sum) (fun H' cs' C3 y5' y8' y11' y21' y22' y23' y31' y32' y33' cl b1 b2 b3 b4 b5=>?_) s.length 0 _ cs1 C2 (.lit (.slice none 0 0)) _ _ _ _ [] (by omega) (Nat.zero_le _) h1' (fun D g1 g2=>⟨g1,by simpa using g2⟩) ⟨.nil,fun i h=>h.elim⟩ rfl (fun k x h=>by simp at h) (fun x h=>by cases h) (by simp at hb ⊢; omega)
   obtain ⟨D,hD⟩:=b2.1
   refine ihn (m+1) H' cs' (C3++[cl]) y5' y8' y11' y21' y22' y23' y31' y32' y33' _ (by omega) (by omega) b1 ⟨by simp [hnl]; omega,fun i s' n' hs' hn'=>?_⟩ ?_ (by simp at b5 ⊢; omega)
   ·by_cases hi:i<m
    ·rw [List.getElem?_take,if_pos (by omega)] at hs'
     rw [List.getElem?_append_left (by omega)] at hn'
     have hr2:Rep (C++(C3++[cl])) (f+1) (l.take m) ns:=by
      have:=hr.mono (D:=D++[cl])
      rwa [show C++C2++(D++[cl])=C++(C3++[cl]) by rw [← hD]; simp] at this
     exact hr2.2 i s' n' (by rw [List.getElem?_take,if_pos hi]; exact hs') hn'
    ·rw [List.getElem?_append_right (by omega)] at hn'
     have h2:=(List.getElem?_eq_some_iff.1 hn').1
     simp at h2
     have him:i=m:=by omega
     subst him
     rw [List.getElem?_take,if_pos (by omega),hs] at hs'
     cases hs'
     simp [hnl] at hn'
     subst hn'
     refine ⟨cl,by simp,b3,fun k x hx=>⟨(b4 k x hx).1,fun j q ns' g1 g2=>?_⟩⟩
     have:=((b4 k x hx).2 j q ns' g1 g2).mono (D:=[cl])
     rwa [List.append_assoc] at this
   ·rw [htk,List.length_append,b2.2,hc]
    simp
    omega
 refine af.run ?_
 simp
 refine L0 l.length 0 H cs [] _ _ _ _ _ _ _ _ _ [] (by omega) (Nat.zero_le _) ⟨by simpa using hA,.refl _ _ _,fun c h=>(by cases h),.nil,fun i h=>h.elim⟩ ⟨rfl,fun i s n h=>by simp at h⟩ (by simp [d_]) (by simpa using hcnt)
theorem zL:∀ (f:Nat),qI σ f
 | 0=>fun l h=>h.elim
 | f+1=>wY (zL f)
end
end Go.Proofs.YthdcghnjndhecaaGreat.Ev
namespace Go.Proofs.YthdcghnjndhecaaGreat.Ev
set_option linter.unusedVariables false
set_option linter.unusedSimpArgs false
variable {σ:Sig}
theorem E8 {sz:Nat} {H:Hp} {x:AV} {rows:List (List AV)} (hg:Gs sz H x rows) (hn:cS rows=true) :
  ∃ Hd H2:Hp,Hd.n=H.n∧H2.n=H.n∧(∀ id k,Hd.get id=some k→H.get id=some k∧H2.get id=none)∧(∀ id k2,H2.get id=some k2→∃ k1,H.get id=some k1∧FzB Hd k1 k2)∧Fz Hd x (.imm sz rows)∧∀ j,¬ own x j→H2.get j=H.get j:=by
 cases hg with
 | nil =>
  let Hd:Hp:=⟨H.n,Hp.empty.t⟩
  have hd0:∀ id,Hd.get id=none:=fun id=>by simp [Hd,Hp.empty,Hp.get,Tr.get]
  exact ⟨Hd,H,rfl,rfl,fun id k h=>(by rw [hd0] at h; cases h),fun id k2 h=>⟨k2,h,.refl _ _⟩,.nil,fun j _=>rfl⟩
 | sl hlt hg hsz =>
  rename_i id exx
  let Hd:Hp:=(⟨H.n,Hp.empty.t⟩:Hp).set id (some (.cells rows.flatten exx))
  have hd0:∀ j,Hd.get j=if j=id then some (.cells rows.flatten exx) else none:=fun j=>by
   show ((⟨H.n,Hp.empty.t⟩:Hp).set id _).get j=_
   rw [ay]
   split
   ·rfl
   ·simp [Hp.empty,Hp.get,Tr.get]
  have hf:Fz Hd (.sl id 0 sz rows.length none) (.imm sz rows):=.rows (cs:=rows.flatten) (ex:=exx) (by rw [hd0,if_pos rfl]) hsz (by rw [List.drop_zero]; exact List.take_of_length_le (by rw [bW hsz]; exact Nat.le_refl _)) hn
  refine ⟨Hd,H.set id none,rfl,rfl,fun j k h=>?_,fun j k2 h=>?_,hf,fun j ho=>?_⟩
  ·rw [hd0] at h
   split at h
   ·rename_i e; subst e; cases h
    exact ⟨hg,by simp⟩
   ·cases h
  ·rw [ay] at h
   split at h
   ·cases h
   ·exact ⟨k2,h,.refl _ _⟩
  ·have:j≠id:=fun e=>ho (by rw [e]; rfl)
   simp [this]
theorem JJ {f:Nat} {l:List Sl} (hl:h_ f l) {t:AV} {C:List (List Lk)} {ab mb:Nat} {cs:AV} {H:Hp} {K:AV→Hp→Prop} (hA:pP t C ab mb cs H) (hc:C.length+d_ f l≤NB)
  (hK:∀ (H':Hp) (cs':AV) (C2:List (List Lk)) (ns:List Nat),pP t (C++C2) ab mb cs' H'→Rep (C++C2) f l ns→C2.length=d_ f l→(∀ c ∈ C2,EL c)→AFr H cs ab H' cs'→K (jm ns) H'):az Tryz.prog σ ct [.ptr ab 0,sls l] H K:=by
 obtain ⟨r,H1,hg,cs',C2,ns,h1,h2,h3,h4,h5,h6,h7⟩:=zL (σ:=σ) f l hl t C ab mb cs H (fun r H'=>∃ cs' C2 ns,pP t (C++C2) ab mb cs' H'∧Rep (C++C2) f l ns∧C2.length=d_ f l∧(∀ c ∈ C2,EL c)∧Gs 1 H' r (ns.map nz)∧(∀ j,own r j→H.n≤j∧¬ own cs' j)∧AFr H cs ab H' cs') hA hc fun H' cs' C2 r ns a b c d e f g=>⟨cs',C2,ns,a,b,c,d,e,f,g⟩
 obtain ⟨Hd,H2,a1,a2,a3,a4,a5,a6⟩:=E8 h5 (bi _ (fun _=>rfl) ns)
 have hab:=hA.nab
 refine ap (hg.frzH a2 a1 a3 a4 (.inr a5)) (hK H2 cs' C2 ns (h1.loc (by omega) (a6 _ fun h=>?_) fun j hj=>a6 _ fun h=>(h6 j h).2 hj) h2 h3 h4 (h7.loc (by omega) fun j hj=>a6 _ fun h=>?_))
 ·have:=(h6 _ h).1; omega
 ·have:=(h6 _ h).1; omega
theorem AJ {C D:List (List Lk)} {n:Nat} (h:n<C.length):j7 (C++D) n=j7 C n:=by
 unfold j7
 rw [List.getD_eq_getElem?_getD,List.getD_eq_getElem?_getD,List.getElem?_append_left h]
theorem E4 {L:List Nd} {C D:List (List Lk)} {n:Nat} (h:n<C.length) (i e:Nat) (a:Bool):Tru L (C++D) n i e a=Tru L C n i e a:=by
 unfold Tru
 rw [AJ h]
theorem jf.app {L:List Nd} {C D:List (List Lk)} {es:List (AV × AV)} (h:jf C.length (Tru L C) es):jf (C++D).length (Tru L (C++D)) es:=fun p hp=>by
 obtain ⟨n,i,e,a,h1,h2,h3⟩:=h p hp
 exact ⟨n,i,e,a,by rw [List.length_append]; omega,by rw [E4 h1]; exact h2,h3⟩
theorem uM (f:Nat) (s:Sl) (l:List Sl):d_ f (s::l)=d_ f [s]+d_ f l:=by
 cases f with
 | zero=>rfl
 | succ f=>simp [d_]
theorem jQ.one {f:Nat} {l:List Sl} (h:jQ f l) {s:Sl} (hs:s ∈ l):jQ f [s]:=by
 cases f with
 | zero=>exact h
 | succ f=>exact fun s' hs'=>by rw [List.mem_singleton.1 hs']; exact h s hs
theorem h_.one {f:Nat} {l:List Sl} (h:h_ f l) {s:Sl} (hs:s ∈ l):h_ f [s]:=by
 cases f with
 | zero=>exact h
 | succ f=>exact ⟨(by show 1≤NB; decide),fun s' hs'=>by rw [List.mem_singleton.1 hs']; exact h.2 s hs⟩
theorem JH {l:List Sl} {m:Nat} {s:Sl} (h:l[m]?=some s):D5 1 (sls l) (some (I (m:Int))) (some (I ((m+1:Nat):Int))) none=some (sls [s]):=by
 have hlt:=(List.getElem?_eq_some_iff.1 h).1
 have e1:((m:Int)+1)≤l.length:=by omega
 have e2:(0:Int)≤(m:Int)+1:=by omega
 have e3:((m:Int)+1).toNat=m+1:=by omega
 have e4:(List.drop m (l.map aI)).take 1=[aI s]:=by
  rw [← List.map_drop,cn h]; rfl
 simp [D5,ml,eK,CC,sls,bU,dS,jD,e1,e2,e3,e4,show ((m:Int)≤(m:Int)+1) from by omega]
def j5 (L:List Nd) (f:Nat) (l:List Sl) (e:Nat):Bool:=l.any fun s=>iL f [s] 8&&AA L [s] e
structure McT (σ:Sig) (L:List Nd) (d:List Nat):Prop where
 hC:jE σ
 hB:ee L L.length d
 hN:L.length≤4096
 sm:∀ e,e<L.length→SmN (bL (cw L e))
structure th (f:Nat) (l:List Sl):Prop where
 wf:kz gW l
 ok:h_ f l
 nest:jQ f l
 hf:f≤12
 cnt:d_ f l≤NB
section
attribute [local irreducible] ce.L0
theorem Ib {L:List Nd} {d:List Nat} (M:McT σ L d) {f:Nat} {l:List Sl} (S:th f l) (e:Int) (H:Hp) :
  ar Tryz.prog σ gQ [bq L d,I e,sls l] H (Bo (decide (0≤e)&&decide (e<L.length)&&j5 L f l e.toNat)) H:=by
 have hNB:NB=1048576:=rfl
 refine bI (fun K hK=>ce.run (ap (Lh L d e _) ?_)) (by simp [aC,bf,bK,hU]) rfl H
 simp only [fW,ae,aq]
 cases hin:(decide (0≤e)&&decide (e<L.length)) with
 | false=>rw [hin] at hK; simpa using hK _
 | true =>
 rw [hin] at hK
 simp only [Bool.true_and] at hK
 simp only [Bool.and_eq_true,decide_eq_true_eq] at hin
 obtain ⟨en,rfl⟩:∃ en:Nat,e=(en:Int):=⟨e.toNat,by omega⟩
 have he:en<L.length:=by omega
 rw [Int.toNat_natCast] at hK
 simp only [Bool.not_true,Bool.false_eq_true,if_false]
 have hlen:aY (sls l)=some (I (l.length:Int)):=by unfold sls; simp
 have hlw:l.length≤NB:=by
  have:=S.ok
  revert this
  cases f with
  | zero=>exact fun h=>h.elim
  | succ f=>exact fun h=>h.1
 have L0:∀ (k m:Nat) (H1:Hp) (C:List (List Lk)) (ab mb:Nat) (cs:AV),l.length - m=k→m≤l.length→eU (bq L d) C (Tru L C) ab mb cs H1→¬ own cs ab→Mc σ L d C→C.length+d_ f (l.drop m)≤NB→(∀ H,K (Bo (j5 L f (l.drop m) en)) H) →
   ce.L0 σ K (I (en:Int)) (sls l) (.ptr ab 0) (I l.length) (I (m:Int)) H1:=by
  intro k
  induction k with
  | zero =>
   intro m H1 C ab mb cs hk hm hA hcs hM hc hK
   have:m=l.length:=by omega
   subst this
   refine ce.L0_step ?_
   simp
   simpa [j5] using hK H1
  | succ k ih =>
   intro m H1 C ab mb cs hk hm hA hcs hM hc hK
   have hlt:m<l.length:=by omega
   obtain ⟨s,hs⟩:=bQ hlt
   have hsm:=List.mem_of_getElem? hs
   have hlt':(m:Int)<l.length:=by omega
   rw [cn hs] at hK hc
   rw [uM] at hc
   have hwf:kz gW [s]:=⟨(by show 1≤gW; decide),fun s' h=>by rw [List.mem_singleton.1 h]; exact S.wf.2 s hsm⟩
   have hn1:=S.nest.one hsm
   have hcons:j5 L f (s::l.drop (m+1)) en=((iL f [s] 8&&AA L [s] en)||j5 L f (l.drop (m+1)) en):=by simp [j5]
   rw [hcons] at hK
   refine ce.L0_step ?_
   simp only [c9,hlt',decide_true,ae,aq,if_true,ia,df (show m<9000000000000000000 by omega),JH hs]
   refine ap (zX f [s] 8 _ hwf hn1 (by omega)) ?_
   simp only [aq]
   cases hmay:iL f [s] 8 with
   | false =>
    rw [hmay] at hK
    simp only [Bool.false_and,Bool.false_or] at hK
    simp only [Bool.false_eq_true,if_false]
    exact ih (m+1) H1 C ab mb cs (by omega) (by omega) hA hcs hM (by omega) hK
   | true =>
    rw [hmay] at hK
    simp only [Bool.true_and] at hK
    simp only [if_true]
    have nmb:=hA.nmb
    have nab:=hA.nab
    refine JJ (S.ok.one hsm) ⟨hA.gab,hA.nab,hA.gcs,hcs⟩ (by omega) fun H' cs' C2 ns b1 b2 b3 b4 b5=>?_
    have up:=b5.up
    have hA':eU (bq L d) (C++C2) (Tru L (C++C2)) ab mb cs' H':=by
     obtain ⟨es,g1,g2⟩:=hA.memo
     refine ⟨b1.gab,b1.nab,by omega,hA.ne,b1.gcs,fun h=>?_,es,by rw [b5.get mb nmb hA.ne.symm hA.csm]; exact g1,g2.app⟩
     rcases b5.mine mb h with h | h
     ·exact hA.csm h
     ·omega
    have hM':Mc σ L d (C++C2):=by
     have hre:NB≤reachBytes:=by rw [eL]; decide
     refine ⟨M.hC,M.hB,M.hN,M.sm,?_,fun c hc'=>?_,fun c hc'=>?_⟩
     ·rw [List.length_append,b3]; omega
     ·rcases List.mem_append.1 hc' with h | h
      ·exact hM.ll c h
      ·exact Nat.le_trans (b4 c h).len hre
     ·rcases List.mem_append.1 hc' with h | h
      ·exact hM.lk c h
      ·exact (b4 c h).lk
    have hns:ns.length≤reachBytes:=by
     have:ns.length=1:=by
      have:=b2
      revert this
      cases f with
      | zero=>exact fun h=>h.elim
      | succ f=>exact fun h=>h.1
     rw [this]; decide
    refine zV hM' f S.hf [s] ns b2 hn1 S.hf hns en he ab mb cs' H' _ hA' fun H2 h2 kp2=>?_
    simp only [aq]
    cases haa:AA L [s] en with
    | true =>
     rw [haa] at hK
     simpa using hK H2
    | false =>
     rw [haa] at hK
     simp only [Bool.false_or] at hK
     simp only [Bool.false_eq_true,if_false]
     exact ih (m+1) H2 (C++C2) ab mb cs' (by omega) (by omega) h2 b1.csab hM' (by rw [List.length_append,b3]; omega) hK
 refine iY.run ?_
 have hb:dv [.lit (.pointer none),.lit (.slice none 0 0),.lit (.map none)] [(0,1,bq L d),(2,1,.mp Hp.empty.n)]=some [bq L d,.lit (.slice none 0 0),.mp Hp.empty.n]:=rfl
 simp only [hb,ae,fk,hlen]
 refine L0 l.length 0 _ [] _ Hp.empty.n (.lit (.slice none 0 0)) (by omega) (Nat.zero_le _) ⟨?_,?_,?_,?_,.nil,fun h=>h.elim,[],?_,fun p hp=>by cases hp⟩ (fun h=>h.elim) ⟨M.hC,M.hB,M.hN,M.sm,Nat.zero_le _,fun c hc=>(by cases hc),fun c hc=>(by cases hc)⟩ (by simpa using S.cnt) (by simpa using hK)
 ·simp
 ·simp
 ·simp only [Hp.n_new]; omega
 ·simp
 ·simp
end
end Go.Proofs.YthdcghnjndhecaaGreat.Ev
namespace Go.Proofs.YthdcghnjndhecaaGreat.Ev
set_option linter.unusedVariables false
set_option linter.unusedSimpArgs false
variable {σ:Sig}
theorem IV {H:Hp} {id:Nat} {s:Sl} {ex:Bool} {cap:Option Nat} (hg:H.get id=some (.cells (aI s) ex)):Fz H (.sl id 0 1 1 cap) (sls [s]):=by
 have h1:(aI s).length=1:=rfl
 have:Fz H (.sl id 0 1 [aI s].length cap) (.imm 1 [aI s]):=.rows hg (by simp [h1]) (by simp; exact List.take_of_length_le (by rw [h1]; exact Nat.le_refl _)) (by simp [cS,jC])
 exact this
def JQ (L:List Nd) (f:Nat) (s:Sl) (e:Int):Bool:=decide (0≤e)&&decide (e<L.length)&&j5 L f [s] e.toNat
theorem IA {L:List Nd} {d:List Nat} (M:McT σ L d) {f:Nat} {s:Sl} (S:th f [s]) (e:Int) (H:Hp):ar Tryz.prog σ dZ [bq L d,I e,.agg (aI s)] H (Bo (JQ L f s e)) H:=by
 refine bI (fun K hK=>gp.run ?_) (by simp [aC,bf,bK,jC]) rfl H
 have hb:∀ H:Hp,bC [.slice none 0 0] 1 1 H [(0,1,.agg (aI s))]=some (.sl H.n 0 1 1 (some 1),H.new (.cells (aI s) true)):=fun H=>by
  unfold bC aI; rfl
 have hl:∀ H:Hp,ldA true 1 (H.new (.cells (aI s) true)) (.ptr H.n 0)=some (.agg (aI s)):=fun H=>by
  simp only [aW,bt,if_true,bm,List.drop_zero,ni]
 simp only [fk,hl,hb,ae]
 refine ap ((Ib M S e Hp.empty).frzA (.cons (.refl (bK L d)) (.cons (.refl rfl) (.cons (IV (ex:=true) (by simp)) .nil))) rfl) ?_
 exact hK _
end Go.Proofs.YthdcghnjndhecaaGreat.Ev
namespace Go.Proofs.YthdcghnjndhecaaGreat.Ev
set_option linter.unusedVariables false
set_option linter.unusedSimpArgs false
variable {σ:Sig}
section
end
end Go.Proofs.YthdcghnjndhecaaGreat.Ev
namespace Go.Proofs.YthdcghnjndhecaaGreat.Ev
set_option linter.unusedVariables false
set_option linter.unusedSimpArgs false
variable {σ:Sig}
end Go.Proofs.YthdcghnjndhecaaGreat.Ev
namespace Go.Proofs.YthdcghnjndhecaaGreat.Ev
set_option linter.unusedVariables false
set_option linter.unusedSimpArgs false
variable {σ:Sig}
end Go.Proofs.YthdcghnjndhecaaGreat.Ev
namespace Go.Proofs.YthdcghnjndhecaaGreat.Ev
set_option linter.unusedVariables false
set_option linter.unusedSimpArgs false
variable {σ:Sig}
end Go.Proofs.YthdcghnjndhecaaGreat.Ev
namespace Go.Proofs.YthdcghnjndhecaaGreat.Ev
set_option linter.unusedVariables false
set_option linter.unusedSimpArgs false
variable {σ:Sig}
end Go.Proofs.YthdcghnjndhecaaGreat.Ev
namespace Go.Proofs.YthdcghnjndhecaaGreat.Ev
set_option linter.unusedVariables false
set_option linter.unusedSimpArgs false
variable {σ:Sig}
end Go.Proofs.YthdcghnjndhecaaGreat.Ev
namespace Go.Proofs.YthdcghnjndhecaaGreat.Ev
set_option linter.unusedVariables false
set_option linter.unusedSimpArgs false
variable {σ:Sig}
end Go.Proofs.YthdcghnjndhecaaGreat.Ev
namespace Go.Proofs.YthdcghnjndhecaaGreat.Ev
set_option linter.unusedVariables false
set_option linter.unusedSimpArgs false
variable {σ:Sig}
section
variable {L:List Nd} {d:List Nat} {e:Nat} {c:Cp} {n:Nd} {dp:Nat} {b6 b9:Nat} {K:AV→Hp→Prop}
structure Lx (c:Cp):Prop where
 ids:c.ids.length≤reachBytes
 classes:c.classes.length≤reachBytes
 attrs:c.attrs.length≤reachBytes
 ps:c.pseudos.length≤reachBytes
 texts:∀ a ∈ c.attrs,a.text.data.size<4294967281
end
end Go.Proofs.YthdcghnjndhecaaGreat.Ev
namespace Go.Proofs.YthdcghnjndhecaaGreat.Ev
set_option linter.unusedVariables false
set_option linter.unusedSimpArgs false
variable {σ:Sig}
section
end
structure Kn (L:List Nd) (s:Sl) (kb M:Nat) (H:Hp):Prop where
 lt:kb<H.n
 get:∃ ks,H.get kb=some (.cells ks true)∧ks.length=M∧∀ e k,e<L.length→k<s.length→∃ v:Int,ks[e*s.length+k]?=some (I v)∧(v=0∨(v=1∧c7 (AA L) L s k e=true)∨(v=2∧c7 (AA L) L s k e=false))
theorem Kn.keep {L:List Nd} {s:Sl} {kb M:Nat} {H H':Hp} (h:Kn L s kb M H) (hn:H.n≤H'.n) (hg:H'.get kb=H.get kb):Kn L s kb M H':=by
 obtain ⟨ks,h1,h2,h3⟩:=h.get
 exact ⟨Nat.lt_of_lt_of_le h.lt hn,ks,by rw [hg]; exact h1,h2,h3⟩
theorem Kn.new {L:List Nd} {s:Sl} {kb M:Nat} {H:Hp} (h:Kn L s kb M H) (b:Blk):Kn L s kb M (H.new b):=by
 refine h.keep (by simp) ?_
 have:kb≠H.n:=by have:=h.lt; omega
 simp [this]
theorem Fd {n a b x y:Nat} (hx:x<n) (hy:y<n) (h:a*n+x=b*n+y):a=b∧x=y:=by
 have h1:(a*n+x) / n=(b*n+y) / n:=by rw [h]
 have hn:0<n:=by omega
 rw [Nat.mul_comm a,Nat.mul_comm b,Nat.mul_add_div hn,Nat.mul_add_div hn,Nat.div_eq_of_lt hx,Nat.div_eq_of_lt hy] at h1
 simp only [Nat.add_zero] at h1
 subst h1
 exact ⟨rfl,by omega⟩
theorem Il:∀ (cs:List AV) (i:Nat) (x:AV),i<cs.length→aP cs i [x]=cs.set i x:=by
 intro cs
 induction cs with
 | nil=>intro i x hi; simp at hi
 | cons c r ih =>
  intro i x hi
  cases i with
  | zero=>simp
  | succ i=>rw [ud,List.set_cons_succ,ih i x (by simpa using hi)]
theorem Kn.put {L:List Nd} {s:Sl} {kb M:Nat} {H:Hp} (h:Kn L s kb M H) {e k:Nat} (he:e<L.length) (hk:k<s.length) {v:Int} (hv:v=0∨(v=1∧c7 (AA L) L s k e=true)∨(v=2∧c7 (AA L) L s k e=false)) :
  ∃ H',stA 1 H (.ptr kb (e*s.length+k)) (I v)=some H'∧Kn L s kb M H'∧Kp kb H H'∧ldA false 1 H' (.ptr kb (e*s.length+k))=some (I v):=by
 obtain ⟨ks,h1,h2,h3⟩:=h.get
 obtain ⟨v0,hv0,_⟩:=h3 e k he hk
 have hlt:=(List.getElem?_eq_some_iff.1 hv0).1
 refine ⟨H.set kb (some (.cells (ks.set (e*s.length+k) (I v)) true)),?_,⟨by simpa using h.lt,_,by simp; rfl,by simpa using h2,fun e' k' he' hk'=>?_⟩,⟨by simp,fun j hj hne=>by simp [hne]⟩,?_⟩
 ·have hlt':e*s.length+k+[I v].length≤ks.length:=by simp; omega
  rw [Hx,h1]
  simp only [cq]
  rw [if_pos ⟨hlt',rfl⟩,Il _ _ _ hlt]
 ·by_cases hi:e*s.length+k=e'*s.length+k'
  ·obtain ⟨rfl,rfl⟩:=Fd hk hk' hi
   exact ⟨v,by simp [hlt],hv⟩
  ·obtain ⟨w,hw,hw'⟩:=h3 e' k' he' hk'
   exact ⟨w,by simp [List.getElem?_set,hi,hw],hw'⟩
 ·simp only [aW,ay,if_true,bm]
  rw [List.drop_eq_getElem_cons (by simpa using hlt),iH]
  simp
section
variable {L:List Nd} {d:List Nat} {s:Sl} {dp kb M:Nat} {cap:Option Nat}
end
end Go.Proofs.YthdcghnjndhecaaGreat.Ev
namespace Go.Proofs.YthdcghnjndhecaaGreat.Ev
set_option linter.unusedVariables false
set_option linter.unusedSimpArgs false
variable {σ:Sig} {L:List Nd} {d:List Nat}
section
end
end Go.Proofs.YthdcghnjndhecaaGreat.Ev
namespace Go.Proofs.YthdcghnjndhecaaGreat.Ev
set_option linter.unusedVariables false
set_option linter.unusedSimpArgs false
inductive Sk where
 | same
 | sl (sz:Nat) (row:List Sk)
 | agg (row:List Sk)
 | ptr (row:List Sk)
def gH (sz:Nat) (g:List AV→Option (List AV)):Nat→List AV→Option (List (List AV))
 | 0,_=>some []
 | n+1,l=>match g (l.take sz) with
  | some r=>match gH sz g n (l.drop sz) with
   | some rs=>some (r::rs)
   | none=>none
  | none=>none
mutual
def rF (H:Hp):Sk→AV→Option AV
 | .same,x=>bif bf x then some x else none
 | .sl sz row,x=>match x with
  | .lit (.slice none 0 0)=>some (.imm sz [])
  | .emp=>some (.imm sz [])
  | .se _ _ _=>some (.imm sz [])
  | .imm s rows=>bif bf (.imm s rows) then some (.imm s rows) else none
  | .sl id off s len _=>bif Nat.beq s sz then match H.get id with
    | some (.cells cs _)=>match gH sz (fun l=>frzR H row l) len (cs.drop off) with
     | some rows=>bif Nat.beq row.length sz then some (.imm sz rows) else none
     | none=>none
    | _=>none
   else none
  | _=>none
 | .agg row,x=>match x with
  | .agg xs=>match frzR H row xs with
   | some ys=>some (.agg ys)
   | none=>none
  | _=>none
 | .ptr row,x=>match x with
  | .ptr id off=>match H.get id with
   | some (.cells cs _)=>match frzR H row ((cs.drop off).take row.length) with
    | some ys=>some (.ip ys)
    | none=>none
   | _=>none
  | _=>none
def frzR (H:Hp):List Sk→List AV→Option (List AV)
 | [],xs=>match xs with
  | []=>some []
  | _=>none
 | k::ks,xs=>match xs with
  | x::xs=>match rF H k x with
   | some y=>match frzR H ks xs with
    | some ys=>some (y::ys)
    | none=>none
   | none=>none
  | []=>none
end
theorem j6 {sz:Nat} {g:List AV→Option (List AV)} {H:Hp} (hg:∀ l r,g l=some r→FzL H l r):∀ (n:Nat) (l:List AV) (rows:List (List AV)),gH sz g n l=some rows→rows.length=n∧∀ (i:Nat) (row:List AV),rows[i]?=some row→FzL H ((l.drop (i*sz)).take sz) row
 | 0,l,rows,h=>by
  simp only [gH,Option.some.injEq] at h
  subst h
  exact ⟨rfl,fun i row h=>by simp at h⟩
 | n+1,l,rows,h=>by
  simp only [gH] at h
  split at h
  case h_2=>cases h
  rename_i r hr
  split at h
  case h_2=>cases h
  rename_i rs hrs
  simp only [Option.some.injEq] at h
  subst h
  obtain ⟨h1,h2⟩:=j6 hg n _ _ hrs
  refine ⟨by simp [h1],fun i row hi=>?_⟩
  cases i with
  | zero =>
   simp at hi
   subst hi
   simpa using hg _ _ hr
  | succ i =>
   simp at hi
   have:=h2 i row hi
   rw [List.drop_drop] at this
   rw [Nat.succ_mul,Nat.add_comm]
   exact this
theorem FzL.len {H:Hp} {xs ys:List AV} (h:FzL H xs ys):xs.length=ys.length:=h.get.1
mutual
theorem kO {H:Hp}:∀ (k:Sk) (x y:AV),rF H k x=some y→Fz H x y
 | .same,x,y,h=>by
  simp only [rF] at h
  cases hn:bf x with
  | false=>rw [hn] at h; cases h
  | true=>rw [hn] at h; cases h; exact .refl hn
 | .sl sz row,x,y,h=>by
  simp only [rF] at h
  split at h
  ·cases h; exact .nil
  ·cases h; exact .emp
  ·cases h; exact .se
  ·rename_i s rows
   cases hn:bf (.imm s rows) with
   | false=>rw [hn] at h; cases h
   | true=>rw [hn] at h; cases h; exact .refl hn
  ·rename_i id off s len cap
   cases hs:Nat.beq s sz with
   | false=>rw [hs] at h; cases h
   | true =>
    rw [hs] at h
    have:=Nat.eq_of_beq_eq_true hs
    subst this
    simp only [cond_true] at h
    split at h
    case h_2=>cases h
    rename_i cs ex hg
    split at h
    case h_2=>cases h
    rename_i rows hr
    cases hl:Nat.beq row.length s with
    | false=>rw [hl] at h; cases h
    | true =>
     rw [hl] at h
     cases h
     have hlen:=Nat.eq_of_beq_eq_true hl
     obtain ⟨h1,h2⟩:=j6 (fun l r hh=>jw row l r hh) _ _ _ hr
     have hrow:∀ (i:Nat) (r:List AV),rows[i]?=some r→r.length=s:=by
      intro i r hi
      obtain ⟨_,hh⟩:=j6 (g:=fun l=>frzR H row l) (fun l r hh=>jw row l r hh) _ _ _ hr
      exact mc (fun l r hh=>by rw [← hlen]; exact qL row l r hh) _ _ _ hr i r hi
     refine .sl (fun i j=>cs.getD (off+(i*s+j)) .any) hg h1 hrow (fun i r j y hi hy=>?_) (fun i r j y hi hy=>?_)
     ·obtain ⟨x,hx,_⟩:=(h2 i r hi).get.2 j y hy
      have hj:j<s:=by rw [← hrow i r hi]; exact (List.getElem?_eq_some_iff.1 hy).1
      rw [List.getElem?_take,if_pos hj,List.getElem?_drop,List.getElem?_drop] at hx
      simp [hx]
     ·obtain ⟨x,hx,hf⟩:=(h2 i r hi).get.2 j y hy
      have hj:j<s:=by rw [← hrow i r hi]; exact (List.getElem?_eq_some_iff.1 hy).1
      rw [List.getElem?_take,if_pos hj,List.getElem?_drop,List.getElem?_drop] at hx
      simp [hx]
      exact hf
  ·cases h
 | .agg row,x,y,h=>by
  simp only [rF] at h
  split at h
  case h_2=>cases h
  split at h
  case h_2=>cases h
  rename_i hr
  cases h
  exact Fz.aggL (jw row _ _ hr)
 | .ptr row,x,y,h=>by
  simp only [rF] at h
  split at h
  case h_2=>cases h
  rename_i id off
  split at h
  case h_2=>cases h
  rename_i cs ex hg
  split at h
  case h_2=>cases h
  rename_i ys hr
  cases h
  have hl:=(jw row _ _ hr).get
  refine .ptr (fun j=>cs.getD (off+j) .any) hg (fun j y hy=>?_) (fun j y hy=>?_)
  ·obtain ⟨x,hx,_⟩:=hl.2 j y hy
   rw [List.getElem?_take] at hx
   split at hx
   ·rw [List.getElem?_drop] at hx
    simp [hx]
   ·cases hx
  ·obtain ⟨x,hx,hf⟩:=hl.2 j y hy
   rw [List.getElem?_take] at hx
   split at hx
   ·rw [List.getElem?_drop] at hx
    simp [hx]
    exact hf
   ·cases hx
theorem jw {H:Hp}:∀ (ks:List Sk) (xs ys:List AV),frzR H ks xs=some ys→FzL H xs ys
 | [],xs,ys,h=>by
  simp only [frzR] at h
  split at h
  ·cases h; exact .nil
  ·cases h
 | k::ks,xs,ys,h=>by
  simp only [frzR] at h
  split at h
  case h_2=>cases h
  rename_i x xs
  split at h
  case h_2=>cases h
  rename_i y hy
  split at h
  case h_2=>cases h
  rename_i zs hz
  cases h
  exact .cons (kO k x y hy) (jw ks xs zs hz)
theorem qL {H:Hp}:∀ (ks:List Sk) (xs ys:List AV),frzR H ks xs=some ys→ys.length=ks.length
 | [],xs,ys,h=>by
  simp only [frzR] at h
  split at h
  ·cases h; rfl
  ·cases h
 | k::ks,xs,ys,h=>by
  simp only [frzR] at h
  split at h
  case h_2=>cases h
  split at h
  case h_2=>cases h
  split at h
  case h_2=>cases h
  rename_i zs hz
  cases h
  simp [qL ks _ _ hz]
theorem mc {sz:Nat} {g:List AV→Option (List AV)} (hg:∀ l r,g l=some r→r.length=sz):∀ (n:Nat) (l:List AV) (rows:List (List AV)),gH sz g n l=some rows→∀ (i:Nat) (r:List AV),rows[i]?=some r→r.length=sz
 | 0,l,rows,h,i,r,hi=>by
  simp only [gH,Option.some.injEq] at h
  subst h
  simp at hi
 | n+1,l,rows,h,i,r,hi=>by
  simp only [gH] at h
  split at h
  case h_2=>cases h
  rename_i r0 hr0
  split at h
  case h_2=>cases h
  rename_i rs hrs
  cases h
  cases i with
  | zero=>simp at hi; subst hi; exact hg _ _ hr0
  | succ i=>exact mc hg n _ _ hrs i r (by simpa using hi)
end
def sF:Sk:=.sl 1 [.same]
def KS:Sk:=.sl 3 [.same,.same,.same]
def Li:Sk:=.sl 2 [.same,.same]
def LP:List Sk:=[.same,.same,.same,sF,Li]
def Lq:Sk:=.sl 5 LP
def KZ (pss:Sk):List Sk:=[.same,sF,sF,KS,pss]
def Ha:Nat→Sk
 | 0=>.same
 | n+1=>.sl 4 [.same,.same,.same,.sl 1 [.sl 6 (.same::KZ (Ha n))]]
def KA (n:Nat):Sk:=.sl 6 (.same::KZ (Ha n))
def AG (n:Nat):Sk:=.sl 1 [KA n]
end Go.Proofs.YthdcghnjndhecaaGreat.Ev
namespace Go.Proofs.YthdcghnjndhecaaGreat.Ev
theorem ar.conv {P:Program} {σ:Sig} {f:Nat} {xs ys:List AV} {r:AV} {H H2 H3:Hp} (k:Wk σ ys H xs H2) (h:ar P σ f xs H2 r H3):ar P σ f ys H r H3:=by
 refine ⟨h.1,fun B w0 E w vs hσ hst hxs=>?_⟩
 obtain ⟨E2,h1,h2,h3⟩:=k hσ hst hxs
 refine (h.2 B w0 E2 w vs hσ h2 h3).mono fun e w' hh=>?_
 obtain ⟨E',v,rfl,hext,st2,hrel⟩:=hh
 exact ⟨E',v,rfl,h1.trans hext,st2,hrel⟩
def Hp.bare (n:Nat):Hp:=⟨n,.leaf⟩
@[simp] theorem Hp.bare_n (n:Nat):(Hp.bare n).n=n:=rfl
@[simp] theorem Hp.bare_get (n j:Nat):(Hp.bare n).get j=none:=by simp [Hp.bare,Hp.get,Tr.get]
theorem FzL.t {H:Hp} {xs ys:List AV} (h:FzL H xs ys):FzT H xs ys:=by
 induction h with
 | nil=>exact .nil
 | cons h hs ih=>exact .fz h ih
theorem ar.drop {P:Program} {σ:Sig} {f:Nat} {xs ys:List AV} {r:AV} {H:Hp} (h:∀ H,ar P σ f xs H r H) (hx:FzL H ys xs):ar P σ f ys H r (Hp.bare H.n) :=
 ar.conv (Wk.frz (H2:=Hp.bare H.n) (Hd:=H) rfl rfl (fun id k hk=>⟨hk,by simp⟩) (fun id k2 hk=>by simp at hk) hx.t) (h _)
theorem cH {α:Type} {o:Option α} {x:α} {K:α→Prop} (h:o=some x) (k:K x):bnd o K:=by rw [h]; exact k
end Go.Proofs.YthdcghnjndhecaaGreat.Ev
namespace Go.Proofs.YthdcghnjndhecaaGreat.Ev
set_option linter.unusedVariables false
set_option linter.unusedSimpArgs false
inductive Gsc (sz:Nat) (H:Hp):AV→List (List AV)→Prop where
 | gs {x:AV} {rows:List (List AV)} (h:Gs sz H x rows):Gsc sz H x rows
 | full {id:Nat} {ex:Bool} {rows:List (List AV)} (hlt:id<H.n) (hg:H.get id=some (.cells rows.flatten ex)) (hsz:∀ row ∈ rows,row.length=sz) (h0:rows≠[]):Gsc sz H (.sl id 0 sz rows.length (some rows.length)) rows
theorem Gsc.lit {sz:Nat} {H:Hp} {row:List AV} (hl:row.length=sz):Gsc sz (H.new (.cells row true)) (.sl H.n 0 sz 1 (some 1)) [row]:=by
 refine .full (id:=H.n) (rows:=[row]) (by simp) (by simp; rfl) (by simp [hl]) (by simp)
theorem aZ.drop {P:Program} {C:Ctx P} {c:Code} {T T2:List AV} {H:Hp} {Q:Exit→List AV→Hp→Prop} (hT:FzT H T T2) (h:aZ C c T2 (Hp.bare H.n) Q):aZ C c T H Q :=
 aZ.conv (Wk.frz (H2:=Hp.bare H.n) (Hd:=H) rfl rfl (fun id k hk=>⟨hk,by simp⟩) (fun id k2 hk=>by simp at hk) hT) h
end Go.Proofs.YthdcghnjndhecaaGreat.Ev
namespace Go.Proofs.YthdcghnjndhecaaGreat.Ev
end Go.Proofs.YthdcghnjndhecaaGreat.Ev
namespace Go.Proofs.YthdcghnjndhecaaGreat.Ev
set_option linter.unusedVariables false
set_option linter.unusedSimpArgs false
variable {σ:Sig} {L:List Nd} {d:List Nat}
def TxL:Nat→List Sl→Prop
 | 0,_=>False
 | f+1,l=>∀ s ∈ l,∀ p ∈ s,(∀ a ∈ p.c.attrs,a.text.data.size<4294967281)∧∀ q ∈ p.c.pseudos,TxL f q.list
theorem TxL.one {f:Nat} {l:List Sl} (h:TxL f l) {s:Sl} (hs:s ∈ l):TxL f [s]:=by
 cases f with
 | zero=>exact h
 | succ f=>exact fun s' hs'=>by rw [List.mem_singleton.1 hs']; exact h s hs
theorem Lx.of {c:Cp} (h:pB c) (ht:∀ a ∈ c.attrs,a.text.data.size<4294967281):Lx c:=⟨h.ids,h.classes,h.attrs,h.ps,ht⟩
end Go.Proofs.YthdcghnjndhecaaGreat.Ev
namespace Go.Proofs.YthdcghnjndhecaaGreat.Ev
set_option linter.unusedVariables false
set_option linter.unusedSimpArgs false
theorem yv {ts:List Nat} {zs:List AV} (h:Sh tiT.get (nP::ts) zs):∃ n ys,zs=I n::ys∧i64 n∧Sh tiT.get ts ys:=by
 obtain ⟨i,hi,hd,_⟩:=B6
 obtain ⟨n,ys,e,hw,hs⟩:=I1 hi hd h
 refine ⟨n,ys,e,?_,hs⟩
 simp [Lit.wf,IntKind.min,IntKind.max,IntKind.signed,IntKind.bits] at hw
 unfold i64
 omega
theorem Bj {ts:List Nat} {zs:List AV} (h:Sh tiT.get (eu::ts) zs):∃ b ys,zs=Bo b::ys∧Sh tiT.get ts ys:=by
 obtain ⟨i,hi,hd,_⟩:=oV
 exact E_ hi hd h
theorem qZ {t:Nat} {fs:List (Nat × Nat)} {sz:Nat} (hT:∃ i,tiT.get t=some i∧i.d=.struct fs∧i.size=sz) {ts:List Nat} {zs:List AV} (h:Sh tiT.get (t::ts) zs):Sh tiT.get (fs.map (·.2)++ts) zs:=by
 obtain ⟨i,hi,hd,_⟩:=hT
 exact uf hi hd h
def K0:List Nat:=[nP,CQ,eu,ru,om,rR,oo,sv,mH,mt,pd,kh,nY,oe,sc,oa,r9]
end Go.Proofs.YthdcghnjndhecaaGreat.Ev
namespace Go.Proofs.YthdcghnjndhecaaGreat.Ev
theorem KB {t sz:Nat} {fs:List (Nat × Nat)} (hT:∃ i,tiT.get t=some i∧i.d=.struct fs∧i.size=sz) {x:AV} (h:ShV tiT.get t x):∃ ys,x=.agg ys∧Sh tiT.get [t] ys:=by
 obtain ⟨i,hi,hd,_⟩:=hT
 exact GM hi (by rw [hd]; rfl) h
theorem Kq {t sz:Nat} {d:TD} (hT:∃ i,tiT.get t=some i∧i.d=d∧i.size=sz) (ha:d.agg=false) {x:AV} (h:ShV tiT.get t x):Sh tiT.get [t] [x]:=by
 obtain ⟨i,hi,hd,_⟩:=hT
 unfold ShV at h
 rw [hi] at h
 simp only [hd,ha] at h
 exact h
theorem yi {x:AV} (h:ShV tiT.get eu x):∃ b,x=Bo b:=by
 obtain ⟨n,ys,e,hn⟩:=Bj (Kq oV rfl h)
 cases e
 exact ⟨n,rfl⟩
end Go.Proofs.YthdcghnjndhecaaGreat.Ev
namespace Go.Proofs.YthdcghnjndhecaaGreat.Ev
end Go.Proofs.YthdcghnjndhecaaGreat.Ev
namespace Go.Proofs.YthdcghnjndhecaaGreat.Ev
set_option linter.unusedVariables false
set_option linter.unusedSimpArgs false
theorem nC {α:Type} {f:α→List AV} {g:α→Nat}:∀ {l:List α},(∀ x ∈ l,g x≤bkL (f x))→(l.map g).sum≤du (l.map f)
 | [],_=>by simp [du]
 | x::r,h=>by
  have h1:=h x (by simp)
  have h2:=nC (f:=f) (g:=g) (l:=r) fun y hy=>h y (by simp [hy])
  simp only [List.map_cons,List.sum_cons,du]
  omega
theorem j8 {α:Type} {f:α→List AV} {l:List α} (h:∀ x ∈ l,1≤bkL (f x)):l.length≤du (l.map f):=by
 have h1:=nC (f:=f) (g:=fun _=>1) (l:=l) h
 have h2:∀ l:List α,(l.map fun _=>1).sum=l.length:=by
  intro l
  induction l with
  | nil=>rfl
  | cons a r ih=>simp only [List.map_cons,List.sum_cons,List.length_cons,ih]; omega
 rw [h2] at h1
 exact h1
theorem np {α:Type} {f:α→List AV} {l:List α} {x:α} (h:x ∈ l):bkL (f x)≤du (l.map f):=rl (List.mem_map_of_mem h)
theorem Gh (s:ByteArray):bk (Sx s)=s.data.size+1:=by simp [bk]
theorem IZ (n:Int):bk (I n)=1:=by simp [bk]
theorem pb (sz:Nat) (rows:List (List AV)):bk (.imm sz rows)=du rows+1:=by simp [bk]
theorem Fk (l:List ByteArray):bk (dq l)=du (l.map fun s=>[Sx s])+1:=by unfold dq; rw [pb]
theorem Hc (c:Cp):bkL (cR c)=(c.tag.data.size+1)+((du (c.ids.map fun s=>[Sx s])+1)+((du (c.classes.map fun s=>[Sx s])+1)+((du (c.attrs.map dn)+1)+(du (c.pseudos.map bu)+1)))):=by
 rw [cy]
 simp only [bkL,Gh,Fk,pb,Nat.add_zero]
theorem xd (p:Pt):bkL (ba p)=1+bkL (cR p.c):=by rw [dO]; simp only [bkL,IZ]
theorem zu (q:Ps):bkL (bu q)=1+(1+(1+(du (q.list.map aI)+1))):=by rw [dP]; simp only [bkL,IZ,pb,Nat.add_zero]
theorem tH (s:Sl):bkL (aI s)=du (s.map ba)+1:=by unfold aI; simp only [bkL,pb,Nat.add_zero]
theorem Hj (a:At):bkL (dn a)=(a.name.data.size+1)+(1+(a.text.data.size+1)):=by unfold dn; simp only [bkL,Gh,IZ,Nat.add_zero]
structure PtB (f:Nat) (p:Pt):Prop where
 c:pB p.c
 ps:p.c.pseudos.length≤NB
 q:∀ q ∈ p.c.pseudos,(i64 q.a∧i64 q.b)∧h_ f q.list
 tx:∀ a ∈ p.c.attrs,a.text.data.size<4294967281
 tq:∀ q ∈ p.c.pseudos,TxL f q.list
 cnt:(p.c.pseudos.map fun q=>d_ f q.list).sum+6≤bkL (ba p)
theorem GC {f:Nat} (ih:∀ l,kz gW l→oh f l→du (l.map aI)≤NB→h_ f l∧TxL f l∧d_ f l≤du (l.map aI)) {p:Pt} (hw:BM gW p.c) (hf:L5 f p) (hb:bkL (cR p.c)≤NB):PtB f p:=by
 have hN:NB=1048576:=rfl
 have r:reachBytes=140737488351232:=rfl
 rw [Hc,hN] at hb
 have l1:p.c.ids.length≤du (p.c.ids.map fun s=>[Sx s]):=j8 fun s _=>by simp only [bkL,Gh]; omega
 have l2:p.c.classes.length≤du (p.c.classes.map fun s=>[Sx s]):=j8 fun s _=>by simp only [bkL,Gh]; omega
 have l3:p.c.attrs.length≤du (p.c.attrs.map dn):=j8 fun s _=>by rw [Hj]; omega
 have l4:p.c.pseudos.length≤du (p.c.pseudos.map bu):=j8 fun s _=>by rw [zu]; omega
 have ht:∀ a ∈ p.c.attrs,a.text.data.size≤1048576:=fun a ha=>by
  have h1:=np (f:=dn) ha
  rw [Hj] at h1
  omega
 have hq:∀ q ∈ p.c.pseudos,h_ f q.list∧TxL f q.list∧d_ f q.list≤du (q.list.map aI):=fun q hq=>by
  have h1:=np (f:=bu) hq
  rw [zu] at h1
  exact ih q.list (Ps.wf_iff.1 (hw.ps q hq)).2.2.2 (hf.2 q hq) (by rw [hN]; omega)
 refine ⟨⟨by omega,by omega,by omega,fun a ha=>⟨by have:=ht a ha; omega⟩,by omega⟩,by omega,fun q h=>⟨⟨(Ps.wf_iff.1 (hw.ps q h)).2.1,(Ps.wf_iff.1 (hw.ps q h)).2.2.1⟩,(hq q h).1⟩,fun a ha=>by have:=ht a ha; omega,fun q h=>(hq q h).2.1,?_⟩
 have h5:(p.c.pseudos.map fun q=>d_ f q.list).sum≤du (p.c.pseudos.map bu):=nC fun q h=>by
  have:=(hq q h).2.2
  rw [zu]; omega
 rw [xd,Hc]
 omega
theorem qj:∀ (f:Nat) (l:List Sl),kz gW l→oh f l→du (l.map aI)≤NB→h_ f l∧TxL f l∧d_ f l≤du (l.map aI)
 | 0,l,_,h,_=>h.elim
 | f+1,l,hw,hf,hb=>by
  have hN:NB=1048576:=rfl
  have hl:l.length≤du (l.map aI):=j8 fun s _=>by rw [tH]; omega
  have hs:∀ s ∈ l,s.length≤NB∧∀ p ∈ s,PtB f p:=fun s h=>by
   have h1:=np (f:=aI) h
   rw [tH] at h1
   have h2:s.length≤du (s.map ba):=j8 fun p _=>by rw [xd]; omega
   refine ⟨by omega,fun p hp=>?_⟩
   have h3:=np (f:=ba) hp
   rw [xd] at h3
   exact GC (qj f) (Pt.wf_iff.1 ((hw.2 s h).2 p hp)).2 ((hf s h).2 p hp) (by omega)
  refine ⟨⟨by omega,fun s h=>⟨(hs s h).1,fun p hp=>⟨((hs s h).2 p hp).c,((hs s h).2 p hp).ps,((hs s h).2 p hp).q⟩⟩⟩,fun s h p hp=>⟨((hs s h).2 p hp).tx,((hs s h).2 p hp).tq⟩,?_⟩
  rw [d_]
  refine nC fun s h=>?_
  rw [tH]
  have:(s.map fun p=>(p.c.pseudos.map fun q=>d_ f q.list).sum).sum≤du (s.map ba):=nC fun p hp=>by
   have:=((hs s h).2 p hp).cnt
   omega
  omega
theorem wM {l:List Sl} (hw:kz gW l) (hf:oh 11 l) (hb:du (l.map aI)≤NB):th 11 l∧TxL 11 l:=by
 obtain ⟨h1,h2,h3⟩:=qj 11 l hw hf hb
 exact ⟨⟨hw,h1,hf.nest,by decide,by omega⟩,h2⟩
end Go.Proofs.YthdcghnjndhecaaGreat.Ev
namespace Go.Proofs.YthdcghnjndhecaaGreat.Ev
set_option linter.unusedVariables false
set_option linter.unusedSimpArgs false
variable {σ:Sig}
def KN:List Nat:=K0++[n7,s5,pS,cU,gF]
section
end
section
end
end Go.Proofs.YthdcghnjndhecaaGreat.Ev
namespace Go.Proofs.YthdcghnjndhecaaGreat.Ev
set_option linter.unusedVariables false
set_option linter.unusedSimpArgs false
variable {σ:Sig}
def A4 (s:ByteArray):Bool:=decide (60<(s.data.size:Int))
def K7 (p:ByteArray × ByteArray):Bool:=A4 p.1||decide (100<(p.2.data.size:Int))
def Lp (n:Nd):Bool:=decide (8<(n.classes.length:Int))||(decide (8<(n.attrs.length:Int))||(A4 n.tag||(A4 n.id||(n.classes.any A4||n.attrs.any K7))))
structure Fc (n:Nd):Prop where
 classes:n.classes.length≤8
 attrs:n.attrs.length≤8
 tag:n.tag.data.size≤60
 id:n.id.data.size≤60
 cl:∀ s ∈ n.classes,s.data.size≤60
 at':∀ p ∈ n.attrs,p.1.data.size≤60∧p.2.data.size≤100
theorem Fc.of {n:Nd} (h:Lp n=false):Fc n:=by
 unfold Lp K7 A4 at h
 simp only [Bool.or_eq_false_iff,decide_eq_false_iff_not,List.any_eq_false,Bool.or_eq_true,decide_eq_true_eq,not_or] at h
 obtain ⟨h1,h2,h3,h4,h5,h6⟩:=h
 exact ⟨by omega,by omega,by omega,by omega,fun s hs=>by have:=h5 s hs; omega,fun p hp=>by have:=h6 p hp; omega⟩
section
end
theorem wR {P:Program} {σ:Sig} {f:Nat} {xs:List AV} {r:AV} (h:∀ K:AV→Hp→Prop,(∀ H,K r H)→∃ r' H1,ar P σ f xs Hp.empty r' H1∧K r' H1) (hx:aC xs=true) (hr:bf r=true) (H:Hp):ar P σ f xs H r H:=by
 obtain ⟨r',H1,hg,e⟩:=h (fun r' _=>r'=r) (fun _=>rfl)
 subst e
 exact hg.frzR hx (.refl hr) H
end Go.Proofs.YthdcghnjndhecaaGreat.Ev
namespace Go.Proofs.YthdcghnjndhecaaGreat.Ev
set_option linter.unusedVariables false
set_option linter.unusedSimpArgs false
variable {σ:Sig}
structure W3 where
 a:Int
 b:Int
 c:Int
def W3.cells (s:W3):List AV:=[I s.a,I s.b,I s.c]
def W3.Bd (M:Int) (s:W3):Prop:=(0≤s.a∧s.a≤M)∧(0≤s.b∧s.b≤M)∧0≤s.c∧s.c≤M
def lst (n:Int):Int:=if 255<n then 255 else n
def ii (s:W3):Int:=(lst s.a*256+lst s.b)*256+lst s.c
def sU (s:W3) (w:Int):W3:=⟨s.a+w / 256 / 256 % 256,s.b+w / 256 % 256,s.c+w % 256⟩
def uo (g:Sl→Int) (l:List Sl) (m:Int):Int:=l.foldl (fun m x=>if m<g x then g x else m) m
def psW (g:Sl→Int) (last:Bool) (s:W3) (p:Ps):W3:=if p.kind≠7∧p.kind≠8 then ⟨s.a,s.b+1,s.c⟩ else if last=true then s else sU s (uo g p.list 0)
def kK (s:W3) (c:Cp):W3:=⟨s.a+c.ids.length,s.b+(c.classes.length+c.attrs.length),if c.tag≠⟨#[]⟩ then s.c+1 else s.c⟩
def cpW (g:Sl→Int) (last:Bool) (s:W3) (c:Cp):W3:=c.pseudos.foldl (psW g last) (kK s c)
def slW (g:Sl→Int) (last:Bool) (x:Sl):Int:=ii (x.foldl (fun s p=>cpW g last s p.c) ⟨0,0,0⟩)
def ofW:Nat→Sl→Int
 | 0,x=>slW (fun _=>0) true x
 | d+1,x=>slW (ofW d) false x
theorem lA (n:Int) (h:0≤n):0≤lst n∧lst n≤255:=by unfold lst; split<;>omega
theorem sp {s:W3} {M:Int} (h:s.Bd M):0≤ii s∧ii s≤16777215:=by
 obtain ⟨⟨a0,_⟩,⟨b0,_⟩,c0,_⟩:=h
 have:=lA _ a0
 have:=lA _ b0
 have:=lA _ c0
 unfold ii
 omega
theorem Em {s:W3} {M w:Int} (h:s.Bd M) (h0:0≤w):(sU s w).Bd (M+255):=by
 obtain ⟨⟨a0,a1⟩,⟨b0,b1⟩,c0,c1⟩:=h
 unfold sU W3.Bd
 simp only
 omega
theorem lr (n:Int) (H:Hp):ar Tryz.prog σ dz [I n,I 255] H (I (lst n)) H :=
 jy (eW.run (by simp [jT,toI,gL,lst])) rfl rfl H
theorem uF {s:W3} {M:Int} (h:s.Bd M) (H:Hp):ar Tryz.prog σ db [.agg s.cells] H (I (ii s)) H:=by
 obtain ⟨⟨a0,_⟩,⟨b0,_⟩,c0,_⟩:=h
 have ha:=lA _ a0
 have hb:=lA _ b0
 have hc:=lA _ c0
 refine jy (aN.run ?_) (by simp [aC,bf,W3.cells]) rfl H
 simp [W3.cells,cr]
 refine aN.L0_step ?_
 simp [oI,eK,eg]
 refine ap (lr _ _) ?_
 simp
 rw [eg (by omega) (by omega)]
 refine aN.L0_step ?_
 simp [oI,eK,eg]
 rw [eg (by omega) (by omega)]
 refine ap (lr _ _) ?_
 simp
 rw [eg (by omega) (by omega)]
 refine aN.L0_step ?_
 simp [oI,eK,eg]
 rw [eg (by omega) (by omega)]
 refine ap (lr _ _) ?_
 simp
 rw [eg (by omega) (by omega)]
 refine aN.L0_step ?_
 simp [ii]
theorem G0 {s:W3} {M w:Int} (h:s.Bd M) (hM:M≤1000000000) (h0:0≤w) (h1:w≤16777215) {H:Hp} {id:Nat} (hid:H.get id=some (.cells s.cells true)) :
  ∃ H',ar Tryz.prog σ dm [.ptr id 0,I w] H (.tup []) H'∧H'.get id=some (.cells (sU s w).cells true)∧(∀ j,j≠id→H'.get j=H.get j)∧H'.n=H.n:=by
 obtain ⟨⟨a0,a1⟩,⟨b0,b1⟩,c0,c1⟩:=h
 have t1:w.tmod 256=w % 256:=Int.tmod_eq_emod_of_nonneg h0
 have t2:w.tdiv 256=w / 256:=Int.tdiv_eq_ediv_of_nonneg h0
 have t3:(w / 256).tmod 256=w / 256 % 256:=Int.tmod_eq_emod_of_nonneg (by omega)
 have t4:(w / 256).tdiv 256=w / 256 / 256:=Int.tdiv_eq_ediv_of_nonneg (by omega)
 have t5:(w / 256 / 256).tmod 256=w / 256 / 256 % 256:=Int.tmod_eq_emod_of_nonneg (by omega)
 have t6:(w / 256 / 256).tdiv 256=w / 256 / 256 / 256:=Int.tdiv_eq_ediv_of_nonneg (by omega)
 have run:∃ r H',ar Tryz.prog σ dm [.ptr id 0,I w] H r H'∧(r=.tup []∧H'.get id=some (.cells (sU s w).cells true)∧(∀ j,j≠id→H'.get j=H.get j)∧H'.n=H.n):=by
  refine bj.run ?_
  refine bj.L0_step ?_
  simp [bS,eK,hid,W3.cells,qS,zh,t1,t2]
  rw [eg (by omega) (by omega),eg (by omega) (by omega),eg (by omega) (by omega)]
  refine bj.L0_step ?_
  simp [bS,eK,hid,W3.cells,qS,zh,t3,t4]
  rw [eg (by omega) (by omega),eg (by omega) (by omega),eg (by omega) (by omega)]
  refine bj.L0_step ?_
  simp [bS,eK,hid,W3.cells,qS,zh,t5,t6]
  rw [eg (by omega) (by omega),eg (by omega) (by omega),eg (by omega) (by omega)]
  refine bj.L0_step ?_
  simp [sU]
  intro j hj
  simp [hj]
 obtain ⟨r,H',hg,rfl,hh⟩:=run
 exact ⟨H',hg,hh⟩
theorem tc {g:Sl→Int}:∀ (l:List Sl) (m:Int),0≤m→m≤16777215→(∀ x ∈ l,0≤g x∧g x≤16777215)→0≤uo g l m∧uo g l m≤16777215
 | [],m,h0,h1,_=>⟨h0,h1⟩
 | x::r,m,h0,h1,h=>by
  have:=h x (by simp)
  show 0≤uo g r (if m<g x then g x else m)∧_
  refine tc r _ ?_ ?_ fun y hy=>h y (by simp [hy])
  ·split<;>omega
  ·split<;>omega
def sJ (H:Hp) (id:Nat) (s:W3) (H':Hp):Prop:=H'.get id=some (.cells s.cells true)∧(∀ j,j≠id→j<H.n→H'.get j=H.get j)∧H.n≤H'.n
def Bt (c:Cp):Prop:=c.ids.length≤400∧c.classes.length≤400∧c.attrs.length≤400∧c.pseudos.length≤5
theorem qu.wide {c:Cp} (h:qu c):Bt c:=⟨by have:=h.1; omega,by have:=h.2.1; omega,by have:=h.2.2.1; omega,h.2.2.2⟩
theorem qe {d:Nat} (hd:d≤8) {g:Sl→Int} {P:Sl→Prop} (hg:d≠0→∀ x,P x→(∀ H,ar Tryz.prog σ dC [.agg (aI x),I ((d - 1:Nat):Int)] H (I (g x)) H)∧0≤g x∧g x≤16777215)
  {c:Cp} (hc:BM gW c) (hfit:Bt c) (hP:d≠0→∀ q ∈ c.pseudos,∀ x ∈ q.list,P x) {s:W3} {M:Int} (hs:s.Bd M) (hM:M≤100000000) {H:Hp} {id:Nat} (hid:H.get id=some (.cells s.cells true)) (hlt:id<H.n) :
  ∃ H',ar Tryz.prog σ b_ [.ptr id 0,.agg (cR c),I (d:Int)] H (.tup []) H'∧sJ H id (cpW g (decide (d=0)) s c) H'∧(cpW g (decide (d=0)) s c).Bd (M+3000):=by
 obtain ⟨f1,f2,f3,f4⟩:=hfit
 have hls:(kK s c).Bd (M+900):=by
  obtain ⟨⟨a0,a1⟩,⟨b0,b1⟩,c0,c1⟩:=hs
  unfold kK W3.Bd
  simp only
  refine ⟨by omega,by omega,?_⟩
  split<;>omega
 let K:AV→Hp→Prop:=fun r H'=>r=.tup []∧sJ H id (cpW g (decide (d=0)) s c) H'∧(cpW g (decide (d=0)) s c).Bd (M+3000)
 have L1:∀ (n k:Nat) (H':Hp) (s':W3) (y4 y8 y70 y71 y72:AV),c.pseudos.length - k=n→k≤c.pseudos.length→s'=(c.pseudos.take k).foldl (psW g (decide (d=0))) (kK s c)→s'.Bd (M+900+255*k)→sJ H id s' H' →
   ah.L1 σ K (.ptr id 0) (I (d:Int)) y4 y8 (.imm 4 (c.pseudos.map bu)) (I c.pseudos.length) (I k) y70 y71 y72 H':=by
  intro n
  induction n with
  | zero =>
   intro k H' s' y4 y8 y70 y71 y72 hn hk hs' hb hI
   have e:k=c.pseudos.length:=by omega
   subst e
   refine ah.L1_step ?_
   simp
   have e2:s'=cpW g (decide (d=0)) s c:=by rw [hs',List.take_length]; rfl
   rw [e2] at hI hb
   refine ⟨rfl,hI,?_⟩
   obtain ⟨⟨a0,a1⟩,⟨b0,b1⟩,c0,c1⟩:=hb
   exact ⟨⟨a0,by omega⟩,⟨b0,by omega⟩,c0,by omega⟩
  | succ n ih =>
   intro k H' s' y4 y8 y70 y71 y72 hn hk hs' hb hI
   have hklt:k<c.pseudos.length:=by omega
   obtain ⟨q,hq⟩:=bQ hklt
   have hqw:=(Ps.wf_iff.1 (hc.ps q (List.mem_of_getElem? hq))).2.2.2
   obtain ⟨hI1,hI2,hI3⟩:=hI
   obtain ⟨⟨a0,a1⟩,⟨b0,b1⟩,c0,c1⟩:=hb
   have hne:id≠H'.n:=by omega
   have hfold:(c.pseudos.take (k+1)).foldl (psW g (decide (d=0))) (kK s c)=psW g (decide (d=0)) s' q:=by
    rw [List.take_add_one,hq]
    simp only [Option.toList_some,List.foldl_append,List.foldl_cons,List.foldl_nil]
    rw [← hs']
   have next:∀ (H2:Hp) (s2:W3) (y4 y8 y70 y71 y72:AV),s2=psW g (decide (d=0)) s' q→s2.Bd (M+900+255*k+255)→sJ H id s2 H2 →
     ah.J2 σ K (.ptr id 0) (I (d:Int)) y4 y8 (.imm 4 (c.pseudos.map bu)) (I c.pseudos.length) (I k) y70 y71 y72 H2:=by
    intro H2 s2 y4 y8 y70 y71 y72 e1 e2 e3
    refine ah.J2_step ?_
    simp
    rw [dE hklt hc.psL]
    refine ih (k+1) H2 s2 _ _ _ _ _ (by omega) (by omega) (by rw [hfold]; exact e1) ?_ e3
    obtain ⟨⟨a0,a1⟩,⟨b0,b1⟩,c0,c1⟩:=e2
    exact ⟨⟨a0,by omega⟩,⟨b0,by omega⟩,c0,by omega⟩
   have L3:q.kind=7∨q.kind=8→d≠0→∀ (n3 i:Nat) (H2:Hp) (m:Int) (y4:AV),q.list.length - i=n3→i≤q.list.length→m=uo g (q.list.take i) 0→sJ H id s' H2 →
     ah.L3 σ K (.ptr id 0) (I (d:Int)) y4 (I m) (.imm 4 (c.pseudos.map bu)) (I c.pseudos.length) (I k) (.imm 1 (q.list.map aI)) (I q.list.length) (I i) H2:=by
    intro hk78 hd0 n3
    have hPq:=hP hd0 q (List.mem_of_getElem? hq)
    induction n3 with
    | zero =>
     intro i H2 m y4 hn3 hi hm hI2'
     have e:i=q.list.length:=by omega
     subst e
     rw [List.take_length] at hm
     have hmb:=tc (g:=g) q.list 0 (by omega) (by omega) fun x hx=>(hg hd0 x (hPq x hx)).2
     rw [← hm] at hmb
     obtain ⟨j1,j2,j3⟩:=hI2'
     obtain ⟨H3,hg3,r1,r2,r3⟩:=G0 (σ:=σ) (M:=M+900+255*k) ⟨⟨a0,a1⟩,⟨b0,b1⟩,c0,c1⟩ (by omega) hmb.1 hmb.2 j1
     refine ah.L3_step ?_
     simp
     refine ap hg3 ?_
     refine next H3 (sU s' m) _ _ _ _ _ ?_ (Em ⟨⟨a0,a1⟩,⟨b0,b1⟩,c0,c1⟩ hmb.1) ⟨r1,fun j hj hjl=>by rw [r2 j hj]; exact j2 j hj hjl,by rw [r3]; exact j3⟩
     unfold psW
     rw [if_neg (by omega),if_neg (by simpa using hd0),hm]
    | succ n3 ih3 =>
     intro i H2 m y4 hn3 hi hm hI2'
     have hilt:i<q.list.length:=by omega
     obtain ⟨x,hx⟩:=bQ hilt
     obtain ⟨hgx,_,_⟩:=hg hd0 x (hPq x (List.mem_of_getElem? hx))
     obtain ⟨j1,j2,j3⟩:=hI2'
     have hne2:id≠H2.n:=by omega
     refine ah.L3_step ?_
     have e1:wr .i64 ((d:Int) - 1)=((d - 1:Nat):Int):=by rw [eg (by omega) (by omega)]; omega
     simp [cj hx,cr,aE,hilt,e1,dE hilt hqw.1]
     refine ap (hgx _) ?_
     simp [pa,toI,gC]
     refine ih3 (i+1) _ _ _ (by omega) (by omega) ?_ ⟨by simp [hne2,j1],fun j hj hjl=>?_,by simp; omega⟩
     ·rw [List.take_add_one,hx,hm]
      simp only [uo,Option.toList_some,List.foldl_append,List.foldl_cons,List.foldl_nil]
      rfl
     ·have:j≠H2.n:=by omega
      simp [this]
      exact j2 j hj hjl
   refine ah.L1_step ?_
   simp [cj hq,cr,aE,dP,hklt]
   have hne':∀ j,j<H.n→j≠H'.n:=fun j hj=>by omega
   have tolist:q.kind=7∨q.kind=8→∀ (b:Blk) (o:Option Blk),(if d=0 then ah.J2 σ K (.ptr id 0) (I (d:Int)) y4 y8 (.imm 4 (c.pseudos.map bu)) (I c.pseudos.length) (I k) y70 y71 y72 ((H'.new b).set H'.n o)
     else ah.L3 σ K (.ptr id 0) (I (d:Int)) y4 (I 0) (.imm 4 (c.pseudos.map bu)) (I c.pseudos.length) (I k) (.imm 1 (q.list.map aI)) (I q.list.length) (I 0) ((H'.new b).set H'.n o)):=by
    intro hk78 b o
    have hI':sJ H id s' ((H'.new b).set H'.n o):=⟨by simp [hne,hI1],fun j hj hjl=>by simp [hne' j hjl]; exact hI2 j hj hjl,by simp; omega⟩
    split
    ·rename_i hd0
     refine next _ s' _ _ _ _ _ ?_ ⟨⟨a0,by omega⟩,⟨b0,by omega⟩,c0,by omega⟩ hI'
     unfold psW
     rw [if_neg (by omega),if_pos (by simpa using hd0)]
    ·rename_i hd0
     exact L3 hk78 hd0 _ 0 _ 0 _ rfl (Nat.zero_le _) rfl hI'
   split
   ·exact tolist (.inl (by assumption)) _ _
   split
   ·exact tolist (.inr (by assumption)) _ _
   ·simp [bS,eK,hne,hI1,W3.cells]
    rw [eg (by omega) (by omega)]
    refine next _ ⟨s'.a,s'.b+1,s'.c⟩ _ _ _ _ _ ?_ ⟨⟨a0,by simp only; omega⟩,⟨by simp only; omega,by simp only; omega⟩,c0,by simp only; omega⟩ ⟨by simp [W3.cells],fun j hj hjl=>by simp [hne' j hjl,hj]; exact hI2 j hj hjl,by simp; omega⟩
    unfold psW
    rw [if_pos ⟨by assumption,by assumption⟩]
 obtain ⟨⟨a0,a1⟩,⟨b0,b1⟩,c0,c1⟩:=hs
 have hne:id≠H.n:=by omega
 have fin:∀ H',sJ H id (kK s c) H'→H'.get H.n=some (.cells (cR c) true)→ah.J0 σ K (.ptr id 0) (I (d:Int)) (.ptr H.n 0) (.lit undef) (.lit undef) (.lit undef) (.lit undef) (.lit undef) (.lit undef) (.lit undef) H':=by
  intro H' hI hc1
  refine ah.J0_step ?_
  simp [hc1,cy]
  exact L1 _ 0 H' (kK s c) _ _ _ _ _ rfl (Nat.zero_le _) rfl (by simpa using hls) hI
 have run:∃ r H',ar Tryz.prog σ b_ [.ptr id 0,.agg (cR c),I (d:Int)] H r H'∧K r H':=by
  refine ah.run ?_
  simp [cy,bS,eK,hne,Ne.symm hne,hid,W3.cells]
  have e1:wr .i64 (s.a+c.ids.length)=s.a+c.ids.length:=eg (by omega) (by omega)
  have e2:wr .i64 ((c.classes.length:Int)+c.attrs.length)=c.classes.length+c.attrs.length:=eg (by omega) (by omega)
  have e3:wr .i64 (s.b+((c.classes.length:Int)+c.attrs.length))=s.b+(c.classes.length+c.attrs.length):=eg (by omega) (by omega)
  have e4:wr .i64 (s.c+1)=s.c+1:=eg (by omega) (by omega)
  simp only [e1,e2,e3,e4]
  have hj':∀ j,j<H.n→j≠H.n:=fun j hj=>by omega
  split
  ·rename_i ht
   exact fin _ ⟨by simp [W3.cells,kK,ht],fun j hj hjl=>by simp [hj,hj' j hjl],by simp⟩ (by simp [cy,Ne.symm hne])
  ·rename_i ht
   exact fin _ ⟨by simp [W3.cells,kK,ht],fun j hj hjl=>by simp [hj,hj' j hjl],by simp⟩ (by simp [cy,Ne.symm hne])
 obtain ⟨r,H',hg',rfl,hh⟩:=run
 exact ⟨H',hg',hh⟩
theorem tE {d:Nat} (hd:d≤8) {g:Sl→Int} {P:Sl→Prop} (hg:d≠0→∀ x,P x→(∀ H,ar Tryz.prog σ dC [.agg (aI x),I ((d - 1:Nat):Int)] H (I (g x)) H)∧0≤g x∧g x≤16777215)
  (x:Sl) (hw:pJ gW x) (h60:x.length≤400) (hfit:∀ p ∈ x,Bt p.c) (hP:d≠0→∀ p ∈ x,∀ q ∈ p.c.pseudos,∀ y ∈ q.list,P y) :
  (∀ H,ar Tryz.prog σ dC [.agg (aI x),I (d:Int)] H (I (slW g (decide (d=0)) x)) H)∧0≤slW g (decide (d=0)) x∧slW g (decide (d=0)) x≤16777215:=by
 let F:Nat→W3:=fun k=>(x.take k).foldl (fun s p=>cpW g (decide (d=0)) s p.c) ⟨0,0,0⟩
 let K:AV→Hp→Prop:=fun r _=>r=I (slW g (decide (d=0)) x)∧0≤slW g (decide (d=0)) x∧slW g (decide (d=0)) x≤16777215
 have L0:∀ (n k:Nat) (H:Hp) (id:Nat),x.length - k=n→k≤x.length→(F k).Bd (3000*k)→H.get id=some (.cells (F k).cells true)→id<H.n →
   dk.L0 σ K (I (d:Int)) (.ptr id 0) (.imm 6 (x.map ba)) (I x.length) (I k) H:=by
  intro n
  induction n with
  | zero =>
   intro k H id hn hk hb hid hlt
   have e:k=x.length:=by omega
   subst e
   refine dk.L0_step ?_
   simp [hid,cr,W3.cells]
   refine ap (uF hb _) ?_
   have e2:ii (F x.length)=slW g (decide (d=0)) x:=by simp only [F,List.take_length]; rfl
   have:=sp hb
   rw [e2] at this
   exact ⟨by rw [e2],this⟩
  | succ n ih =>
   intro k H id hn hk hb hid hlt
   have hklt:k<x.length:=by omega
   obtain ⟨p,hp⟩:=bQ hklt
   have hmem:=List.mem_of_getElem? hp
   have hpw:=(Pt.wf_iff.1 (hw.2 p hmem)).2
   have hne:id≠H.n:=by omega
   refine dk.L0_step ?_
   simp [cj hp,aE,hklt]
   obtain ⟨H',hg',hI,hb'⟩:=qe (σ:=σ) hd hg hpw (hfit p hmem) (fun h0 q hq y hy=>hP h0 p hmem q hq y hy) hb (by omega) (H:=(H.new (.cells [I 0,.lit (.string ⟨#[]⟩),.lit (.slice none 0 0),.lit (.slice none 0 0),.lit (.slice none 0 0),.lit (.slice none 0 0)] true)).set H.n (some (.cells (ba p) true))) (id:=id) (by simp [hne,hid]) (by simp; omega)
   refine ap hg' ?_
   rw [dE hklt hw.1]
   have hF:F (k+1)=cpW g (decide (d=0)) (F k) p.c:=by
    simp only [F]
    rw [List.take_add_one,hp]
    simp only [Option.toList_some,List.foldl_append,List.foldl_cons,List.foldl_nil]
   obtain ⟨i1,i2,i3⟩:=hI
   refine ih (k+1) H' id (by omega) (by omega) ?_ (by rw [hF]; exact i1) (by simp at i3; omega)
   rw [hF]
   obtain ⟨⟨a0,a1⟩,⟨b0,b1⟩,c0,c1⟩:=hb'
   exact ⟨⟨a0,by omega⟩,⟨b0,by omega⟩,c0,by omega⟩
 have run:∃ r H1,ar Tryz.prog σ dC [.agg (aI x),I (d:Int)] Hp.empty r H1∧K r H1:=by
  refine dk.run ?_
  simp [aI]
  refine L0 _ 0 _ _ rfl (Nat.zero_le _) ⟨⟨by simp [F],by simp [F]⟩,⟨by simp [F],by simp [F]⟩,by simp [F],by simp [F]⟩ ?_ (by simp)
  simp [F,W3.cells]
 obtain ⟨r,H1,hg',rfl,hb⟩:=run
 exact ⟨fun H=>hg'.over (by simp [aC,bf,jC]) rfl H,hb⟩
theorem Bz:∀ (d:Nat),d≤8→∀ (f:Nat) (x:Sl),d≤f→pJ gW x→vI f x→(∀ H,ar Tryz.prog σ dC [.agg (aI x),I (d:Int)] H (I (ofW d x)) H)∧0≤ofW d x∧ofW d x≤16777215
 | 0,hd,f,x,hf,hw,hfit=>tE (P:=fun _=>False) hd (g:=fun _=>0) (fun h=>absurd rfl h) x hw (by have:=hfit.1; omega) (fun p hp=>(hfit.2 p hp).1.wide) (fun h=>absurd rfl h)
 | d+1,hd,f,x,hf,hw,hfit=>by
  refine tE (d:=d+1) (P:=fun y=>pJ gW y∧vI (f - 1) y) hd (g:=ofW d) (fun _ y hy=>Bz d (by omega) (f - 1) y (by omega) hy.1 hy.2) x hw (by have:=hfit.1; omega) (fun p hp=>(hfit.2 p hp).1.wide) (fun _ p hp q hq y hy=>?_)
  have hpw:=(Pt.wf_iff.1 (hw.2 p hp)).2
  have hqw:=(Ps.wf_iff.1 (hpw.ps q hq)).2.2.2
  refine ⟨hqw.2 y hy,?_⟩
  have:=(hfit.2 p hp).2 q hq
  obtain ⟨f',rfl⟩:∃ f',f=f'+1:=⟨f - 1,by omega⟩
  exact this y hy
theorem K2 {f:Nat} {x:Sl} (hf:8≤f) (hw:pJ gW x) (hfit:vI f x) (H:Hp):ar Tryz.prog σ iC [.agg (aI x)] H (I (ofW 8 x)) H:=by
 refine jy (mQ.run ?_) (by simp [aC,bf,jC]) rfl H
 simp
 exact ap ((Bz 8 (by omega) f x hf hw hfit).1 _) rfl
end Go.Proofs.YthdcghnjndhecaaGreat.Ev
namespace Go.Proofs.YthdcghnjndhecaaGreat.Ev
set_option linter.unusedVariables false
set_option linter.unusedSimpArgs false
variable {σ:Sig}
structure W1 (H:Hp) (s:W3) (H':Hp):Prop where
 n:H'.n=H.n
 g:H'.get 1=some (.cells s.cells true)
 o:∀ j,j≠1→H'.get j=H.get j
theorem W1.trans {H H1 H2:Hp} {s s':W3} (h:W1 H s H1) (h':W1 H1 s' H2):W1 H s' H2:=⟨h'.n.trans h.n,h'.g,fun j hj=>(h'.o j hj).trans (h.o j hj)⟩
end Go.Proofs.YthdcghnjndhecaaGreat.Ev
namespace Go.Proofs.YthdcghnjndhecaaGreat.Ev
set_option linter.unusedVariables false
set_option linter.unusedSimpArgs false
variable {σ:Sig}
structure RI (x:Sl) (s:W3) (H:Hp):Prop where
 g0:H.get 0=some (.cells (aI x) true)
 g1:H.get 1=some (.cells s.cells true)
 n:2≤H.n
theorem RI.step {x:Sl} {s s':W3} {H H':Hp} (h:RI x s H) (w:W1 H s' H'):RI x s' H':=⟨(w.o 0 (by decide)).trans h.g0,w.g,by rw [w.n]; exact h.n⟩
theorem RI.new {x:Sl} {s:W3} {H:Hp} (h:RI x s H) (b:Blk) (o:Option Blk):RI x s ((H.new b).set H.n o):=by
 have:=h.n
 have e0:(0:Nat)≠H.n:=by omega
 have e1:(1:Nat)≠H.n:=by omega
 refine ⟨?_,?_,?_⟩
 ·simp [e0,h.g0]
 ·simp [e1,h.g1]
 ·show 2≤H.n+1
  omega
theorem W3.Bd.mono {M N:Int} {s:W3} (h:s.Bd M) (hl:M≤N):s.Bd N:=by
 obtain ⟨⟨a0,a1⟩,⟨b0,b1⟩,c0,c1⟩:=h
 exact ⟨⟨a0,by omega⟩,⟨b0,by omega⟩,c0,by omega⟩
section
end
end Go.Proofs.YthdcghnjndhecaaGreat.Ev
namespace Go.Proofs.YthdcghnjndhecaaGreat.Ev
set_option linter.unusedVariables false
set_option linter.unusedSimpArgs false
variable {σ:Sig}
structure jF (l:List Sl):Prop where
 len:l.length≤2000000
 ok:∀ s ∈ l,th 11 [s]∧TxL 11 [s]
 wf:∀ s ∈ l,pJ gW s
 fit:∀ s ∈ l,vI 10 s
theorem JB {s:Sl} (hw:pJ gW s) (hf:vI 10 s):0≤ofW 8 s∧ofW 8 s≤16777215:=(Bz (σ:=⟨fun _=>0,fun _=>false,fun _=>⟨#[]⟩,none⟩) 8 (by decide) 10 s (by decide) hw hf).2
def dU (L:List Nd) (e:Int):List Sl→Int × Bool→Int × Bool
 | [],a=>a
 | s::r,a=>dU L e r (if JQ L 11 s e then (if a.1<ofW 8 s then ofW 8 s else a.1,true) else a)
section
attribute [local irreducible] aL.L0 aL.J1
theorem FQ {L:List Nd} {d:List Nat} (M:McT σ L d) {l:List Sl} (hl:jF l) (e:Int) (H:Hp) :
  ar Tryz.prog σ fK [bq L d,I e,sls l] H (.tup [I (dU L e l (0,false)).1,Bo (dU L e l (0,false)).2]) H:=by
 refine bI (fun K hK=>aL.run ?_) (by simp [aC,bf,bK]) rfl H
 have hll:=hl.len
 rw [tV,ae]
 have L0:∀ (f k:Nat) (H:Hp) (a:Int × Bool),l.length - k=f→k≤l.length→dU L e (l.drop k) a=dU L e l (0,false)→aL.L0 σ K (bq L d) (I e) (I a.1) (Bo a.2) (sls l) (I (l.length:Int)) (I (k:Int)) H:=by
  intro f
  induction f with
  | zero =>
   intro k H a hf hk ha
   have:k=l.length:=by omega
   subst this
   rw [List.drop_length] at ha
   refine aL.L0_step ?_
   simp only [c9,ae,Int.lt_irrefl,decide_false,aq,Bool.false_eq_true,if_false]
   rw [← ha] at hK
   exact hK _
  | succ f ih =>
   intro k H a hf hk ha
   have hlt:k<l.length:=by omega
   have hlt':(k:Int)<l.length:=by omega
   obtain ⟨s,hs⟩:=bQ hlt
   have hsm:=List.mem_of_getElem? hs
   have hix:aV 1 (sls l) (I (k:Int))=some (.ip (aI s)):=cj hs
   rw [cn hs,dU] at ha
   refine aL.L0_step ?_
   simp only [c9,ae,hlt',decide_true,aq,if_true,hix,fT,ni,bG]
   obtain ⟨H2,hH2⟩:∃ H2,H2=(H.new (.cells [.lit (.slice none 0 0)] true)).set H.n (some (.cells (aI s) true)):=⟨_,rfl⟩
   refine cH (x:=H2) ?_ ?_
   ·rw [fB,hH2]
    simp only [bt,if_true]
    rfl
   have hl2:ldA true 1 H2 (.ptr H.n 0)=some (.agg (aI s)):=by rw [hH2]; simp
   have next:∀ (H:Hp) (a:Int × Bool),dU L e (l.drop (k+1)) a=dU L e l (0,false)→aL.J1 σ K (bq L d) (I e) (I a.1) (Bo a.2) (sls l) (I (l.length:Int)) (I (k:Int)) H:=by
    intro H a ha
    refine aL.J1_step ?_
    rw [ia,ae,df (by omega)]
    exact ih (k+1) H a (by omega) (by omega) ha
   rw [hl2,ae]
   obtain ⟨S,X⟩:=hl.ok s hsm
   refine ap (IA M S e _) ?_
   simp only [aq]
   cases hsel:JQ L 11 s e with
   | false =>
    rw [hsel] at ha
    simp only [Bool.false_eq_true,if_false] at ha ⊢
    exact next _ a ha
   | true =>
    rw [hsel] at ha
    simp only [if_true] at ha ⊢
    rw [hl2,ae]
    refine ap (K2 (f:=10) (by decide) (hl.wf s hsm) (hl.fit s hsm) _) ?_
    have hmax:pa [I a.1,I (ofW 8 s)]=some (I (if a.1<ofW 8 s then ofW 8 s else a.1)):=by simp [pa,toI,gC]
    rw [hmax,ae]
    exact next _ (_,true) ha
 exact L0 _ 0 _ (0,false) rfl (Nat.zero_le _) rfl
end
end Go.Proofs.YthdcghnjndhecaaGreat.Ev
namespace Go.Proofs.YthdcghnjndhecaaGreat.Ev
set_option linter.unusedVariables false
set_option linter.unusedSimpArgs false
variable {σ:Sig}
structure Wn where
 o:List Int
 w:List Int
 t:List Bool
structure Wn.Ok (s:Wn):Prop where
 o:s.o.length=16
 w:s.w.length=8
 t:s.t.length=8
def d7 (w:Int) (s:Wn) (q:ST):Wn :=
 if q.prop<0∨8≤q.prop then s
 else if s.t.getD q.prop.toNat false=true∧(if q.imp then w+1073741824 else w)<s.w.getD q.prop.toNat 0 then s
 else ⟨(s.o.set (q.prop.toNat*2) q.kind).set (q.prop.toNat*2+1) q.n,s.w.set q.prop.toNat (if q.imp then w+1073741824 else w),s.t.set q.prop.toNat true⟩
def iS (L:List Nd) (e:Int) (s:Wn) (r:RL):Wn:=if (dU L e r.sels (0,false)).2 then r.sets.foldl (d7 (dU L e r.sels (0,false)).1) s else s
def wn0:Wn:=⟨List.replicate 16 0,List.replicate 8 0,List.replicate 8 false⟩
def iZ (L:List Nd) (e:Int) (m:List RL):Wn:=m.foldl (iS L e) wn0
theorem iy {w:Int} {s:Wn} {q:ST} (h:s.Ok):(d7 w s q).Ok:=by
 unfold d7
 generalize (if q.imp=true then w+1073741824 else w)=x
 split
 ·exact h
 split
 ·exact h
 ·exact ⟨by simp [h.o],by simp [h.w],by simp [h.t]⟩
theorem JP:∀ (cs:List AV) (i:Nat) (x y:AV),i+1<cs.length→aP cs i [x,y]=(cs.set i x).set (i+1) y:=by
 intro cs i x y h
 unfold aP
 apply List.ext_getElem?
 intro j
 simp only [List.getElem?_append,List.length_take,List.length_append,List.getElem?_take,List.getElem?_drop,List.getElem?_set,List.length_set,List.length_cons,List.length_nil]
 have hm:min i cs.length=i:=by omega
 rw [hm]
 by_cases h1:j<i
 ·have:j<i+(0+1+1):=by omega
  have e1:i+1≠j:=by omega
  have e2:i≠j:=by omega
  simp [h1,this,e1,e2]
 ·by_cases h2:j=i
  ·subst h2
   have:j<cs.length:=by omega
   simp [this]
  ·by_cases h3:j=i+1
   ·subst h3
    have e1:¬ i+1<i:=by omega
    simp [h,e1]
   ·have e1:¬ j<i+(0+1+1):=by omega
    have e2:i+1≠j:=by omega
    have e3:i≠j:=by omega
    simp [e1,e2,e3]
    congr 1
    omega
structure WI (s:Wn) (H:Hp):Prop where
 g0:H.get 0=some (.cells (List.replicate 16 (I 0)) true)
 g1:H.get 1=some (.cells (s.o.map I) true)
 g2:H.get 2=some (.cells (s.w.map I) true)
 g3:H.get 3=some (.cells (s.t.map Bo) true)
 n:4≤H.n
theorem WI.new {s:Wn} {H:Hp} (h:WI s H) (b:Blk) (o:Option Blk):WI s ((H.new b).set H.n o):=by
 have:=h.n
 have e0:(0:Nat)≠H.n:=by omega
 have e1:(1:Nat)≠H.n:=by omega
 have e2:(2:Nat)≠H.n:=by omega
 have e3:(3:Nat)≠H.n:=by omega
 refine ⟨?_,?_,?_,?_,?_⟩
 ·simp [e0,h.g0]
 ·simp [e1,h.g1]
 ·simp [e2,h.g2]
 ·simp [e3,h.g3]
 ·show 4≤H.n+1
  omega
section
end
end Go.Proofs.YthdcghnjndhecaaGreat.Ev
namespace Go.Proofs.YthdcghnjndhecaaGreat.Ev
set_option linter.unusedVariables false
set_option linter.unusedSimpArgs false
variable {σ:Sig}
structure Cn where
 prop:Int
 kind:Int
 n:Int
 imp:Bool
 wt:Int
def bo (c:Cn):List AV:=[I c.prop,I c.kind,I c.n,Bo c.imp,I c.wt]
def cn0:Cn:=⟨0,0,0,false,0⟩
def Cn.x (c:Cn):Int:=if c.imp then c.wt+1073741824 else c.wt
theorem zl (c d:Cn) (H:Hp):ar Tryz.prog σ bZ [.agg (bo c),.agg (bo d)] H (Bo (if c.imp=d.imp then decide (d.wt≤c.wt) else c.imp)) H:=by
 refine bI (fun K hK=>dj.run ?_) (by simp [aC,bf,bo]) rfl H
 simp only [fk]
 have h0:((Hp.empty.new (.cells (bo c) true)).new (.cells (bo d) true)).get 0=some (.cells (bo c) true):=by simp [Hp.empty]
 have h1:((Hp.empty.new (.cells (bo c) true)).new (.cells (bo d) true)).get 1=some (.cells (bo d) true):=by simp [Hp.empty]
 have e0:Hp.empty.n=0:=rfl
 have e1:(Hp.empty.new (.cells (bo c) true)).n=1:=rfl
 rw [e0,e1]
 have l1:ldA false 1 ((Hp.empty.new (.cells (bo c) true)).new (.cells (bo d) true)) (.ptr 0 (0+0+3))=some (Bo c.imp):=by rw [aW,h0]; rfl
 have l2:ldA false 1 ((Hp.empty.new (.cells (bo c) true)).new (.cells (bo d) true)) (.ptr 1 (0+0+3))=some (Bo d.imp):=by rw [aW,h1]; rfl
 have l3:ldA false 1 ((Hp.empty.new (.cells (bo c) true)).new (.cells (bo d) true)) (.ptr 0 (0+4))=some (I c.wt):=by rw [aW,h0]; rfl
 have l4:ldA false 1 ((Hp.empty.new (.cells (bo c) true)).new (.cells (bo d) true)) (.ptr 1 (0+4))=some (I d.wt):=by rw [aW,h1]; rfl
 simp only [cM,ae,l1,l2,l3,l4,Ej,aq,oW]
 by_cases h:c.imp=d.imp
 ·rw [if_pos h] at hK
  simp only [h,beq_self_eq_true,Bool.not_true,Bool.false_eq_true,if_false]
  exact hK _
 ·rw [if_neg h] at hK
  have:(c.imp == d.imp)=false:=by simpa using h
  simp only [this,Bool.not_false,if_true]
  exact hK _
structure RS (n:Nat) (t e l x a:AV) (js:Nat→AV) (bs:List Cn) (s:Wn) (H:Hp):Prop where
 gt:H.get n=some (.cells [t] true)
 ge:H.get (n+1)=some (.cells [e] true)
 gl:H.get (n+2)=some (.cells [l] true)
 gx:H.get (n+3)=some (.cells [x] true)
 ga:H.get (n+4)=some (.cells [a] true)
 gr:H.get (n+5)=some (.cells (List.replicate 16 (I 0)) true)
 go:H.get (n+6)=some (.cells (s.o.map I) true)
 gb:H.get (n+7)=some (.cells (bs.map bo).flatten true)
 gs:H.get (n+8)=some (.cells (s.t.map Bo) true)
 lp:H.get (n+9)=some (.loop (aw.R0 js (.ptr (n+6) 0) (.ptr (n+7) 0) (.ptr (n+8) 0)) .ready none)
 up:n+10≤H.n
 ok:s.Ok
 bl:bs.length=8
 bw:∀ p,p<8→s.t.getD p false=true→∃ c,bs[p]?=some c∧c.x=s.w.getD p 0∧0≤c.wt∧c.wt≤16777215
theorem RS.keep {n:Nat} {t e l x a:AV} {js:Nat→AV} {bs:List Cn} {s:Wn} {H H':Hp} (h:RS n t e l x a js bs s H) (hg:∀ j,n≤j→j<n+10→H'.get j=H.get j) (hn:H.n≤H'.n):RS n t e l x a js bs s H' :=
 ⟨by rw [hg _ (by omega) (by omega)]; exact h.gt,by rw [hg _ (by omega) (by omega)]; exact h.ge,by rw [hg _ (by omega) (by omega)]; exact h.gl,by rw [hg _ (by omega) (by omega)]; exact h.gx,by rw [hg _ (by omega) (by omega)]; exact h.ga,by rw [hg _ (by omega) (by omega)]; exact h.gr,by rw [hg _ (by omega) (by omega)]; exact h.go,by rw [hg _ (by omega) (by omega)]; exact h.gb,by rw [hg _ (by omega) (by omega)]; exact h.gs,by rw [hg _ (by omega) (by omega)]; exact h.lp,by have:=h.up; omega,h.ok,h.bl,h.bw⟩
theorem pR (bs:List Cn):∀ r ∈ bs.map bo,r.length=5:=by
 intro r hr
 obtain ⟨c,_,rfl⟩:=List.mem_map.1 hr
 rfl
theorem rC (bs:List Cn):(bs.map bo).flatten.length=bs.length*5:=by
 rw [bW (pR bs),List.length_map]
theorem AK {n:Nat} {t e l x a:AV} {js:Nat→AV} {bs:List Cn} {s:Wn} {H:Hp} (h:RS n t e l x a js bs s H) {q:ST} {w:Int} (hw:0≤w∧w≤16777215) {K:AV→Hp→Prop}
  (hK:∀ H' bs',RS n t e l x a js bs' (d7 w s q) H'→H.n≤H'.n→(∀ j,j<H.n→(j<n∨n+10≤j)→H'.get j=H.get j)→K (Bo true) H'):fp Tryz.prog σ (.yl (n+9)) [.agg [I q.prop,I q.kind,I q.n,Bo q.imp,I w]] H K:=by
 refine aw.R0_round h.lp ?_
 have hup:=h.up
 obtain ⟨c,hc⟩:∃ c:Cn,c=⟨q.prop,q.kind,q.n,q.imp,w⟩:=⟨_,rfl⟩
 have ec:[I q.prop,I q.kind,I q.n,Bo q.imp,I w]=bo c:=by rw [hc]; rfl
 rw [ec]
 simp only [bG]
 obtain ⟨H3,hH3⟩:∃ H3,H3=(H.new (.cells [I 0,I 0,I 0,.lit (.bool false),I 0] true)).set H.n (some (.cells (bo c) true)):=⟨_,rfl⟩
 have st:stA 5 (H.new (.cells [I 0,I 0,I 0,.lit (.bool false),I 0] true)) (.ptr H.n 0) (.agg (bo c))=some H3:=by
  rw [fB,hH3]; simp [bo]; rfl
 have n3:H3.n=H.n+1:=by rw [hH3]; rfl
 have g3:∀ j,H3.get j=if j=H.n then some (.cells (bo c) true) else H.get j:=by
  intro j
  rw [hH3]
  by_cases e:j=H.n
  ·subst e; simp
  ·simp [e]
 clear hH3
 simp only [st,ae]
 refine ⟨by rw [g3,if_neg (by omega)]; exact h.lp,?_⟩
 obtain ⟨H4,hH4⟩:∃ H4,H4=H3.set (n+9) (some (.loop (aw.R0 js (.ptr (n+6) 0) (.ptr (n+7) 0) (.ptr (n+8) 0)) .busy none)):=⟨_,rfl⟩
 rw [← hH4]
 have n4:H4.n=H.n+1:=by rw [hH4]; exact n3
 have g4:∀ j,j≠n+9→H4.get j=if j=H.n then some (.cells (bo c) true) else H.get j:=by
  intro j hj
  rw [hH4,ay,if_neg hj,g3]
 have gl4:H4.get (n+9)=some (.loop (aw.R0 js (.ptr (n+6) 0) (.ptr (n+7) 0) (.ptr (n+8) 0)) .busy none):=by rw [hH4,ay,if_pos rfl]
 clear hH4
 have gc4:H4.get H.n=some (.cells (bo c) true):=by rw [g4 _ (by omega),if_pos rfl]
 have go4:H4.get (n+6)=some (.cells (s.o.map I) true):=by rw [g4 _ (by omega),if_neg (by omega)]; exact h.go
 have gb4:H4.get (n+7)=some (.cells (bs.map bo).flatten true):=by rw [g4 _ (by omega),if_neg (by omega)]; exact h.gb
 have gs4:H4.get (n+8)=some (.cells (s.t.map Bo) true):=by rw [g4 _ (by omega),if_neg (by omega)]; exact h.gs
 have fin:∀ (H5:Hp) (bs':List Cn) (s':Wn),H5.n=H4.n→(∀ j,j≠n+6→j≠n+7→j≠n+8→H5.get j=H4.get j)→H5.get (n+6)=some (.cells (s'.o.map I) true)→H5.get (n+7)=some (.cells (bs'.map bo).flatten true)→H5.get (n+8)=some (.cells (s'.t.map Bo) true) →
   s'=d7 w s q→bs'.length=8→(∀ p,p<8→s'.t.getD p false=true→∃ c,bs'[p]?=some c∧c.x=s'.w.getD p 0∧0≤c.wt∧c.wt≤16777215) →
   fE (n+9) (aw.R0 js (.ptr (n+6) 0) (.ptr (n+7) 0) (.ptr (n+8) 0)) K .normal H5:=by
  intro H5 bs' s' e1 e2 e3 e4 e5 e6 e7 e8
  rw [oc]
  refine ⟨by rw [e2 _ (by omega) (by omega) (by omega)]; exact gl4,?_⟩
  have old:∀ j,j≠n+6→j≠n+7→j≠n+8→j≠n+9→j<H.n→(H5.set (n+9) (some (.loop (aw.R0 js (.ptr (n+6) 0) (.ptr (n+7) 0) (.ptr (n+8) 0)) .ready none))).get j=H.get j:=by
   intro j h1 h2 h3 h4 h5
   rw [ay,if_neg h4,e2 j h1 h2 h3,g4 j h4,if_neg (by omega)]
  refine hK _ bs' ?_ (by rw [Hp.n_set,e1,n4]; omega) fun j hj hr=>old j (by omega) (by omega) (by omega) (by omega) hj
  rw [← e6]
  refine ⟨by rw [old _ (by omega) (by omega) (by omega) (by omega) (by omega)]; exact h.gt,by rw [old _ (by omega) (by omega) (by omega) (by omega) (by omega)]; exact h.ge,by rw [old _ (by omega) (by omega) (by omega) (by omega) (by omega)]; exact h.gl,by rw [old _ (by omega) (by omega) (by omega) (by omega) (by omega)]; exact h.gx,by rw [old _ (by omega) (by omega) (by omega) (by omega) (by omega)]; exact h.ga,by rw [old _ (by omega) (by omega) (by omega) (by omega) (by omega)]; exact h.gr,by rw [ay,if_neg (by omega)]; exact e3,by rw [ay,if_neg (by omega)]; exact e4,by rw [ay,if_neg (by omega)]; exact e5,by rw [ay,if_pos rfl],by rw [Hp.n_set,e1,n4]; omega,by rw [e6]; exact iy h.ok,e7,e8⟩
 have same:s=d7 w s q→fE (n+9) (aw.R0 js (.ptr (n+6) 0) (.ptr (n+7) 0) (.ptr (n+8) 0)) K .normal H4:=fun e =>
  fin H4 bs s rfl (fun _ _ _ _=>rfl) go4 gb4 gs4 e h.bl h.bw
 have l7:ldA false 1 H4 (.ptr H.n (0+0+0))=some (I q.prop):=by rw [aW,gc4,hc]; rfl
 simp only [cM,ae,l7,c9,aq,oW,decide_eq_true_eq]
 by_cases h0:q.prop<0
 ·rw [if_pos h0]
  exact same (by unfold d7; rw [if_pos (.inl h0)])
 rw [if_neg h0]
 by_cases h8:8≤q.prop
 ·rw [if_pos h8]
  exact same (by unfold d7; rw [if_pos (.inr h8)])
 rw [if_neg h8]
 obtain ⟨p,hp⟩:∃ p:Nat,q.prop=p:=⟨q.prop.toNat,by omega⟩
 have hp8:p<8:=by omega
 have hpt:q.prop.toNat=p:=by omega
 have ol:=h.ok.o
 have wl:=h.ok.w
 have tl:=h.ok.t
 have bl:=h.bl
 have lt4:ldA false 1 H4 (.ptr (n+8) p)=some (Bo (s.t.getD p false)):=by
  rw [aW,gs4,bm,tu (by omega)]
  simp [show p<s.t.length by omega]
 have lc4:∀ H5:Hp,H5.get H.n=some (.cells (bo c) true)→ldA true 5 H5 (.ptr H.n 0)=some (.agg (bo c)):=fun H5 h=>by rw [aW,h]; rfl
 have lv4:∀ H5:Hp,H5.get H.n=some (.cells (bo c) true)→ldA true 2 H5 (.ptr H.n (0+0+1))=some (.agg [I q.kind,I q.n]):=fun H5 h=>by rw [aW,h,hc]; rfl
 have stores:∀ (H5:Hp),H5=H4→(¬ (s.t.getD p false=true∧(if q.imp then w+1073741824 else w)<s.w.getD p 0)) →
   bnd (stA 5 H5 (.ptr (n+7) (0+p*5)) (.agg (bo c))) fun H15=>bnd (stA 1 H15 (.ptr (n+8) (0+p*1)) (Bo true)) fun H17=>bnd (ldA true 2 H17 (.ptr H.n (0+0+1))) fun x20=>bnd (stA 2 H17 (.ptr (n+6) (0+p*2)) x20) fun H22=>fE (n+9) (aw.R0 js (.ptr (n+6) 0) (.ptr (n+7) 0) (.ptr (n+8) 0)) K .normal H22:=by
  intro H5 e5 hno
  subst e5
  have hpb:p<(bs.map bo).length:=by simp; omega
  have ovb:aP (bs.map bo).flatten (p*5+0) (bo c)=((bs.set p c).map bo).flatten:=by
   rw [eI (sz:=5) (by simp [bo]) (pR bs) hpb]
   rw [aE (by rw [pR bs _ (List.getElem_mem hpb)]; rfl),List.map_set]
  have s1:stA 5 H5 (.ptr (n+7) (0+p*5)) (.agg (bo c))=some (H5.set (n+7) (some (.cells ((bs.set p c).map bo).flatten true))):=by
   rw [fB,gb4,show 0+p*5=p*5+0 by omega]
   simp only [cq,ovb]
   rw [if_pos (by rfl),if_pos ⟨by rw [rC,bl]; simp [bo]; omega,by simp [bo]⟩]
  have g5:∀ b,(H5.set (n+7) b).get (n+8)=H5.get (n+8):=fun b=>by simp
  have s2:stA 1 (H5.set (n+7) (some (.cells ((bs.set p c).map bo).flatten true))) (.ptr (n+8) (0+p*1)) (Bo true)=some ((H5.set (n+7) (some (.cells ((bs.set p c).map bo).flatten true))).set (n+8) (some (.cells ((s.t.set p true).map Bo) true))):=by
   rw [pm,g5,gs4,cq,if_pos ⟨by simp; omega,rfl⟩,show 0+p*1=p by omega,xT true (by omega)]
  have g6:((H5.set (n+7) (some (.cells ((bs.set p c).map bo).flatten true))).set (n+8) (some (.cells ((s.t.set p true).map Bo) true))).get H.n=some (.cells (bo c) true):=by
   have e1:H.n≠n+7:=by omega
   have e2:H.n≠n+8:=by omega
   simp [e1,e2,gc4]
  have g7:((H5.set (n+7) (some (.cells ((bs.set p c).map bo).flatten true))).set (n+8) (some (.cells ((s.t.set p true).map Bo) true))).get (n+6)=some (.cells (s.o.map I) true):=by
   simp [go4]
  have ovo:aP (s.o.map I) (0+p*2) [I q.kind,I q.n]=((s.o.set (p*2) q.kind).set (p*2+1) q.n).map I:=by
   rw [Nat.zero_add,JP _ _ _ _ (by simp; omega),List.map_set,List.map_set]
  simp only [s1,ae,s2,lv4 _ g6]
  rw [fB,g7]
  rw [if_pos (show [I q.kind,I q.n].length=2 from rfl),cq,if_pos ⟨by simp; omega,rfl⟩,ovo,ae]
  have es:d7 w s q=⟨(s.o.set (p*2) q.kind).set (p*2+1) q.n,s.w.set p (if q.imp then w+1073741824 else w),s.t.set p true⟩:=by
   unfold d7
   rw [if_neg (by omega),hpt,if_neg hno]
  refine fin _ (bs.set p c) (d7 w s q) (by simp) (fun j h1 h2 h3=>by simp [h1,h2,h3]) (by rw [es]; simp) (by simp) (by rw [es]; simp) rfl (by simpa using bl) fun r hr ht=>?_
  rw [es] at ht ⊢
  simp only at ht ⊢
  by_cases e:r=p
  ·subst e
   refine ⟨c,by simp [bl,hr],?_,by rw [hc]; exact hw.1,by rw [hc]; exact hw.2⟩
   rw [hc]
   simp [Cn.x,wl,hr]
  ·have ht':s.t.getD r false=true:=by
    rw [← ht]
    simp only [List.getD_eq_getElem?_getD,List.getElem?_set_ne (Ne.symm e)]
   obtain ⟨c',h1,h2,h3⟩:=h.bw r hr ht'
   refine ⟨c',by rw [List.getElem?_set_ne (Ne.symm e)]; exact h1,?_,h3⟩
   rw [h2]
   simp only [List.getD_eq_getElem?_getD,List.getElem?_set_ne (Ne.symm e)]
 rw [hp]
 simp only [AT hp8,cM,ae,Nat.mul_one,Nat.zero_add,lt4,fW,aq]
 simp only [Nat.mul_one,Nat.zero_add] at stores
 by_cases ht:s.t.getD p false=true
 ·simp only [ht,Bool.not_true,Bool.false_eq_true,if_false]
  obtain ⟨c',h1,h2,h3⟩:=h.bw p hp8 ht
  have hpb:p<(bs.map bo).length:=by simp; omega
  have lb:ldA true 5 H4 (.ptr (n+7) (p*5))=some (.agg (bo c')):=by
   rw [aW,gb4,bm,ic (pR bs) hpb]
   have:(bs.map bo)[p]=bo c':=by
    obtain ⟨hlt,rfl⟩:=List.getElem?_eq_some_iff.1 h1
    simp
   rw [this]
   rfl
  simp only [lc4 H4 gc4,ae,lb]
  refine ap (zl c c' _) ?_
  have hb:(if c.imp=c'.imp then decide (c'.wt≤c.wt) else c.imp)=true ↔ ¬ ((if q.imp then w+1073741824 else w)<s.w.getD p 0):=by
   rw [← h2,hc]
   unfold Cn.x
   simp only
   cases q.imp<;>cases c'.imp<;>simp<;>omega
  by_cases hbt:(if c.imp=c'.imp then decide (c'.wt≤c.wt) else c.imp)=true
  ·rw [hbt]
   simp only [aq,if_true,lc4 H4 gc4,ae]
   exact stores H4 rfl fun hh=>hb.1 hbt hh.2
  ·have:(if c.imp=c'.imp then decide (c'.wt≤c.wt) else c.imp)=false:=Bool.eq_false_iff.2 hbt
   rw [this]
   simp only [aq,Bool.false_eq_true,if_false]
   refine same ?_
   unfold d7
   rw [if_neg (by omega),hpt,if_pos]
   refine ⟨ht,Decidable.byContradiction fun hh=>hbt (hb.2 hh)⟩
 ·have htf:s.t.getD p false=false:=by simpa using ht
  simp only [htf,Bool.not_false,if_true,lc4 H4 gc4,ae]
  exact stores H4 rfl fun hh=>ht hh.1
end Go.Proofs.YthdcghnjndhecaaGreat.Ev
namespace Go.Proofs.YthdcghnjndhecaaGreat.Ev
set_option linter.unusedVariables false
set_option linter.unusedSimpArgs false
variable {σ:Sig}
def tB (n:Int):List AV:=[I n]
def dT (l:List Int):AV:=.imm 1 (l.map tB)
@[simp] theorem Ka (l:List Int):bf (dT l)=true:=by unfold dT; simp only [bf]; exact bi _ (fun _=>rfl) l
@[simp] theorem yb (l:List Int):aY (dT l)=some (.lit (.int .i64 l.length)):=by simp [dT]
def ri (L:List Nd) (e:Int) (ask:Sl→Bool) (s:Wn) (r:RL):Wn:=if (dU L e (r.sels.filter ask) (0,false)).2 then r.sets.foldl (d7 (dU L e (r.sels.filter ask) (0,false)).1) s else s
def mO (L:List Nd) (e:Int) (ask:Sl→Bool) (l:List RL) (s:Wn) (i:Int):Wn:=if i<0 then s else match l[i.toNat]? with
 | some r=>ri L e ask s r
 | none=>s
theorem jF.filter {l:List Sl} (h:jF l) (p:Sl→Bool):jF (l.filter p) :=
 ⟨Nat.le_trans (List.length_filter_le _ _) h.len,fun s hs=>h.ok s (List.mem_filter.1 hs).1,fun s hs=>h.wf s (List.mem_filter.1 hs).1,fun s hs=>h.fit s (List.mem_filter.1 hs).1⟩
theorem rb {L:List Nd} {e:Int}:∀ {l:List Sl},jF l→∀ a:Int × Bool,0≤a.1∧a.1≤16777215→0≤(dU L e l a).1∧(dU L e l a).1≤16777215
 | [],_,a,ha=>ha
 | s::r,h,a,ha=>by
  have hs:=JB (h.wf s (by simp)) (h.fit s (by simp))
  have hr:jF r:=⟨by have:=h.len; rw [List.length_cons] at this; omega,fun s hs=>h.ok s (by simp [hs]),fun s hs=>h.wf s (by simp [hs]),fun s hs=>h.fit s (by simp [hs])⟩
  unfold dU
  refine rb hr _ ?_
  split
  ·simp only
   split<;>omega
  ·exact ha
section
attribute [local irreducible] aa.L0 aa.J1 aa.L2 aa.J3 aa.L4
theorem GZ {L:List Nd} {d:List Nat} (M:McT σ L d) {l:List RL} (hl:∀ r ∈ l,jF r.sels∧r.sets.length≤30) {n:Nat} {e:Int} {ask:Sl→Bool} {a:AV} {js:Nat→AV} {bs:List Cn} {s:Wn} {idx:List Int} {H:Hp}
  (h:RS n (bq L d) (I e) (rls l) (dT idx) a js bs s H) (P:Hp→Prop) (hP:P H) (Pst:∀ H H',P H→H.n≤H'.n→(∀ j,j<n→H'.get j=H.get j)→P H')
  (hask:∀ r ∈ l,∀ q ∈ r.sels,∀ (H:Hp) (K:AV→Hp→Prop),P H→n+10≤H.n→(∀ H',H.n≤H'.n→(∀ j,j<H.n→H'.get j=H.get j)→K (Bo (ask q)) H')→fp Tryz.prog σ a [.agg (aI q)] H K) (hidx:idx.length≤1000000)
  {K:AV→Hp→Prop} (hK:∀ H' bs',RS n (bq L d) (I e) (rls l) (dT idx) a js bs' (idx.foldl (mO L e ask l) s) H'→(∀ j,j<n→H'.get j=H.get j)→K (.tup []) H') :
  az Tryz.prog σ cA [.yl (n+9),.ptr (n+3) 0,.ptr (n+2) 0,.ptr (n+4) 0,.ptr n 0,.ptr (n+1) 0] H K:=by
 refine aa.run ?_
 have ldx:∀ {bs s H},RS n (bq L d) (I e) (rls l) (dT idx) a js bs s H→ldA false 1 H (.ptr (n+3) 0)=some (dT idx):=fun h=>by rw [aW,h.gx]; rfl
 have ldl:∀ {bs s H},RS n (bq L d) (I e) (rls l) (dT idx) a js bs s H→ldA false 1 H (.ptr (n+2) 0)=some (rls l):=fun h=>by rw [aW,h.gl]; rfl
 have lda:∀ {bs s H},RS n (bq L d) (I e) (rls l) (dT idx) a js bs s H→ldA false 1 H (.ptr (n+4) 0)=some a:=fun h=>by rw [aW,h.ga]; simp
 have ldt:∀ {bs s H},RS n (bq L d) (I e) (rls l) (dT idx) a js bs s H→ldA false 1 H (.ptr n 0)=some (bq L d):=fun h=>by rw [aW,h.gt]; simp
 have lde:∀ {bs s H},RS n (bq L d) (I e) (rls l) (dT idx) a js bs s H→ldA false 1 H (.ptr (n+1) 0)=some (I e):=fun h=>by rw [aW,h.ge]; rfl
 simp only [ldx h,ae,yb]
 obtain ⟨F,hF⟩:∃ F:Nat→Wn,∀ k,F k=(idx.take k).foldl (mO L e ask l) s:=⟨_,fun _=>rfl⟩
 obtain ⟨lw,hlw⟩:∃ lw:Hp→Prop,∀ H',lw H' ↔ ∀ j,j<n→H'.get j=H.get j:=⟨_,fun _=>Iff.rfl⟩
 have L0:∀ (f k:Nat) (H1:Hp) (bs:List Cn) (y8 y9 y12 y13 y34 y35 y36 y59 y60 y61:AV),idx.length - k=f→k≤idx.length→RS n (bq L d) (I e) (rls l) (dT idx) a js bs (F k) H1→P H1→lw H1 →
   aa.L0 σ K (.yl (n+9)) (.ptr (n+2) 0) (.ptr (n+4) 0) (.ptr n 0) (.ptr (n+1) 0) y8 y9 y12 y13 (dT idx) (I idx.length) (I (k:Int)) y34 y35 y36 y59 y60 y61 H1:=by
  intro f
  induction f with
  | zero =>
   intro k H1 bs y8 y9 y12 y13 y34 y35 y36 y59 y60 y61 hf hk hI hP1 hlo
   have:k=idx.length:=by omega
   subst this
   refine aa.L0_step ?_
   simp only [c9,ae,Int.lt_irrefl,decide_false,aq,Bool.false_eq_true,if_false]
   rw [hF,List.take_length] at hI
   exact hK H1 bs hI ((hlw H1).1 hlo)
  | succ f ih =>
   intro k H1 bs y8 y9 y12 y13 y34 y35 y36 y59 y60 y61 hf hk hI hP1 hlo
   have hkl:k<idx.length:=by omega
   have hkl':(k:Int)<idx.length:=by omega
   obtain ⟨i,hi⟩:=bQ hkl
   have hix:aV 1 (dT idx) (I (k:Int))=some (.ip (tB i)):=cj hi
   have lz:∀ H:Hp,ldA false 1 H (.ip (tB i))=some (I i):=fun _=>rfl
   have eF:F (k+1)=mO L e ask l (F k) i:=by rw [hF,hF,List.take_add_one,hi]; simp
   have J1:∀ (H1:Hp) (bs:List Cn) (y8 y9 y12 y13 y34 y35 y36 y59 y60 y61:AV),RS n (bq L d) (I e) (rls l) (dT idx) a js bs (F (k+1)) H1→P H1→lw H1 →
     aa.J1 σ K (.yl (n+9)) (.ptr (n+2) 0) (.ptr (n+4) 0) (.ptr n 0) (.ptr (n+1) 0) y8 y9 y12 y13 (dT idx) (I idx.length) (I (k:Int)) y34 y35 y36 y59 y60 y61 H1:=by
    intro H1 bs y8 y9 y12 y13 y34 y35 y36 y59 y60 y61 hI hP1 hlo
    refine aa.J1_step ?_
    simp only [ia,ae,df (show k<9000000000000000000 by omega)]
    exact ih (k+1) H1 bs _ _ _ _ _ _ _ _ _ _ (by omega) (by omega) hI hP1 hlo
   refine aa.L0_step ?_
   simp only [c9,ae,hkl',decide_true,aq,if_true,hix,lz,decide_eq_true_eq]
   by_cases h0:i<0
   ·rw [if_pos h0]
    exact J1 H1 bs _ _ _ _ _ _ _ _ _ _ (by rw [eF]; unfold mO; rw [if_pos h0]; exact hI) hP1 hlo
   rw [if_neg h0]
   simp only [ldl hI,ae,tS,oW,aq,decide_eq_true_eq]
   by_cases h1:(l.length:Int)≤i
   ·rw [if_pos h1]
    exact J1 H1 bs _ _ _ _ _ _ _ _ _ _ (by rw [eF]; unfold mO; rw [if_neg h0,List.getElem?_eq_none (by omega)]; exact hI) hP1 hlo
   rw [if_neg h1]
   obtain ⟨m0,hm0⟩:∃ m:Nat,i=m:=⟨i.toNat,by omega⟩
   obtain ⟨r,hr⟩:=bQ (show m0<l.length by omega)
   have hrm:=List.mem_of_getElem? hr
   have hrl:aV 2 (rls l) (I i)=some (.ip (iK r)):=by rw [hm0]; exact cj hr
   have lr0:∀ H:Hp,ldA false 1 H (.ip ((iK r).drop 0))=some (sls r.sels):=fun _=>rfl
   have lr1:∀ H:Hp,ldA false 1 H (.ip ((iK r).drop 1))=some (.imm 4 (r.sets.map aU)):=fun _=>rfl
   have eF2:F (k+1)=ri L e ask (F k) r:=by rw [eF]; unfold mO; rw [if_neg h0,hm0,Int.toNat_natCast,hr]
   obtain ⟨hws,hsets⟩:=hl r hrm
   have hwl:=hws.len
   simp only [hrl,ae,tA,lr0,tV]
   have L2:∀ (g m:Nat) (H1:Hp) (bs:List Cn) (y9 y12 y13 y59 y60 y61:AV),r.sels.length - m=g→m≤r.sels.length→RS n (bq L d) (I e) (rls l) (dT idx) a js bs (F k) H1→P H1→lw H1→Gs 1 H1 y9 (((r.sels.take m).filter ask).map aI)→(∀ j,own y9 j→n+10≤j) →
     aa.L2 σ K (.yl (n+9)) (.ptr (n+2) 0) (.ptr (n+4) 0) (.ptr n 0) (.ptr (n+1) 0) (I i) y9 y12 y13 (dT idx) (I idx.length) (I (k:Int)) (sls r.sels) (I r.sels.length) (I (m:Int)) y59 y60 y61 H1:=by
    intro g
    induction g with
    | zero =>
     intro m H1 bs y9 y12 y13 y59 y60 y61 hg hm hI hP1 hlo hgs how
     have:m=r.sels.length:=by omega
     subst this
     rw [List.take_length] at hgs
     refine aa.L2_step ?_
     simp only [c9,ae,Int.lt_irrefl,decide_false,aq,Bool.false_eq_true,if_false,ldt hI,lde hI]
     have hwf:=hws.filter ask
     have hbd:=rb (L:=L) (e:=e) hwf (0,false) (by omega)
     refine ap ((FQ M hwf e Hp.empty).frzA (.cons (.refl (bK _ _)) (.cons (.refl rfl) (.cons (hgs.fz (bi _ jC _)) .nil))) rfl) ?_
     have ex:∀ x y:AV,exR (.tup [x,y]) 0=some x∧exR (.tup [x,y]) 1=some y:=fun _ _=>⟨rfl,rfl⟩
     simp only [(ex _ _).1,(ex _ _).2,ae,ldl hI,hrl,tA,lr1,kB,List.length_map]
     generalize hb:dU L e (r.sels.filter ask) (0,false)=bw at hbd
     have L4:∀ (u z:Nat) (H1:Hp) (bs:List Cn),r.sets.length - z=u→z≤r.sets.length→RS n (bq L d) (I e) (rls l) (dT idx) a js bs (if bw.2 then (r.sets.take z).foldl (d7 bw.1) (F k) else F k) H1→P H1→lw H1 →
       aa.L4 σ K (.yl (n+9)) (.ptr (n+2) 0) (.ptr (n+4) 0) (.ptr n 0) (.ptr (n+1) 0) (I i) y9 (I bw.1) (Bo bw.2) (dT idx) (I idx.length) (I (k:Int)) (sls r.sels) (I r.sels.length) (I (r.sels.length:Int)) (.imm 4 (r.sets.map aU)) (I r.sets.length) (I (z:Int)) H1:=by
      intro u
      induction u with
      | zero =>
       intro z H1 bs hu hz hI hP1 hlo
       have:z=r.sets.length:=by omega
       subst this
       rw [List.take_length] at hI
       refine aa.L4_step ?_
       simp only [c9,ae,Int.lt_irrefl,decide_false,aq,Bool.false_eq_true,if_false]
       refine J1 H1 bs _ _ _ _ _ _ _ _ _ _ ?_ hP1 hlo
       rw [eF2]
       unfold ri
       rw [hb]
       exact hI
      | succ u ihu =>
       intro z H1 bs hu hz hI hP1 hlo
       have hzl:z<r.sets.length:=by omega
       have hzl':(z:Int)<r.sets.length:=by omega
       obtain ⟨q,hq⟩:=bQ hzl
       have hiq:aV 4 (.imm 4 (r.sets.map aU)) (I (z:Int))=some (.ip (aU q)):=cj hq
       have lq:∀ H:Hp,ldA true 4 H (.ip (aU q))=some (.agg (aU q)):=fun _=>rfl
       refine aa.L4_step ?_
       simp only [c9,ae,hzl',decide_true,aq,if_true,hiq,lq,bG]
       obtain ⟨H3,hH3⟩:∃ H3,H3=(H1.new (.cells [I 0,I 0,I 0,.lit (.bool false)] true)).set H1.n (some (.cells (aU q) true)):=⟨_,rfl⟩
       have st:stA 4 (H1.new (.cells [I 0,I 0,I 0,.lit (.bool false)] true)) (.ptr H1.n 0) (.agg (aU q))=some H3:=by
        rw [fB,hH3]; simp [aU]; rfl
       have n3:H3.n=H1.n+1:=by rw [hH3]; rfl
       have g3:∀ j,j<H1.n→H3.get j=H1.get j:=by
        intro j hj
        have:j≠H1.n:=by omega
        rw [hH3]; simp [this]
       have gb3:H3.get H1.n=some (.cells (aU q) true):=by rw [hH3]; simp
       clear hH3
       have hup:=hI.up
       have hI3:RS n (bq L d) (I e) (rls l) (dT idx) a js bs (if bw.2 then (r.sets.take z).foldl (d7 bw.1) (F k) else F k) H3:=hI.keep (fun j h1 h2=>g3 j (by omega)) (by omega)
       have hP3:P H3:=Pst H1 H3 hP1 (by omega) fun j hj=>g3 j (by omega)
       have hlo3:lw H3:=(hlw H3).2 fun j hj=>by rw [g3 j (by omega)]; exact (hlw H1).1 hlo j hj
       simp only [st,ae]
       have nxt:∀ (H4:Hp) (bs':List Cn),RS n (bq L d) (I e) (rls l) (dT idx) a js bs' (if bw.2 then (r.sets.take (z+1)).foldl (d7 bw.1) (F k) else F k) H4→P H4→lw H4 →
         bnd (am .add (I (z:Int)) (I 1)) fun x13=>aa.L4 σ K (.yl (n+9)) (.ptr (n+2) 0) (.ptr (n+4) 0) (.ptr n 0) (.ptr (n+1) 0) (I i) y9 (I bw.1) (Bo bw.2) (dT idx) (I idx.length) (I (k:Int)) (sls r.sels) (I r.sels.length) (I (r.sels.length:Int)) (.imm 4 (r.sets.map aU)) (I r.sets.length) x13 H4:=by
        intro H4 bs' h1 h2 h3
        simp only [ia,ae,df (show z<9000000000000000000 by omega)]
        exact ihu (z+1) H4 bs' (by omega) (by omega) h1 h2 h3
       cases hbw:bw.2 with
       | false =>
        rw [hbw] at hI3 nxt
        simp only [Bool.false_eq_true,if_false] at hI3 nxt ⊢
        exact nxt H3 bs hI3 hP3 hlo3
       | true =>
        rw [hbw] at hI3 nxt
        simp only [if_true] at hI3 nxt ⊢
        have lb:ldA true 4 H3 (.ptr H1.n 0)=some (.agg (aU q)):=by rw [aW,gb3]; rfl
        have hbl:dv [I 0,I 0,I 0,.lit (.bool false),I 0] [(0,4,.agg (aU q)),(4,1,I bw.1)]=some [I q.prop,I q.kind,I q.n,Bo q.imp,I bw.1]:=rfl
        simp only [lb,ae,hbl]
        refine AK hI3 hbd fun H4 bs' h4 u4 k4=>?_
        simp only [fW,ae,aq,Bool.not_true,Bool.false_eq_true,if_false]
        refine nxt H4 bs' ?_ (Pst H3 H4 hP3 u4 fun j hj=>k4 j (by omega) (.inl hj)) ((hlw H4).2 fun j hj=>by rw [k4 j (by omega) (.inl hj)]; exact (hlw H3).1 hlo3 j hj)
        rw [List.take_add_one,hq]
        simpa using h4
     exact L4 _ 0 H1 bs rfl (Nat.zero_le _) (by simpa using hI) hP1 hlo
    | succ g ihg =>
     intro m H1 bs y9 y12 y13 y59 y60 y61 hg hm hI hP1 hlo hgs how
     have hml:m<r.sels.length:=by omega
     have hml':(m:Int)<r.sels.length:=by omega
     obtain ⟨q,hq⟩:=bQ hml
     have hqm:=List.mem_of_getElem? hq
     have hiq:aV 1 (sls r.sels) (I (m:Int))=some (.ip (aI q)):=cj hq
     refine aa.L2_step ?_
     simp only [c9,ae,hml',decide_true,aq,if_true,hiq,fT,ni,bG]
     obtain ⟨H3,hH3⟩:∃ H3,H3=(H1.new (.cells [.lit (.slice none 0 0)] true)).set H1.n (some (.cells (aI q) true)):=⟨_,rfl⟩
     have st:stA 1 (H1.new (.cells [.lit (.slice none 0 0)] true)) (.ptr H1.n 0) (.agg (aI q))=some H3:=by
      rw [fB,hH3]; simp [aI]
     have n3:H3.n=H1.n+1:=by rw [hH3]; rfl
     have g3:∀ j,j<H1.n→H3.get j=H1.get j:=by
      intro j hj
      have:j≠H1.n:=by omega
      rw [hH3]; simp [this]
     have gb3:H3.get H1.n=some (.cells (aI q) true):=by rw [hH3]; simp
     clear hH3
     have hup:=hI.up
     have hI3:RS n (bq L d) (I e) (rls l) (dT idx) a js bs (F k) H3:=hI.keep (fun j h1 h2=>g3 j (by omega)) (by omega)
     have hP3:P H3:=Pst H1 H3 hP1 (by omega) fun j hj=>g3 j (by omega)
     have hlo3:lw H3:=(hlw H3).2 fun j hj=>by rw [g3 j (by omega)]; exact (hlw H1).1 hlo j hj
     have hgs3:Gs 1 H3 y9 (((r.sels.take m).filter ask).map aI):=hgs.keep (fun j hj=>g3 j (hgs.lt hj)) (by omega)
     have lb:∀ H4:Hp,H4.get H1.n=some (.cells (aI q) true)→ldA true 1 H4 (.ptr H1.n 0)=some (.agg (aI q)):=fun H4 h=>by rw [aW,h]; rfl
     simp only [st,ae,lda hI3,lb H3 gb3]
     refine hask r hrm q hqm H3 _ hP3 (by omega) fun H5 u5 k5=>?_
     have hI5:=hI3.keep (H':=H5) (fun j h1 h2=>k5 j (by omega)) u5
     have hP5:P H5:=Pst H3 H5 hP3 u5 fun j hj=>k5 j (by omega)
     have hlo5:lw H5:=(hlw H5).2 fun j hj=>by rw [k5 j (by omega)]; exact (hlw H3).1 hlo3 j hj
     have hgs5:Gs 1 H5 y9 (((r.sels.take m).filter ask).map aI):=hgs3.keep (fun j hj=>k5 j (hgs3.lt hj)) u5
     have gb5:H5.get H1.n=some (.cells (aI q) true):=by rw [k5 _ (by omega)]; exact gb3
     have J3:∀ (H6:Hp) (y9:AV),RS n (bq L d) (I e) (rls l) (dT idx) a js bs (F k) H6→P H6→lw H6→Gs 1 H6 y9 (((r.sels.take (m+1)).filter ask).map aI)→(∀ j,own y9 j→n+10≤j) →
       aa.J3 σ K (.yl (n+9)) (.ptr (n+2) 0) (.ptr (n+4) 0) (.ptr n 0) (.ptr (n+1) 0) (I i) y9 y12 y13 (dT idx) (I idx.length) (I (k:Int)) (sls r.sels) (I r.sels.length) (I (m:Int)) y59 y60 y61 H6:=by
      intro H6 y9 h1 h2 h3 h4 h5
      refine aa.J3_step ?_
      simp only [ia,ae,df (show m<9000000000000000000 by omega)]
      exact ihg (m+1) H6 bs y9 _ _ _ _ _ (by omega) (by omega) h1 h2 h3 h4 h5
     have htk:(r.sels.take (m+1)).filter ask=(r.sels.take m).filter ask++(if ask q then [q] else []):=by
      rw [List.take_add_one,hq,List.filter_append]
      congr 1
      cases ha:ask q<;>simp [ha]
     cases ha:ask q with
     | false =>
      simp only [aq,Bool.false_eq_true,if_false]
      refine J3 H5 y9 hI5 hP5 hlo5 ?_ how
      rw [htk,ha]
      simpa using hgs5
     | true =>
      simp only [aq,if_true,lb H5 gb5,ae]
      have hfl:((r.sels.take m).filter ask).length≤2000000:=Nat.le_trans (List.length_filter_le _ _) (by rw [List.length_take]; omega)
      refine gh (y:=.agg (aI q)) hgs5 rfl rfl rfl (by rw [List.length_map]; omega) (by rw [List.length_map]; omega) fun x' H' g' fr=>?_
      have hup5:=fr.grow
      have e9:∀ j,j<n+10→H'.get j=H5.get j:=fun j hj=>fr.same j (by omega) fun ho=>by have:=how j ho; omega
      refine J3 H' x' (hI5.keep (fun j h1 h2=>e9 j h2) hup5) (Pst H5 H' hP5 hup5 fun j hj=>e9 j (by omega)) ((hlw H').2 fun j hj=>by rw [e9 j (by omega)]; exact (hlw H5).1 hlo5 j hj) ?_ fun j hj=>?_
      ·rw [htk,ha,if_pos rfl,List.map_append]
       exact g'
      ·rcases fr.mine j hj with h | h
       ·exact how j h
       ·omega
   exact L2 _ 0 H1 bs _ _ _ _ _ _ rfl (Nat.zero_le _) hI hP1 hlo (by simpa using Gs.nil) (fun j hj=>hj.elim)
 exact L0 _ 0 H bs _ _ _ _ _ _ _ _ _ _ rfl (Nat.zero_le _) (by rw [hF]; simpa using h) hP ((hlw H).2 fun _ _=>rfl)
end
end Go.Proofs.YthdcghnjndhecaaGreat.Ev
namespace Go.Proofs.YthdcghnjndhecaaGreat.Ev
set_option linter.unusedVariables false
set_option linter.unusedSimpArgs false
variable {σ:Sig}
theorem yM {P:Program} {f sz:Nat} {xs ys:List AV} {H:Hp} {K:AV→Hp→Prop} {x:AV} {rows:List (List AV)} (g:Gs sz H x rows) (hn:cS rows=true) (hT:∀ Hd,Fz Hd x (.imm sz rows)→FzT Hd ys xs)
  (h:∀ H2,H2.n=H.n→(∀ j,¬ own x j→H2.get j=H.get j)→(∀ j,H.get j=none→H2.get j=none)→az P σ f xs H2 K):az P σ f ys H K:=by
 cases g with
 | nil =>
  obtain ⟨r,H1,hg,hk⟩:=h H rfl (fun _ _=>rfl) fun _ h=>h
  exact ⟨r,H1,ar.conv (Wk.frz (H2:=H) (Hd:=Hp.bare H.n) rfl rfl (fun id k hk=>by simp at hk) (fun id k2 hk=>⟨k2,hk,.refl _ _⟩) (hT _ .nil)) hg,hk⟩
 | sl hlt hg hsz =>
  rename_i id ex
  obtain ⟨r,H1,hgood,hk⟩:=h (H.set id none) (by simp) (fun j hj=>by
   have:j≠id:=fun e=>hj e.symm
   simp [this]) (fun j hj=>by
   rw [ay]
   split
   ·rfl
   ·exact hj)
  have hd0:∀ j,((Hp.bare H.n).set id (some (.cells rows.flatten ex))).get j=if j=id then some (.cells rows.flatten ex) else none:=fun j=>by
   rw [ay]
   split
   ·rfl
   ·simp
  refine ⟨r,H1,ar.conv (Wk.frz (Hd:=(Hp.bare H.n).set id (some (.cells rows.flatten ex))) (by simp) (by simp) (fun j k hk=>?_) (fun j k2 hk=>?_) (hT _ ?_)) hgood,hk⟩
  ·rw [hd0] at hk
   split at hk
   ·rename_i e
    subst e
    exact ⟨by rw [hg]; exact hk,by simp⟩
   ·cases hk
  ·rw [ay] at hk
   split at hk
   ·cases hk
   ·exact ⟨k2,hk,.refl _ _⟩
  ·exact .rows (cs:=rows.flatten) (ex:=ex) (by rw [hd0,if_pos rfl]) hsz (by rw [List.drop_zero]; exact List.take_of_length_le (by rw [bW hsz]; exact Nat.le_refl _)) hn
theorem wx:wn0.Ok:=⟨by simp [wn0],by simp [wn0],by simp [wn0]⟩
theorem qy {L:List Nd} {d:List Nat} (M:McT σ L d) {l:List RL} (hl:∀ r ∈ l,jF r.sels∧r.sets.length≤30) {e:Int} {ask:Sl→Bool} {a:AV} {idx:List Int} {H:Hp} (ha1:a.cells=[a]) (ha2:a.isAny=false)
  (P:Hp→Prop) (hP:P H) (Pst:∀ H' H'',P H'→H'.n≤H''.n→(∀ j,j<H.n→H''.get j=H'.get j)→P H'')
  (hask:∀ r ∈ l,∀ q ∈ r.sels,∀ (H':Hp) (K:AV→Hp→Prop),P H'→H.n+10≤H'.n→(∀ H'',H'.n≤H''.n→(∀ j,j<H'.n→H''.get j=H'.get j)→K (Bo (ask q)) H'')→fp Tryz.prog σ a [.agg (aI q)] H' K) (hidx:idx.length≤1000000)
  {K:AV→Hp→Prop} (hK:∀ H',H.n≤H'.n→(∀ j,j<H.n→H'.get j=H.get j)→K (.agg ((idx.foldl (mO L e ask l) wn0).o.map I)) H') :
  az Tryz.prog σ cV [bq L d,I e,rls l,dT idx,a] H fun x5 H6=>az Tryz.prog σ dK [x5] H6 K:=by
 refine eo.run ?_
 have b1:(bq L d).cells=[bq L d]∧(bq L d).isAny=false:=⟨rfl,rfl⟩
 have b2:(rls l).cells=[rls l]∧(rls l).isAny=false:=⟨rfl,rfl⟩
 have b3:(dT idx).cells=[dT idx]∧(dT idx).isAny=false:=⟨rfl,rfl⟩
 have bx:∀ (x:AV) (H:Hp) (K:AV→Hp→Prop),x.cells=[x]→x.isAny=false→cL x H K=K (.ptr H.n 0) (H.new (.cells [x] true)):=by
  intro x H K h1 h2
  unfold cL
  rw [h2,h1]; rfl
 rw [bx _ _ _ b1.1 b1.2,bx _ _ _ rfl rfl,bx _ _ _ b2.1 b2.2,bx _ _ _ b3.1 b3.2,bx _ _ _ ha1 ha2]
 refine aw.run ?_
 simp only [bG,oS]
 intro js
 obtain ⟨n,hn⟩:∃ n,n=H.n:=⟨_,rfl⟩
 simp only [Hp.n_new,← hn]
 obtain ⟨H8,hH8⟩:∃ H8,H8=((((((((H.new (.cells [bq L d] true)).new (.cells [I e] true)).new (.cells [rls l] true)).new (.cells [dT idx] true)).new (.cells [a] true)).new (.cells (List.replicate 16 (I 0)) true)).new (.cells (List.replicate 16 (I 0)) true)).new (.cells [I 0,I 0,I 0,.lit (.bool false),I 0,I 0,I 0,I 0,.lit (.bool false),I 0,I 0,I 0,I 0,.lit (.bool false),I 0,I 0,I 0,I 0,.lit (.bool false),I 0,I 0,I 0,I 0,.lit (.bool false),I 0,I 0,I 0,I 0,.lit (.bool false),I 0,I 0,I 0,I 0,.lit (.bool false),I 0,I 0,I 0,I 0,.lit (.bool false),I 0] true)).new (.cells [.lit (.bool false),.lit (.bool false),.lit (.bool false),.lit (.bool false),.lit (.bool false),.lit (.bool false),.lit (.bool false),.lit (.bool false)] true):=⟨_,rfl⟩
 have n8:H8.n=n+9:=by rw [hH8,hn]; rfl
 have g8:∀ j,H8.get j=if j=n+8 then some (.cells (List.replicate 8 (Bo false)) true) else if j=n+7 then some (.cells ((List.replicate 8 cn0).map bo).flatten true) else if j=n+6 then some (.cells (List.replicate 16 (I 0)) true) else if j=n+5 then some (.cells (List.replicate 16 (I 0)) true) else if j=n+4 then some (.cells [a] true) else if j=n+3 then some (.cells [dT idx] true) else if j=n+2 then some (.cells [rls l] true) else if j=n+1 then some (.cells [I e] true) else if j=n then some (.cells [bq L d] true) else H.get j:=by
  intro j
  rw [hH8]
  simp only [bt,Hp.n_new,← hn]
  rfl
 rw [show n+1+1=n+2 from rfl,show n+2+1=n+3 from rfl,show n+3+1=n+4 from rfl,show n+4+1=n+5 from rfl,show n+5+1=n+6 from rfl,show n+6+1=n+7 from rfl,show n+7+1=n+8 from rfl,show n+8+1=n+9 from rfl]
 rw [← hH8]
 clear hH8
 have lo8:∀ j,j<n→H8.get j=H.get j:=fun j hj=>by
  rw [g8,if_neg (by omega),if_neg (by omega),if_neg (by omega),if_neg (by omega),if_neg (by omega),if_neg (by omega),if_neg (by omega),if_neg (by omega),if_neg (by omega)]
 obtain ⟨H9,hH9⟩:∃ H9,H9=H8.new (.loop (aw.R0 js (.ptr (n+6) 0) (.ptr (n+7) 0) (.ptr (n+8) 0)) .ready none):=⟨_,rfl⟩
 have n9:H9.n=n+10:=by rw [hH9,Hp.n_new,n8]
 have g9:∀ j,j<n+9→H9.get j=H8.get j:=fun j hj=>by rw [hH9,bt,if_neg (by omega)]
 have gl9:H9.get (n+9)=some (.loop (aw.R0 js (.ptr (n+6) 0) (.ptr (n+7) 0) (.ptr (n+8) 0)) .ready none):=by rw [hH9,bt,if_pos n8.symm]
 rw [← hH9]
 clear hH9
 have hI:RS n (bq L d) (I e) (rls l) (dT idx) a js (List.replicate 8 cn0) wn0 H9:=by
  refine ⟨?_,?_,?_,?_,?_,?_,?_,?_,?_,gl9,by omega,wx,by simp,fun p hp ht=>?_⟩
  ·rw [g9 _ (by omega),g8]; simp
  ·rw [g9 _ (by omega),g8]; simp
  ·rw [g9 _ (by omega),g8]; simp
  ·rw [g9 _ (by omega),g8]; simp
  ·rw [g9 _ (by omega),g8]; simp
  ·rw [g9 _ (by omega),g8,if_neg (by omega),if_neg (by omega),if_neg (by omega),if_pos rfl]
  ·rw [g9 _ (by omega),g8,if_neg (by omega),if_neg (by omega),if_pos rfl]; rfl
  ·rw [g9 _ (by omega),g8,if_neg (by omega),if_pos rfl]
  ·rw [g9 _ (by omega),g8,if_pos rfl]; rfl
  ·exfalso
   have:wn0.t.getD p false=false:=by
    simp only [wn0,List.getD_eq_getElem?_getD,List.getElem?_replicate]
    rw [if_pos hp]; rfl
   rw [this] at ht; cases ht
 have hP9:P H9:=Pst H H9 hP (by omega) fun j hj=>by rw [g9 _ (by omega),lo8 j (by omega)]
 refine GZ M hl hI P hP9 (fun H' H'' h1 h2 h3=>Pst H' H'' h1 h2 fun j hj=>h3 j (by omega)) (fun r hr q hq H' K h1 h2 h3=>hask r hr q hq H' K h1 (by omega) h3) hidx fun H' bs' h' lo'=>?_
 rw [h'.lp,mY]
 have gx:∀ j,j≠n+9→(H'.set (n+9) none).get j=H'.get j:=fun j hj=>by rw [ay,if_neg hj]
 obtain ⟨s',hs'⟩:∃ s',s'=idx.foldl (mO L e ask l) wn0:=⟨_,rfl⟩
 rw [← hs'] at h' hK
 have hol:(s'.o.map I).length=16:=by rw [List.length_map]; exact h'.ok.o
 have l1:ldA true 16 (H'.set (n+9) none) (.ptr (n+6) 0)=some (.agg (s'.o.map I)):=by
  rw [aW,gx _ (by omega),h'.go,bm,List.drop_zero,cr hol]
 have s1:stA 16 (H'.set (n+9) none) (.ptr (n+5) 0) (.agg (s'.o.map I))=some ((H'.set (n+9) none).set (n+5) (some (.cells (s'.o.map I) true))):=by
  rw [fB,gx _ (by omega),h'.gr,if_pos hol,cq,if_pos ⟨by rw [hol]; simp,by rw [List.all_eq_true]; intro x hx; obtain ⟨v,_,rfl⟩:=List.mem_map.1 hx; rfl⟩,aE (by rw [hol]; simp)]
 have l2:ldA true 16 ((H'.set (n+9) none).set (n+5) (some (.cells (s'.o.map I) true))) (.ptr (n+5) 0)=some (.agg (s'.o.map I)):=by
  rw [aW,ay,if_pos rfl,bm,List.drop_zero,cr hol]
 simp only [l1,ae,s1,l2]
 refine hK _ (by have:=h'.up; simp; omega) fun j hj=>?_
 rw [ay,if_neg (by omega),gx _ (by omega),lo' j (by omega),g9 _ (by omega),lo8 j (by omega)]
def ko (k:Nat):List Int:=(List.range k).map fun (i:Nat)=>(i:Int)
theorem lL (k:Nat):(ko k).length=k:=by simp [ko]
theorem m7 (k:Nat):ko (k+1)=ko k++[(k:Int)]:=by simp [ko,List.range_succ]
theorem sS {L:List Nd} {e:Int} {l:List RL}:∀ (k:Nat),k≤l.length→((ko k).foldl (mO L e (fun _=>true) l) wn0)=(l.take k).foldl (iS L e) wn0:=by
 intro k
 induction k with
 | zero=>intro _; rfl
 | succ k ih =>
  intro hk
  have hkl:k<l.length:=by omega
  obtain ⟨r,hr⟩:=bQ hkl
  rw [m7,List.foldl_append,ih (by omega),List.take_add_one,hr,List.foldl_append]
  show mO L e (fun _=>true) l _ (k:Int)=iS L e _ r
  unfold mO
  rw [if_neg (by omega),Int.toNat_natCast,hr]
  generalize List.foldl (iS L e) wn0 (List.take k l)=s
  show ri L e (fun _=>true) s r=iS L e s r
  have ef:r.sels.filter (fun _=>true)=r.sels:=List.filter_eq_self.2 fun _ _=>rfl
  unfold ri iS
  rw [ef]
section
attribute [local irreducible] aX.L0
theorem mh {L:List Nd} {d:List Nat} (M:McT σ L d) {l:List RL} (hl:∀ r ∈ l,jF r.sels∧r.sets.length≤30) (hlen:l.length≤60) (e:Int) (H:Hp) :
  ar Tryz.prog σ cY [bq L d,I e,rls l] H (.agg ((iZ L e l).o.map I)) H:=by
 have hno:bf (.agg ((iZ L e l).o.map I))=true:=by
  simp only [bf]
  generalize (iZ L e l).o=o
  induction o with
  | nil=>rfl
  | cons a r ih=>simp only [List.map_cons,aC,bf,Bool.true_and]; exact ih
 refine wR (fun K hK=>aX.run ?_) (by simp [aC,bf,bK]) hno H
 simp only [bG,tS,ae]
 have e0:Hp.empty.n=0:=rfl
 rw [e0]
 have L0:∀ (f k:Nat) (H1:Hp) (y7:AV),l.length - k=f→k≤l.length→H1.get 0=some (.cells (List.replicate 16 (I 0)) true)→1≤H1.n→Gs 1 H1 y7 ((ko k).map tB)→(∀ j,own y7 j→1≤j) →
   aX.L0 σ K (bq L d) (I e) (rls l) (.ptr 0 0) y7 (I l.length) (I (k:Int)) H1:=by
  intro f
  induction f with
  | zero =>
   intro k H1 y7 hf hk h0 hn hgs how
   have:k=l.length:=by omega
   subst this
   refine aX.L0_step ?_
   simp only [c9,ae,Int.lt_irrefl,decide_false,aq,Bool.false_eq_true,if_false]
   refine yM (xs:=[bq L d,I e,rls l,dT (ko l.length),.fn c_ []]) hgs (bi _ (fun _=>rfl) _) (fun Hd hz=>.same (.same (.same (.fz hz (.same .nil))))) fun H2 n2 g2 k2=>?_
   refine qy M hl (ask:=fun _=>true) rfl rfl (fun _=>True) trivial (fun _ _ _ _ _=>trivial) (fun r hr q hq H' K _ _ hk=>?_) (by rw [lL]; omega) fun H3 _ lo3=>?_
   ·rw [lN,List.append_nil]
    refine eR.run ?_
    simp only [fk]
    refine hk _ (by simp) fun j hj=>?_
    have:j≠H'.n:=by omega
    simp [this]
   ·rw [sS _ (Nat.le_refl _),List.take_length]
    have h20:H2.get 0=some (.cells (List.replicate 16 (I 0)) true):=by rw [g2 0 fun ho=>by have:=how 0 ho; omega]; exact h0
    have h30:H3.get 0=some (.cells (List.replicate 16 (I 0)) true):=by rw [lo3 0 (by omega)]; exact h20
    have hwo:(iZ L e l).o.length=16:=by
     have:∀ (l:List RL) (s:Wn),s.Ok→(l.foldl (iS L e) s).Ok:=by
      intro l
      induction l with
      | nil=>intro s h; exact h
      | cons r l ih =>
       intro s h
       refine ih _ ?_
       unfold iS
       split
       ·generalize (dU L e r.sels (0,false)).1=w
        generalize r.sets=qs
        revert h
        revert s
        induction qs with
        | nil=>intro s h; exact h
        | cons q qs ihq=>intro s h; exact ihq _ (iy h)
       ·exact h
     exact (this l wn0 wx).o
    have hol:(List.map I (iZ L e l).o).length=16:=by rw [List.length_map]; exact hwo
    have s1:stA 16 H3 (.ptr 0 0) (.agg (List.map I (iZ L e l).o))=some (H3.set 0 (some (.cells (List.map I (iZ L e l).o) true))):=by
     rw [fB,h30,if_pos hol,cq,if_pos ⟨by rw [hol]; simp,by rw [List.all_eq_true]; intro x hx; obtain ⟨v,_,rfl⟩:=List.mem_map.1 hx; rfl⟩,aE (by rw [hol]; simp)]
    have l2:ldA true 16 (H3.set 0 (some (.cells (List.map I (iZ L e l).o) true))) (.ptr 0 0)=some (.agg (List.map I (iZ L e l).o)):=by
     rw [aW,ay,if_pos rfl,bm,List.drop_zero,cr hol]
    show bnd (stA 16 H3 (.ptr 0 0) (.agg (List.map I (iZ L e l).o))) _
    simp only [s1,ae,l2]
    exact hK _
  | succ f ih =>
   intro k H1 y7 hf hk h0 hn hgs how
   have hkl':(k:Int)<l.length:=by omega
   refine aX.L0_step ?_
   simp only [c9,ae,hkl',decide_true,aq,if_true]
   refine gh (y:=I (k:Int)) hgs rfl rfl rfl (by rw [List.length_map,lL]; omega) (by rw [List.length_map,lL]; omega) fun x' H' g' fr=>?_
   simp only [ia,ae,df (show k<9000000000000000000 by omega)]
   have hup:=fr.grow
   refine ih (k+1) H' x' (by omega) (by omega) (by rw [fr.same 0 (by omega) fun ho=>by have:=how 0 ho; omega]; exact h0) (by omega) ?_ fun j hj=>?_
   ·rw [m7,List.map_append]
    exact g'
   ·rcases fr.mine j hj with h | h
    ·exact how j h
    ·omega
 refine L0 _ 0 _ _ rfl (Nat.zero_le _) (by simp [Hp.empty]) (by simp) (by simpa [ko] using Gs.nil) fun j hj=>hj.elim
end
end Go.Proofs.YthdcghnjndhecaaGreat.Ev
