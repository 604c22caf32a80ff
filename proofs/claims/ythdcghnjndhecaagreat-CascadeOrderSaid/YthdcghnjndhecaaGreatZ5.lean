/- The walks, part 5: the evaluator, the functions, the laws. Conditions: none. -/
import Derived.Test.YthdcghnjndhecaaGreatZ4
namespace Go.Proofs.YthdcghnjndhecaaGreat.Ev
set_option linter.unusedVariables false
set_option linter.unusedSimpArgs false
variable {σ:Sig}
def HFz (H H2:Hp):Prop:=∃ Hd:Hp,H2.n=H.n∧Hd.n=H.n∧(∀ id k,Hd.get id=some k→H.get id=some k∧H2.get id=none)∧(∀ id k2,H2.get id=some k2→∃ k1,H.get id=some k1∧FzB Hd k1 k2)
theorem FzT.refl {Hd:Hp}:∀ (T:List AV),FzT Hd T T
 | []=>.nil
 | x::T=>.same (.refl T)
theorem HFz.wk {H H2:Hp} (h:HFz H H2) (T:List AV):Wk σ T H T H2:=by
 obtain ⟨Hd,h1,h2,h3,h4⟩:=h
 exact Wk.frz h1 h2 h3 h4 (.refl T)
theorem HFz.loop {P:Program} {C:Ctx P} {c:Code} {T:List AV} {H H2:Hp} {Q:Exit→List AV→Hp→Prop} (k:HFz H H2) (h:LoopP C c T H2 Q):LoopP C c T H Q:=LoopP.conv (k.wk T) h
theorem frz_in {szc sz:Nat} {H:Hp} {y x:AV} {rows:List (List AV)} {row:List AV} {rs:List (List AV)} (hy:Gs szc H y (rows++[row])) (hx:Gs sz H x rs) (hn:noIdss rs=true) {j:Nat} (hj:row[j]?=some x) (hd:∀ i,own y i→¬ own x i) :
  ∃ H2,HFz H H2∧H2.n=H.n∧Gs szc H2 y (rows++[row.set j (.imm sz rs)])∧∀ i,¬ own y i→¬ own x i→H2.get i=H.get i:=by
 have hjl:=(List.getElem?_eq_some_iff.1 hj).1
 generalize hr:rows++[row]=rr at hy
 cases hy with
 | nil=>simp at hr
 | sl hlt hg hsz =>
  rename_i id ex
  have hrow:row.length=szc:=hsz row (by rw [← hr]; simp)
  have hrr:rr.length=rows.length+1:=by rw [← hr]; simp
  have hget:rr[rows.length]?=some row:=by rw [← hr]; simp
  have hk:=rows_flat hsz rows.length row j x hget hj
  obtain ⟨Hd,H2,h1,h2,h3,h4,h5,h6,h7⟩:=frz_one hx hn hg hk (hd id rfl)
  have hflat:rr.flatten.set (rows.length*szc+j) (.imm sz rs)=(rows++[row.set j (.imm sz rs)]).flatten:=by
   have hkl:=(List.getElem?_eq_some_iff.1 hk).1
   rw [← ovl_set hkl,flat_overlay (by simp; omega) hsz (by omega)]
   have e1:rr[rows.length]=row:=by
    rw [List.getElem?_eq_getElem (by omega)] at hget
    exact Option.some.inj hget
   have e2:overlay row j [AV.imm sz rs]=row.set j (.imm sz rs):=ovl_set hjl
   simp only [e1,e2]
   rw [← hr]
   simp
  rw [hflat] at h6
  have hl:rr.length=(rows++[row.set j (.imm sz rs)]).length:=by rw [hrr]; simp
  refine ⟨H2,⟨Hd,h2,h1,h3,h4⟩,h2,?_,fun i hi hi2=>h7 i (fun e=>hi e.symm) hi2⟩
  rw [hl]
  exact .sl (by omega) h6 (fun r hr'=>by
   rcases List.mem_append.1 hr' with h | h
   ·exact hsz r (by rw [← hr]; simp [h])
   ·simp at h; subst h; simpa using hrow)
abbrev NB:Nat:=1048576
def cntF:Nat→List Sl→Nat
 | 0,_=>0
 | f+1,l=>(l.map fun s=>1+(s.map fun p=>(p.c.pseudos.map fun q=>cntF f q.list).sum).sum).sum
def SlsOk:Nat→List Sl→Prop
 | 0,_=>False
 | f+1,l=>l.length≤NB∧∀ s ∈ l,s.length≤NB∧∀ p ∈ s,CpOk p.c∧p.c.pseudos.length≤NB∧∀ q ∈ p.c.pseudos,(i64 q.a∧i64 q.b)∧SlsOk f q.list
structure ChOk (c:List Lk):Prop where
 len:c.length≤NB
 lk:∀ x ∈ c,LkOk x
theorem Rep.mono {C D:List (List Lk)}:∀ {f:Nat} {l:List Sl} {ns:List Nat},Rep C f l ns→Rep (C++D) f l ns
 | 0,l,ns,h=>h
 | f+1,l,ns,h=>⟨h.1,fun i s n hs hn=>by
  obtain ⟨c,h1,h2,h3⟩:=h.2 i s n hs hn
  refine ⟨c,by rw [List.getElem?_append_left (List.getElem?_eq_some_iff.1 h1).1]; exact h1,h2,fun k x hx=>⟨(h3 k x hx).1,fun j q ns' hq hns=>((h3 k x hx).2 j q ns' hq hns).mono⟩⟩⟩
structure AddH (t:AV) (C:List (List Lk)) (ab mb:Nat) (cs:AV) (H:Hp):Prop where
 gab:H.get ab=some (.cells [t,cs,.mp mb] true)
 nab:ab<H.n
 gcs:Gs 1 H cs (C.map fun c=>[chainV c])
 csab:¬ own cs ab
structure AFr (H:Hp) (cs:AV) (ab:Nat) (H':Hp) (cs':AV):Prop where
 up:H.n≤H'.n
 get:∀ (j:Nat),j<H.n→j≠ab→¬ own cs j→H'.get j=H.get j
 mine:∀ j,own cs' j→own cs j∨H.n≤j
theorem AFr.refl (H:Hp) (cs:AV) (ab:Nat):AFr H cs ab H cs:=⟨Nat.le_refl _,fun _ _ _ _=>rfl,fun j h=>.inl h⟩
theorem AFr.trans {H H1 H2:Hp} {cs cs1 cs2:AV} {ab:Nat} (h:AFr H cs ab H1 cs1) (k:AFr H1 cs1 ab H2 cs2):AFr H cs ab H2 cs2:=by
 refine ⟨Nat.le_trans h.up k.up,fun j hj hne ho=>?_,fun j hj=>?_⟩
 ·rw [k.get j (Nat.lt_of_lt_of_le hj h.up) hne (fun hc=>by
   rcases h.mine j hc with h | h
   ·exact ho h
   ·omega),h.get j hj hne ho]
 ·rcases k.mine j hj with h1 | h1
  ·exact h.mine j h1
  ·have:=h.up; exact .inr (by omega)
theorem AFr.loc {H H1 H2:Hp} {cs cs1:AV} {ab:Nat} (h:AFr H cs ab H1 cs1) (hn:H1.n≤H2.n) (hg:∀ j,j<H.n→H2.get j=H1.get j):AFr H cs ab H2 cs1 :=
 ⟨Nat.le_trans h.up hn,fun j hj hne ho=>by rw [hg j hj,h.get j hj hne ho],h.mine⟩
theorem AddH.loc {t:AV} {C:List (List Lk)} {ab mb:Nat} {cs:AV} {H H':Hp} (h:AddH t C ab mb cs H) (hn:H.n≤H'.n) (h1:H'.get ab=H.get ab) (h2:∀ j,own cs j→H'.get j=H.get j):AddH t C ab mb cs H' :=
 ⟨by rw [h1]; exact h.gab,Nat.lt_of_lt_of_le h.nab hn,h.gcs.keep h2 hn,h.csab⟩
def AddOk (σ:Sig) (f:Nat):Prop:=∀ (l:List Sl),SlsOk f l→∀ (t:AV) (C:List (List Lk)) (ab mb:Nat) (cs:AV) (H:Hp) (K:AV→Hp→Prop),AddH t C ab mb cs H→C.length+cntF f l≤NB →
 (∀ (H':Hp) (cs':AV) (C2:List (List Lk)) (r:AV) (ns:List Nat),AddH t (C++C2) ab mb cs' H'→Rep (C++C2) f l ns→C2.length=cntF f l→(∀ c ∈ C2,ChOk c)→Gs 1 H' r (ns.map encN)→(∀ j,own r j→H.n≤j∧¬ own cs' j)→AFr H cs ab H' cs'→K r H') →
 callK Tryz.prog σ n_match_asked_add [.ptr ab 0,sls l] H K
structure AS (t:AV) (C0:List (List Lk)) (ab mb:Nat) (H0:Hp) (cs0:AV) (C2:List (List Lk)) (cs:AV) (H:Hp) (y5:AV) (ns:List Nat):Prop where
 add:AddH t (C0++C2) ab mb cs H
 fr:AFr H0 cs0 ab H cs
 ok:∀ c ∈ C2,ChOk c
 out:Gs 1 H y5 (ns.map encN)
 o5:∀ j,own y5 j→H0.n≤j∧¬ own cs j
structure Mine (H0:Hp) (cs y5:AV) (sz:Nat) (H:Hp) (x:AV) (rows:List (List AV)):Prop where
 gs:Gs sz H x rows
 o:∀ j,own x j→H0.n≤j∧¬ own cs j∧¬ own y5 j
theorem AS.loc {t:AV} {C0 C2:List (List Lk)} {ab mb:Nat} {H0 H H':Hp} {cs0 cs y5:AV} {ns:List Nat} (h:AS t C0 ab mb H0 cs0 C2 cs H y5 ns) (hab:ab<H0.n) (hn:H.n≤H'.n) (hg:∀ j,j<H0.n→H'.get j=H.get j) (h1:∀ j,own cs j→H'.get j=H.get j) (h5:∀ j,own y5 j→H'.get j=H.get j):AS t C0 ab mb H0 cs0 C2 cs H' y5 ns :=
 ⟨h.add.loc hn (hg _ hab) h1,h.fr.loc hn hg,h.ok,h.out.keep h5 hn,h.o5⟩
theorem Mine.loc {H0 H H':Hp} {cs y5 x:AV} {sz:Nat} {rows:List (List AV)} (h:Mine H0 cs y5 sz H x rows) (hn:H.n≤H'.n) (h1:∀ j,own x j→H'.get j=H.get j):Mine H0 cs y5 sz H' x rows:=⟨h.gs.keep h1 hn,h.o⟩
theorem L0_fz {K:AV→Hp→Prop} {y0 y5 y8 y11 y14 y15 y16 y21 y22 y23 y31 y32 y33:AV} {H H2:Hp} (k:HFz H H2) (h:match_asked_add.L0 σ K y0 y5 y8 y11 y14 y15 y16 y21 y22 y23 y31 y32 y33 H2):match_asked_add.L0 σ K y0 y5 y8 y11 y14 y15 y16 y21 y22 y23 y31 y32 y33 H:=fun js=>k.loop (h js)
theorem L1_fz {K:AV→Hp→Prop} {y0 y5 y8 y11 y14 y15 y16 y21 y22 y23 y31 y32 y33:AV} {H H2:Hp} (k:HFz H H2) (h:match_asked_add.L1 σ K y0 y5 y8 y11 y14 y15 y16 y21 y22 y23 y31 y32 y33 H2):match_asked_add.L1 σ K y0 y5 y8 y11 y14 y15 y16 y21 y22 y23 y31 y32 y33 H:=fun js=>k.loop (h js)
theorem L2_fz {K:AV→Hp→Prop} {y0 y5 y8 y11 y14 y15 y16 y21 y22 y23 y31 y32 y33:AV} {H H2:Hp} (k:HFz H H2) (h:match_asked_add.L2 σ K y0 y5 y8 y11 y14 y15 y16 y21 y22 y23 y31 y32 y33 H2):match_asked_add.L2 σ K y0 y5 y8 y11 y14 y15 y16 y21 y22 y23 y31 y32 y33 H:=fun js=>k.loop (h js)
def lsRow (l:List Nat):List AV:=[ints l]
section
attribute [local irreducible] match_asked_add.L0 match_asked_add.L1 match_asked_add.L2
theorem noId_lsRows (l:List (List Nat)):noIdss (l.map lsRow)=true:=noIds_map _ (fun l=>by simp [lsRow,noIds,noId_ints]) l
theorem encLk_eq (p:Pt) (lsl:List (List Nat)):encLk ⟨p,lsl⟩=encPt p++[.imm 1 (lsl.map lsRow)]:=rfl
theorem add_L2 {f:Nat} (ih:AddOk σ f) {t:AV} {C0:List (List Lk)} {ab mb:Nat} {H0:Hp} {cs0:AV} (hab:ab<H0.n) {K:AV→Hp→Prop} {y5:AV} {ns:List Nat} {cl:List Lk} {p:Pt} (hpl:p.c.pseudos.length≤NB) (hp:∀ q ∈ p.c.pseudos,(i64 q.a∧i64 q.b)∧SlsOk f q.list)
  {y14 y15 y16 y21 y22:AV} {j:Nat} (hj:j<NB) (hcl:cl.length≤j) {R:Nat} {P:List (List Lk)→Prop}
  (hK:∀ (H:Hp) (cs:AV) (C2:List (List Lk)) (y8 y11:AV) (lsl:List (List Nat)) (y31 y32 y33:AV),AS t C0 ab mb H0 cs0 C2 cs H y5 ns→P C2→Mine H0 cs y5 7 H y8 ((cl++[Lk.mk p lsl]).map encLk)→lsl.length=p.c.pseudos.length→(∀ (j:Nat) (q:Ps) (ns':List Nat),p.c.pseudos[j]?=some q→lsl[j]?=some ns'→Rep (C0++C2) f q.list ns')→(∀ l ∈ lsl,l.length≤NB) →
   (C0++C2).length+R≤NB→match_asked_add.L1 σ K (.ptr ab 0) y5 y8 y11 y14 y15 y16 y21 y22 (I ((j+1:Nat):Int)) y31 y32 y33 H) :
  ∀ (m k:Nat) (H:Hp) (cs:AV) (C2:List (List Lk)) (y8:AV) (xb:Nat) (lv:AV) (lsl:List (List Nat)),p.c.pseudos.length - k=m→k≤p.c.pseudos.length→AS t C0 ab mb H0 cs0 C2 cs H y5 ns→(∀ D,C2 <+: D→D.length=C2.length+((p.c.pseudos.drop k).map fun q=>cntF f q.list).sum→P D)→Mine H0 cs y5 7 H y8 (cl.map encLk)→H.get xb=some (.cells (encPt p++[lv]) true)→H0.n≤xb→xb<H.n→¬ own cs xb→¬ own y5 xb→¬ own y8 xb →
   Mine H0 cs y5 1 H lv (lsl.map lsRow)→¬ own lv xb→(∀ i,own lv i→¬ own y8 i)→lsl.length=k→(∀ (j:Nat) (q:Ps) (ns':List Nat),p.c.pseudos[j]?=some q→lsl[j]?=some ns'→Rep (C0++C2) f q.list ns')→(∀ l ∈ lsl,l.length≤NB) →
   (C0++C2).length+(((p.c.pseudos.drop k).map fun q=>cntF f q.list).sum+R)≤NB →
   match_asked_add.L2 σ K (.ptr ab 0) y5 y8 (.ptr xb 0) y14 y15 y16 y21 y22 (I (j:Int)) (.imm 4 (p.c.pseudos.map encPs)) (I p.c.pseudos.length) (I (k:Int)) H:=by
 have hNB:NB=1048576:=rfl
 intro m
 induction m with
 | zero =>
  intro k H cs C2 y8 xb lv lsl hm hk hA hP h8 gx hx0 hxn hxc hx5 hx8 hl hlx hl8 hlk hrep hlen hcnt
  have:k=p.c.pseudos.length:=by omega
  subst this
  refine match_asked_add.L2_step ?_
  have hl7:ldL true 7 (encPt p++[lv])=some (.agg (encPt p++[lv])):=ldL_all (by simp)
  simp only [b_lss,Int.lt_irrefl,decide_false,bnd_some,ifB_lit,Bool.false_eq_true,if_false,ld_ptr,gx,ldO_cells,List.drop_zero,hl7]
  have hone:(encPt p++[lv]).all AV.one=true:=by simp [hl.gs.one]
  refine bnd_app1 (y:=.agg (encPt p++[lv])) h8.gs (by simp) rfl hone (by simp; omega) (by simp; omega) fun y8' H2 g8 f8=>?_
  simp only [b_add,bnd_some]
  rw [wr_succ (by omega)]
  have own8:∀ i,own y8' i→H0.n≤i∧¬ own cs i∧¬ own y5 i∧¬ own lv i:=fun i hi=>by
   rcases f8.mine i hi with h | h
   ·exact ⟨(h8.o i h).1,(h8.o i h).2.1,(h8.o i h).2.2,fun h'=>hl8 i h' h⟩
   ·have h0:=hA.fr.up
    exact ⟨by omega,fun h'=>by have:=hA.add.gcs.lt h'; omega,fun h'=>by have:=hA.out.lt h'; omega,fun h'=>by have:=hl.gs.lt h'; omega⟩
  have keep:∀ i,i<H.n→¬ own y8 i→H2.get i=H.get i:=fun i hi ho=>f8.same i hi ho
  have hA2:AS t C0 ab mb H0 cs0 C2 cs H2 y5 ns:=hA.loc hab f8.grow (fun i hi=>keep i (by have:=hA.fr.up; omega) (fun h=>by have:=(h8.o i h).1; omega)) (fun i hi=>keep i (hA.add.gcs.lt hi) (fun h=>(h8.o i h).2.1 hi)) (fun i hi=>keep i (hA.out.lt hi) (fun h=>(h8.o i h).2.2 hi))
  have hl2:Gs 1 H2 lv (lsl.map lsRow):=hl.gs.keep (fun i hi=>keep i (hl.gs.lt hi) (hl8 i hi)) f8.grow
  have hcells:(AV.agg (encPt p++[lv])).cells=encPt p++[lv]:=rfl
  rw [hcells] at g8
  obtain ⟨H3,z1,z2,z3,z4⟩:=frz_in (j:=6) g8 hl2 (noId_lsRows lsl) (by rw [List.getElem?_append_right (by simp)]; simp) (fun i hi=>(own8 i hi).2.2.2)
  have hrow:(encPt p++[lv]).set 6 (.imm 1 (lsl.map lsRow))=encLk ⟨p,lsl⟩:=by
   rw [encLk_eq,List.set_append_right _ _ (by simp)]
   simp
  rw [hrow] at z3
  have z3':Gs 7 H3 y8' ((cl++[Lk.mk p lsl]).map encLk):=by simpa using z3
  have fin:match_asked_add.L1 σ K (.ptr ab 0) y5 y8' (.ptr xb 0) y14 y15 y16 y21 y22 (I ((j+1:Nat):Int)) (.imm 4 (p.c.pseudos.map encPs)) (I p.c.pseudos.length) (I (p.c.pseudos.length:Int)) H3:=by
   refine hK H3 cs C2 y8' (.ptr xb 0) lsl _ _ _ ?_ (hP C2 (List.prefix_refl _) (by simp)) ⟨z3',fun i hi=>⟨(own8 i hi).1,(own8 i hi).2.1,(own8 i hi).2.2.1⟩⟩ hlk hrep hlen (by simp at hcnt ⊢; omega)
   refine hA2.loc hab (by omega) (fun i hi=>z4 i (fun h=>by have:=(own8 i h).1; omega) (fun h=>by have:=(hl.o i h).1; omega)) (fun i hi=>z4 i (fun h=>(own8 i h).2.1 hi) (fun h=>(hl.o i h).2.1 hi)) (fun i hi=>z4 i (fun h=>(own8 i h).2.2.1 hi) (fun h=>(hl.o i h).2.2 hi))
  exact L1_fz z1 fin
 | succ m ihm =>
  intro k H cs C2 y8 xb lv lsl hm hk hA hP h8 gx hx0 hxn hxc hx5 hx8 hl hlx hl8 hlk hrep hlen hcnt
  have hlt:k<p.c.pseudos.length:=by omega
  obtain ⟨q,hq⟩:=get_lt hlt
  have hqm:=List.mem_of_getElem? hq
  have hlt':(k:Int)<p.c.pseudos.length:=by omega
  rw [drop_get hq,List.map_cons,List.sum_cons] at hcnt
  have hdq:p.c.pseudos.drop k=q::p.c.pseudos.drop (k+1):=drop_get hq
  refine match_asked_add.L2_step ?_
  obtain ⟨H6,hH6⟩:∃ H6,H6=(H.new (.cells [I 0,I 0,I 0,.lit (.slice none 0 0)] true)).set H.n (some (.cells (encPs q) true)):=⟨_,rfl⟩
  have hst:stA 4 (H.new (.cells [I 0,I 0,I 0,.lit (.slice none 0 0)] true)) (.ptr H.n 0) (.agg (encPs q))=some H6:=by
   rw [hH6]
   simp
   rw [ov_Ps q (by simp)]
  have k6:∀ i,i<H.n→H6.get i=H.get i:=fun i hi=>by
   have:i≠H.n:=by omega
   rw [hH6]; simp [this]
  have n6:H6.n=H.n+1:=by rw [hH6]; rfl
  have g6:H6.get H.n=some (.cells (encPs q) true):=by rw [hH6]; simp
  clear hH6
  have gx6:H6.get xb=some (.cells (encPt p++[lv]) true):=by rw [k6 xb hxn]; exact gx
  have hd6:ldL false 1 ((encPt p++[lv]).drop 6)=some lv:=by rw [List.drop_append_of_le_length (by simp),List.drop_of_length_le (by simp)]; simp
  simp only [b_lss,hlt',decide_true,bnd_some,ifB_lit,if_true,ix_map hq,ld_ip,ldL_ps,allocK_eq,hst,sh_ptr,Nat.zero_add,ld_ptr,gx6,ldO_cells,hd6,g6,f_encPs3]
  have hA6:AS t C0 ab mb H0 cs0 C2 cs H6 y5 ns:=hA.loc hab (by omega) (fun i hi=>k6 i (by have:=hA.fr.up; omega)) (fun i hi=>k6 i (hA.add.gcs.lt hi)) (fun i hi=>k6 i (hA.out.lt hi))
  refine ih q.list (hp q hqm).2 t (C0++C2) ab mb cs H6 _ hA6.add (by omega) fun H' cs' D r ns' a1 a2 a3 a4 a5 a6 a7=>?_
  have hxab:xb≠ab:=by omega
  have k7:∀ i,H0.n≤i→i<H6.n→¬ own cs i→H'.get i=H6.get i:=fun i h1 h2 h3=>a7.get i h2 (by omega) h3
  have gx7:H'.get xb=some (.cells (encPt p++[lv]) true):=by rw [k7 xb hx0 (by omega) hxc]; exact gx6
  have up7:=a7.up
  have cs7:∀ i,own cs' i→own cs i∨H6.n≤i:=a7.mine
  have hl7:Mine H0 cs' y5 1 H' lv (lsl.map lsRow):=by
   refine ⟨hl.gs.keep (fun i hi=>?_) (by omega),fun i hi=>⟨(hl.o i hi).1,fun h=>?_,(hl.o i hi).2.2⟩⟩
   ·have:=hl.gs.lt hi
    rw [k7 i (hl.o i hi).1 (by omega) (hl.o i hi).2.1,k6 i this]
   ·rcases cs7 i h with h | h
    ·exact (hl.o i hi).2.1 h
    ·have:=hl.gs.lt hi; omega
  have h87:Mine H0 cs' y5 7 H' y8 (cl.map encLk):=by
   refine ⟨h8.gs.keep (fun i hi=>?_) (by omega),fun i hi=>⟨(h8.o i hi).1,fun h=>?_,(h8.o i hi).2.2⟩⟩
   ·have:=h8.gs.lt hi
    rw [k7 i (h8.o i hi).1 (by omega) (h8.o i hi).2.1,k6 i this]
   ·rcases cs7 i h with h | h
    ·exact (h8.o i hi).2.1 h
    ·have:=h8.gs.lt hi; omega
  have hA7:AS t C0 ab mb H0 cs0 (C2++D) cs' H' y5 ns:=by
   refine ⟨by rw [← List.append_assoc]; exact a1,hA6.fr.trans a7,fun c hc=>?_,hA6.out.keep (fun i hi=>?_) a7.up,fun i hi=>⟨(hA.o5 i hi).1,fun h=>?_⟩⟩
   ·rcases List.mem_append.1 hc with h | h
    ·exact hA.ok c h
    ·exact a4 c h
   ·exact k7 i (hA.o5 i hi).1 (hA6.out.lt hi) (hA.o5 i hi).2
   ·rcases cs7 i h with h | h
    ·exact (hA.o5 i hi).2 h
    ·have:=hA.out.lt hi; omega
  have hxc7:¬ own cs' xb:=fun h=>by
   rcases cs7 xb h with h | h
   ·exact hxc h
   ·omega
  have hl7':∀ i,own lv i→i<H'.n:=fun i hi=>hl7.gs.lt hi
  have one7:AV.one r=true:=a5.one
  have cel7:=a5.cells
  have hxn7:xb≠H'.n:=by omega
  simp only [kp_ptr,gx7]
  refine ⟨by rw [gx6],?_⟩
  have hlenN:lsl.length<NB:=by omega
  refine bnd_app1k (y:=r) (rows:=lsl.map lsRow) (by simp [hxn7,gx7]) hl7.gs (by rw [cel7.1]; rfl) cel7.2 (by rw [cel7.1]; simpa using one7) (by simp; omega) (by simp; omega) fun lv' H2 g2 f2=>?_
  rw [cel7.1] at g2
  have ownl:∀ i,own lv' i→own lv i∨(H'.n≤i∧i<H2.n):=f2.mine
  have k8:∀ i,i<H'.n→¬ own lv i→H2.get i=H'.get i:=fun i h1 h2=>f2.same i h1 h2
  have gx8:H2.get xb=some (.cells (encPt p++[lv]) true):=by rw [k8 xb (by omega) hlx]; exact gx7
  have hst2:=g2.st (id:=xb) (off:=6) gx8 (by simp)
  have hset:(encPt p++[lv]).set 6 lv'=encPt p++[lv']:=by
   rw [List.set_append_right _ _ (by simp)]
   simp
  rw [hset] at hst2
  simp only [hst2,bnd_some,b_add]
  rw [wr_succ (by omega)]
  obtain ⟨H3,hH3⟩:∃ H3,H3=H2.set xb (some (.cells (encPt p++[lv']) true)):=⟨_,rfl⟩
  rw [← hH3]
  have k9:∀ i,i≠xb→H3.get i=H2.get i:=fun i hi=>by rw [hH3]; simp [hi]
  have gx9:H3.get xb=some (.cells (encPt p++[lv']) true):=by rw [hH3]; simp
  have n9:H3.n=H2.n:=by rw [hH3]; rfl
  clear hH3
  have grow2:=f2.grow
  have lvx:¬ own lv' xb:=fun h=>by
   rcases ownl xb h with h | h
   ·exact hlx h
   ·omega
  have rx:¬ own r xb:=fun h=>by have:=(a6 xb h).1; omega
  have rlv:∀ i,own lv' i→¬ own r i:=fun i hi h=>by
   rcases ownl i hi with h1 | h1
   ·have:=(a6 i h).1; have:=hl.gs.lt h1; omega
   ·have:=a5.lt h; omega
  have g9:Gs 1 H3 lv' (lsl.map lsRow++[[r]]):=g2.keep (fun i hi=>k9 i (fun e=>lvx (e ▸ hi))) (by omega)
  have gr9:Gs 1 H3 r (ns'.map encN):=a5.keep (fun i hi=>by
   rw [k9 i (fun e=>rx (e ▸ hi)),k8 i (a5.lt hi) (fun h=>by have:=(a6 i hi).1; have:=hl.gs.lt h; omega)]) (by omega)
  obtain ⟨H4,z1,z2,z3,z4⟩:=frz_in (j:=0) g9 gr9 (noIds_map _ (fun _=>rfl) _) rfl rlv
  have hrow:([r]:List AV).set 0 (.imm 1 (ns'.map encN))=lsRow ns':=rfl
  rw [hrow] at z3
  have z3':Gs 1 H4 lv' ((lsl++[ns']).map lsRow):=by simpa using z3
  have same:∀ i,i<H'.n→i≠xb→¬ own lv i→¬ own r i→H4.get i=H'.get i:=fun i h1 h2 h3 h4=>by
   rw [z4 i (fun h=>by
    rcases ownl i h with h | h
    ·exact h3 h
    ·omega) h4,k9 i h2,k8 i h1 h3]
  have hA4:AS t C0 ab mb H0 cs0 (C2++D) cs' H4 y5 ns:=by
   refine hA7.loc hab (by omega) (fun i hi=>same i (by have:=hA7.fr.up; omega) (by omega) (fun h=>by have:=(hl.o i h).1; omega) (fun h=>by have:=(a6 i h).1; have:=hA.fr.up; omega)) (fun i hi=>same i (a1.gcs.lt hi) (fun e=>hxc7 (e ▸ hi)) (fun h=>(hl7.o i h).2.1 hi) (fun h=>(a6 i h).2 hi)) (fun i hi=>same i (hA7.out.lt hi) (fun e=>hx5 (e ▸ hi)) (fun h=>(hl.o i h).2.2 hi) (fun h=>by have:=(a6 i h).1; have:=hA.out.lt hi; omega))
  refine L2_fz z1 ?_
  refine ihm (k+1) H4 cs' (C2++D) y8 xb lv' (lsl++[ns']) (by omega) (by omega) hA4 (fun D2 hpre hD2=>?_) (h87.loc (by omega) fun i hi=>?_) ?_ hx0 (by omega) hxc7 hx5 hx8 ⟨z3',fun i hi=>?_⟩ lvx (fun i hi h=>?_) (by simp [hlk]) (fun j q' ns2 hq' hns2=>?_) (fun l hl=>?_) ?_
  ·refine hP D2 ((List.prefix_append C2 D).trans hpre) ?_
   rw [hD2,hdq,List.map_cons,List.sum_cons,List.length_append,a3]
   omega
  ·exact same i (by have:=h8.gs.lt hi; omega) (fun e=>hx8 (e ▸ hi)) (fun h=>hl8 i h hi) (fun h=>by have:=(a6 i h).1; have:=h8.gs.lt hi; omega)
  ·rw [z4 xb lvx rx]; exact gx9
  ·rcases ownl i hi with h | h
   ·exact hl7.o i h
   ·exact ⟨by omega,fun h'=>by have:=a1.gcs.lt h'; omega,fun h'=>by have:=hA7.out.lt h'; omega⟩
  ·rcases ownl i hi with h1 | h1
   ·exact hl8 i h1 h
   ·have:=h8.gs.lt h; omega
  ·rw [← List.append_assoc]
   by_cases hjk:j<lsl.length
   ·rw [List.getElem?_append_left hjk] at hns2
    exact (hrep j q' ns2 hq' hns2).mono
   ·rw [List.getElem?_append_right (by omega)] at hns2
    have h1:=(List.getElem?_eq_some_iff.1 hns2).1
    simp at h1
    have:j=k:=by omega
    subst this
    rw [hq] at hq'
    cases hq'
    simp [hlk] at hns2
    subst hns2
    exact a2
  ·rcases List.mem_append.1 hl with h | h
   ·exact hlen l h
   ·simp at h
    subst h
    have hsl:=(hp q hqm).2
    cases f with
    | zero=>exact hsl.elim
    | succ f =>
     have:=a2.1
     have:=hsl.1
     omega
  ·rw [← List.append_assoc,List.length_append,a3]
   omega
def LinkRep (C:List (List Lk)) (f:Nat) (cl:List Lk):Prop:=∀ (k:Nat) (x:Lk),cl[k]?=some x→x.lists.length=x.part.c.pseudos.length∧∀ (j:Nat) (q:Ps) (ns:List Nat),x.part.c.pseudos[j]?=some q→x.lists[j]?=some ns→Rep C f q.list ns
def cntP (f:Nat) (p:Pt):Nat:=(p.c.pseudos.map fun q=>cntF f q.list).sum
def SlOk (f:Nat) (s:Sl):Prop:=s.length≤NB∧∀ p ∈ s,CpOk p.c∧p.c.pseudos.length≤NB∧∀ q ∈ p.c.pseudos,(i64 q.a∧i64 q.b)∧SlsOk f q.list
theorem add_L1 {f:Nat} (ih:AddOk σ f) {t:AV} {C0:List (List Lk)} {ab mb:Nat} {H0:Hp} {cs0:AV} (hab:ab<H0.n) {K:AV→Hp→Prop} {y5:AV} {ns:List Nat} (hns:ns.length<NB) {s:Sl} (hs:SlOk f s) {y14 y15:AV} {m0:Nat} (hm0:m0<NB) {R:Nat} {Q:List (List Lk)→Prop}
  (hK:∀ (H:Hp) (cs:AV) (C2:List (List Lk)) (y5' y8 y11 y21 y22 y23 y31 y32 y33:AV) (cl:List Lk),AS t C0 ab mb H0 cs0 (C2++[cl]) cs H y5' (ns++[(C0++C2).length])→Q C2→cl.map (·.part)=s→LinkRep (C0++C2) f cl→(C0++C2).length+1+R≤NB →
   match_asked_add.L0 σ K (.ptr ab 0) y5' y8 y11 y14 y15 (I ((m0+1:Nat):Int)) y21 y22 y23 y31 y32 y33 H) :
  ∀ (n2 j:Nat) (H:Hp) (cs:AV) (C2:List (List Lk)) (y8 y11 y31 y32 y33:AV) (cl:List Lk),s.length - j=n2→j≤s.length→AS t C0 ab mb H0 cs0 C2 cs H y5 ns→(∀ D,C2 <+: D→D.length=C2.length+((s.drop j).map (cntP f)).sum→Q D)→Mine H0 cs y5 7 H y8 (cl.map encLk)→cl.map (·.part)=s.take j→LinkRep (C0++C2) f cl→(∀ x ∈ cl,LkOk x) →
   (C0++C2).length+(((s.drop j).map (cntP f)).sum+(1+R))≤NB →
   match_asked_add.L1 σ K (.ptr ab 0) y5 y8 y11 y14 y15 (I (m0:Int)) (.imm 6 (s.map encPt)) (I s.length) (I (j:Int)) y31 y32 y33 H:=by
 have hNB:NB=1048576:=rfl
 intro n2
 induction n2 with
 | zero =>
  intro j H cs C2 y8 y11 y31 y32 y33 cl hn hj hA hQ h8 hparts hrep hlk hcnt
  have:j=s.length:=by omega
  subst this
  rw [List.take_length] at hparts
  have hcl:cl.length=s.length:=by rw [← hparts,List.length_map]
  refine match_asked_add.L1_step ?_
  have hcs1:ldA false 1 H (.ptr ab 1)=some cs:=by simp [hA.add.gab]
  have hlenC:lenSl cs=some (I ((C0++C2).length:Int)):=by rw [hA.add.gcs.len,List.length_map]
  simp only [b_lss,Int.lt_irrefl,decide_false,bnd_some,ifB_lit,Bool.false_eq_true,if_false,n_ptr,sh_ptr,Nat.zero_add,hcs1,hlenC]
  have habn:=hA.add.nab
  have up0:=hA.fr.up
  have cslt:∀ i,own cs i→i<H.n:=fun i hi=>hA.add.gcs.lt hi
  refine bnd_app1 (y:=I ((C0++C2).length:Int)) hA.out rfl rfl rfl (by simp; omega) (by simp; omega) fun y5' H1 g1 f1=>?_
  have grow1:=f1.grow
  have k1:∀ i,i<H.n→¬ own y5 i→H1.get i=H.get i:=fun i h1 h2=>f1.same i h1 h2
  have h5ab:¬ own y5 ab:=fun h=>by have:=(hA.o5 ab h).1; omega
  have gab1:H1.get ab=some (.cells [t,cs,.mp mb] true):=by rw [k1 ab habn h5ab]; exact hA.add.gab
  have gcs1:Gs 1 H1 cs ((C0++C2).map fun c=>[chainV c]):=hA.add.gcs.keep (fun i hi=>k1 i (cslt i hi) (fun h=>(hA.o5 i h).2 hi)) f1.grow
  have g81:Gs 7 H1 y8 (cl.map encLk):=h8.gs.keep (fun i hi=>k1 i (h8.gs.lt hi) (fun h=>(h8.o i hi).2.2 h)) f1.grow
  have hcs2:ldA false 1 H1 (.ptr ab 1)=some cs:=by simp [gab1]
  simp only [n_ptr,bnd_some,sh_ptr,Nat.zero_add,hcs2]
  have cel8:=h8.gs.cells
  have own5:∀ i,own y5' i→own y5 i∨(H.n≤i∧i<H1.n):=f1.mine
  refine bnd_app1 (y:=y8) gcs1 (by rw [cel8.1]; rfl) cel8.2 (by rw [cel8.1]; simpa using h8.gs.one) (by simp at hcnt ⊢; omega) (by simp at hcnt ⊢; omega) fun cs' H2 g2 f2=>?_
  rw [cel8.1] at g2
  have grow2:=f2.grow
  have csab:¬ own cs ab:=hA.add.csab
  have k2:∀ i,i<H1.n→¬ own cs i→H2.get i=H1.get i:=fun i h1 h2=>f2.same i h1 h2
  have gab2:H2.get ab=some (.cells [t,cs,.mp mb] true):=by rw [k2 ab (by omega) csab]; exact gab1
  have ownc:∀ i,own cs' i→own cs i∨(H1.n≤i∧i<H2.n):=f2.mine
  have cs'ab:¬ own cs' ab:=fun h=>by
   rcases ownc ab h with h | h
   ·exact csab h
   ·omega
  have hst:=g2.st (id:=ab) (off:=1) gab2 (by simp)
  simp only [n_ptr,bnd_some,sh_ptr,Nat.zero_add,hst,b_add]
  rw [wr_succ (by omega)]
  obtain ⟨H3,hH3⟩:∃ H3,H3=H2.set ab (some (.cells ([t,cs,.mp mb].set 1 cs') true)):=⟨_,rfl⟩
  rw [← hH3]
  have k3:∀ i,i≠ab→H3.get i=H2.get i:=fun i hi=>by rw [hH3]; simp [hi]
  have gab3:H3.get ab=some (.cells [t,cs',.mp mb] true):=by rw [hH3]; simp
  have n3:H3.n=H2.n:=by rw [hH3]; rfl
  clear hH3
  have c8:∀ i,own cs' i→¬ own y8 i:=fun i hi h=>by
   rcases ownc i hi with h1 | h1
   ·exact (h8.o i h).2.1 h1
   ·have:=h8.gs.lt h; omega
  have g3:Gs 1 H3 cs' (((C0++C2).map fun c=>[chainV c])++[[y8]]):=g2.keep (fun i hi=>k3 i (fun e=>cs'ab (e ▸ hi))) (by omega)
  have g83:Gs 7 H3 y8 (cl.map encLk):=g81.keep (fun i hi=>by
   have h1:=(h8.o i hi)
   have:=h8.gs.lt hi
   rw [k3 i (by omega),k2 i (by omega) h1.2.1]) (by omega)
  obtain ⟨H4,z1,z2,z3,z4⟩:=frz_in (j:=0) g3 g83 (noIds_map _ noId_lk _) rfl c8
  have hrow:([y8]:List AV).set 0 (.imm 7 (cl.map encLk))=[chainV cl]:=rfl
  rw [hrow] at z3
  have z3':Gs 1 H4 cs' ((C0++(C2++[cl])).map fun c=>[chainV c]):=by simpa using z3
  have y8ab:¬ own y8 ab:=fun h=>by have:=(h8.o ab h).1; omega
  have same:∀ i,i<H1.n→i≠ab→¬ own cs i→¬ own y8 i→H4.get i=H1.get i:=fun i h1 h2 h3 h4=>by
   rw [z4 i (fun h=>by
    rcases ownc i h with h | h
    ·exact h3 h
    ·omega) h4,k3 i h2,k2 i h1 h3]
  refine L0_fz z1 ?_
  have o5':∀ i,own y5' i→H0.n≤i∧¬ own cs i∧¬ own y8 i:=fun i hi=>by
   rcases own5 i hi with h | h
   ·exact ⟨(hA.o5 i h).1,(hA.o5 i h).2,fun h'=>(h8.o i h').2.2 h⟩
   ·exact ⟨by omega,fun h'=>by have:=cslt i h'; omega,fun h'=>by have:=h8.gs.lt h'; omega⟩
  have g5:Gs 1 H4 y5' ((ns++[(C0++C2).length]).map encN):=by
   have:(I ((C0++C2).length:Int)).cells=encN (C0++C2).length:=rfl
   rw [this] at g1
   have h1:Gs 1 H1 y5' ((ns++[(C0++C2).length]).map encN):=by simpa using g1
   refine h1.keep (fun i hi=>same i (h1.lt hi) (fun e=>?_) (o5' i hi).2.1 (o5' i hi).2.2) (by omega)
   subst e
   have:=(o5' i hi).1
   omega
  refine hK H4 cs' C2 y5' y8 _ _ _ _ _ _ _ cl ⟨⟨?_,by omega,z3',cs'ab⟩,⟨by omega,fun i h1 h2 h3=>?_,fun i hi=>?_⟩,fun c hc=>?_,g5,fun i hi=>⟨(o5' i hi).1,fun h=>?_⟩⟩ (hQ C2 (List.prefix_refl _) (by simp)) hparts hrep (by simp at hcnt ⊢; omega)
  ·rw [z4 ab cs'ab y8ab]; exact gab3
  ·have hi5:¬ own y5 i:=fun h=>by have:=(hA.o5 i h).1; omega
   have hi8:¬ own y8 i:=fun h=>by have:=(h8.o i h).1; omega
   have hic:¬ own cs i:=fun h=>by
    rcases hA.fr.mine i h with h | h
    ·exact h3 h
    ·omega
   rw [same i (by omega) h2 hic hi8,k1 i (by omega) hi5]
   exact hA.fr.get i h1 h2 h3
  ·rcases ownc i hi with h | h
   ·exact hA.fr.mine i h
   ·exact .inr (by omega)
  ·rcases List.mem_append.1 hc with h | h
   ·exact hA.ok c h
   ·simp at h
    subst h
    exact ⟨by rw [hcl]; exact hs.1,hlk⟩
  ·rcases ownc i h with h | h
   ·exact (o5' i hi).2.1 h
   ·rcases own5 i hi with h' | h'
    ·have:=hA.out.lt h'; omega
    ·omega
 | succ n2 ih2 =>
  intro j H cs C2 y8 y11 y31 y32 y33 cl hn hj hA hQ h8 hparts hrep hlk hcnt
  have hlt:j<s.length:=by omega
  obtain ⟨p,hp⟩:=get_lt hlt
  have hpm:=List.mem_of_getElem? hp
  obtain ⟨hc1,hc2,hc3⟩:=hs.2 p hpm
  have hlt':(j:Int)<s.length:=by omega
  have hdp:s.drop j=p::s.drop (j+1):=drop_get hp
  rw [hdp,List.map_cons,List.sum_cons] at hcnt
  have hcl:cl.length=j:=by
   have:=congrArg List.length hparts
   simp at this
   omega
  refine match_asked_add.L1_step ?_
  have hst1:stA 6 (H.new (.cells [I 0,Sx ⟨#[]⟩,.lit (.slice none 0 0),.lit (.slice none 0 0),.lit (.slice none 0 0),.lit (.slice none 0 0)] true)) (.ptr H.n 0) (.agg (encPt p))=some ((H.new (.cells [I 0,Sx ⟨#[]⟩,.lit (.slice none 0 0),.lit (.slice none 0 0),.lit (.slice none 0 0),.lit (.slice none 0 0)] true)).set H.n (some (.cells (encPt p) true))):=by
   simp
   rw [ov_Pt p (by simp)]
  obtain ⟨H1,hH1⟩:∃ H1,H1=(H.new (.cells [I 0,Sx ⟨#[]⟩,.lit (.slice none 0 0),.lit (.slice none 0 0),.lit (.slice none 0 0),.lit (.slice none 0 0)] true)).set H.n (some (.cells (encPt p) true)):=⟨_,rfl⟩
  rw [← hH1] at hst1
  have k1:∀ i,i<H.n→H1.get i=H.get i:=fun i hi=>by
   have:i≠H.n:=by omega
   rw [hH1]; simp [this]
  have g1:H1.get H.n=some (.cells (encPt p) true):=by rw [hH1]; simp
  have n1:H1.n=H.n+1:=by rw [hH1]; rfl
  clear hH1
  have hb:bldR [I 0,Sx ⟨#[]⟩,.lit (.slice none 0 0),.lit (.slice none 0 0),.lit (.slice none 0 0),.lit (.slice none 0 0),.lit (.slice none 0 0)] [(0,6,.agg (encPt p))]=some (encPt p++[.lit (.slice none 0 0)]):=by
   simp only [bldR,cells_agg,len_encPt,beqN,decide_true,isAny_agg,Bool.not_false,Bool.and_true,bleN]
   simp [overlay]
  have hst2:stA 7 (H1.new (.cells [I 0,Sx ⟨#[]⟩,.lit (.slice none 0 0),.lit (.slice none 0 0),.lit (.slice none 0 0),.lit (.slice none 0 0),.lit (.slice none 0 0)] true)) (.ptr H1.n 0) (.agg (encPt p++[.lit (.slice none 0 0)]))=some ((H1.new (.cells [I 0,Sx ⟨#[]⟩,.lit (.slice none 0 0),.lit (.slice none 0 0),.lit (.slice none 0 0),.lit (.slice none 0 0),.lit (.slice none 0 0)] true)).set H1.n (some (.cells (encPt p++[.lit (.slice none 0 0)]) true))):=by
   simp
   rw [overlay_all (by simp)]
  obtain ⟨H2,hH2⟩:∃ H2,H2=(H1.new (.cells [I 0,Sx ⟨#[]⟩,.lit (.slice none 0 0),.lit (.slice none 0 0),.lit (.slice none 0 0),.lit (.slice none 0 0),.lit (.slice none 0 0)] true)).set H1.n (some (.cells (encPt p++[.lit (.slice none 0 0)]) true)):=⟨_,rfl⟩
  rw [← hH2] at hst2
  have k2:∀ i,i<H1.n→H2.get i=H1.get i:=fun i hi=>by
   have:i≠H1.n:=by omega
   rw [hH2]; simp [this]
  have g2:H2.get H1.n=some (.cells (encPt p++[.lit (.slice none 0 0)]) true):=by rw [hH2]; simp
  have n2':H2.n=H1.n+1:=by rw [hH2]; rfl
  clear hH2
  have g1':H2.get H.n=some (.cells (encPt p) true):=by rw [k2 H.n (by omega)]; exact g1
  have hps:ldL false 1 ((encPt p).drop 5)=some (.imm 4 (p.c.pseudos.map encPs)):=by rw [encPt_eq,encCp_eq]; rfl
  simp only [b_lss,hlt',decide_true,bnd_some,ifB_lit,if_true,ix_map hp,ld_ip,ldL_pt,allocK_eq,hst1,ld_ptr,g1,ldO_cells,List.drop_zero,hb,hst2,sh_ptr,Nat.zero_add,g1',hps,len_imm,List.length_map]
  have up0:=hA.fr.up
  have kk:∀ i,i<H.n→H2.get i=H.get i:=fun i hi=>by rw [k2 i (by omega),k1 i hi]
  have hA2:AS t C0 ab mb H0 cs0 C2 cs H2 y5 ns:=hA.loc hab (by omega) (fun i hi=>kk i (by omega)) (fun i hi=>kk i (hA.add.gcs.lt hi)) (fun i hi=>kk i (hA.out.lt hi))
  refine add_L2 ih hab hc2 hc3 (j:=j) (R:=((s.drop (j+1)).map (cntP f)).sum+(1+R)) (P:=fun D=>C2 <+: D∧D.length=C2.length+cntP f p) (by have:=hs.1; omega) (Nat.le_of_eq hcl) (fun H' cs' C3 y8' y11' lsl y31' y32' y33' b1 b2 b3 b4 b5 b6 b7=>?_) p.c.pseudos.length 0 H2 cs C2 y8 H1.n (.lit (.slice none 0 0)) [] (by omega) (Nat.zero_le _) hA2 (fun D h1 h2=>⟨h1,by rw [h2]; rfl⟩) (h8.loc (by omega) fun i hi=>kk i (h8.gs.lt hi)) g2 (by omega) (by omega) (fun h=>by have:=hA.add.gcs.lt h; omega) (fun h=>by have:=hA.out.lt h; omega) (fun h=>by have:=h8.gs.lt h; omega) ⟨.nil,fun i h=>h.elim⟩ (fun h=>h) (fun i h=>h.elim) rfl (fun j q ns' _ h=>by simp at h) (fun l h=>by cases h) (by have hcp:cntP f p=(p.c.pseudos.map (fun q=>cntF f q.list)).sum:=rfl; rw [hcp] at hcnt; simp only [List.drop_zero]; omega)
  obtain ⟨D,hD⟩:=b2.1
  refine ih2 (j+1) H' cs' C3 y8' y11' y31' y32' y33' (cl++[Lk.mk p lsl]) (by omega) (by omega) b1 (fun D2 h1 h2=>hQ D2 (b2.1.trans h1) ?_) b3 ?_ (fun k x hx=>?_) (fun x hx=>?_) b7
  ·rw [h2,b2.2,hdp,List.map_cons,List.sum_cons]
   omega
  ·rw [List.map_append,hparts,List.take_succ_eq_append_getElem hlt]
   rw [List.getElem?_eq_getElem hlt] at hp
   rw [Option.some.inj hp]
   rfl
  ·by_cases hk:k<cl.length
   ·rw [List.getElem?_append_left hk] at hx
    refine ⟨(hrep k x hx).1,fun j q ns' h1 h2=>?_⟩
    have:=((hrep k x hx).2 j q ns' h1 h2).mono (D:=D)
    rwa [List.append_assoc,hD] at this
   ·rw [List.getElem?_append_right (by omega)] at hx
    have h1:=(List.getElem?_eq_some_iff.1 hx).1
    simp at h1
    have:k - cl.length=0:=by omega
    rw [this] at hx
    simp at hx
    subst hx
    exact ⟨b4,b5⟩
  ·rcases List.mem_append.1 hx with h | h
   ·exact hlk x h
   ·simp at h
    subst h
    refine ⟨hc1,fun q hq=>(hc3 q hq).1,fun l hl=>?_⟩
    have:=b6 l hl
    rw [reach_eq]
    omega
theorem add_step {f:Nat} (ih:AddOk σ f):AddOk σ (f+1):=by
 have hNB:NB=1048576:=rfl
 intro l hl t C ab mb cs H K hA hcnt hK
 have L0:∀ (n m:Nat) (H1:Hp) (cs1:AV) (C2:List (List Lk)) (y5 y8 y11 y21 y22 y23 y31 y32 y33:AV) (ns:List Nat),l.length - m=n→m≤l.length→AS t C ab mb H cs C2 cs1 H1 y5 ns→Rep (C++C2) (f+1) (l.take m) ns→C2.length=cntF (f+1) (l.take m)→(C++C2).length+cntF (f+1) (l.drop m)≤NB →
   match_asked_add.L0 σ K (.ptr ab 0) y5 y8 y11 (sls l) (I l.length) (I (m:Int)) y21 y22 y23 y31 y32 y33 H1:=by
  intro n
  induction n with
  | zero =>
   intro m H1 cs1 C2 y5 y8 y11 y21 y22 y23 y31 y32 y33 ns hn hm h1 hr hc hb
   have:m=l.length:=by omega
   subst this
   rw [List.take_length] at hr hc
   refine match_asked_add.L0_step ?_
   simp only [b_lss,Int.lt_irrefl,decide_false,bnd_some,ifB_lit,Bool.false_eq_true,if_false]
   exact hK H1 cs1 C2 y5 ns h1.add hr hc h1.ok h1.out h1.o5 h1.fr
  | succ n ihn =>
   intro m H1 cs1 C2 y5 y8 y11 y21 y22 y23 y31 y32 y33 ns hn hm h1 hr hc hb
   have hlt:m<l.length:=by omega
   obtain ⟨s,hs⟩:=get_lt hlt
   have hsm:=List.mem_of_getElem? hs
   have hsk:SlOk f s:=hl.2 s hsm
   have hlt':(m:Int)<l.length:=by omega
   have hds:l.drop m=s::l.drop (m+1):=drop_get hs
   have hlb:=hl.1
   have hnl:ns.length=m:=by rw [hr.1,List.length_take]; omega
   have hcons:cntF (f+1) (s::l.drop (m+1))=1+(s.map (cntP f)).sum+cntF (f+1) (l.drop (m+1)):=by
    simp [cntF]
    rfl
   rw [hds,hcons] at hb
   have htk:cntF (f+1) (l.take (m+1))=cntF (f+1) (l.take m)+(1+(s.map (cntP f)).sum):=by
    have:l.take (m+1)=l.take m++[s]:=by rw [List.take_add_one,hs]; rfl
    rw [this]
    simp [cntF]
    rfl
   refine match_asked_add.L0_step ?_
   have hix:ixaSl 1 (sls l) (I (m:Int))=some (.ip (encSl s)):=ix_map hs
   have hst:stA 1 (H1.new (.cells [.lit (.slice none 0 0)] true)) (.ptr H1.n 0) (.agg (encSl s))=some ((H1.new (.cells [.lit (.slice none 0 0)] true)).set H1.n (some (.cells (encSl s) true))):=by
    simp [encSl]
   simp only [b_lss,hlt',decide_true,bnd_some,ifB_lit,if_true,hix,ld_ip,ldL_sl,allocK_eq,hst,sh_ptr,Nat.zero_add,ld_ptr,hp_get_set,ldO_cells,List.drop_zero,f_encSl0,len_imm,List.length_map]
   have up0:=h1.fr.up
   have hab:=hA.nab
   have kk:∀ i,i<H1.n→((H1.new (.cells [.lit (.slice none 0 0)] true)).set H1.n (some (.cells (encSl s) true))).get i=H1.get i:=fun i hi=>by
    have:i≠H1.n:=by omega
    simp [this]
   have h1':=h1.loc (H':=(H1.new (.cells [.lit (.slice none 0 0)] true)).set H1.n (some (.cells (encSl s) true))) hab (by simp) (fun i hi=>kk i (by omega)) (fun i hi=>kk i (h1.add.gcs.lt hi)) (fun i hi=>kk i (h1.out.lt hi))
   refine add_L1 ih hab (by omega) hsk (m0:=m) (by omega) (R:=cntF (f+1) (l.drop (m+1))) (Q:=fun D=>C2 <+: D∧D.length=C2.length+(s.map (cntP f)).sum) (fun H' cs' C3 y5' y8' y11' y21' y22' y23' y31' y32' y33' cl b1 b2 b3 b4 b5=>?_) s.length 0 _ cs1 C2 (.lit (.slice none 0 0)) _ _ _ _ [] (by omega) (Nat.zero_le _) h1' (fun D g1 g2=>⟨g1,by simpa using g2⟩) ⟨.nil,fun i h=>h.elim⟩ rfl (fun k x h=>by simp at h) (fun x h=>by cases h) (by simp at hb ⊢; omega)
   obtain ⟨D,hD⟩:=b2.1
   refine ihn (m+1) H' cs' (C3++[cl]) y5' y8' y11' y21' y22' y23' y31' y32' y33' _ (by omega) (by omega) b1 ⟨by simp [hnl]; omega,fun i s' n' hs' hn'=>?_⟩ ?_ (by simp at b5 ⊢; omega)
   ·by_cases hi:i<m
    ·rw [List.getElem?_take,if_pos (by omega)] at hs'
     rw [List.getElem?_append_left (by omega)] at hn'
     have hr2:Rep (C++(C3++[cl])) (f+1) (l.take m) ns:=by
      have:=hr.mono (D:=D++[cl])
      rwa [show C++C2++(D++[cl])=C++(C3++[cl]) by rw [← hD]; simp] at this
     exact hr2.2 i s' n' (by rw [List.getElem?_take,if_pos hi]; exact hs') hn'
    ·rw [List.getElem?_append_right (by omega)] at hn'
     have h2:=(List.getElem?_eq_some_iff.1 hn').1
     simp at h2
     have him:i=m:=by omega
     subst him
     rw [List.getElem?_take,if_pos (by omega),hs] at hs'
     cases hs'
     simp [hnl] at hn'
     subst hn'
     refine ⟨cl,by simp,b3,fun k x hx=>⟨(b4 k x hx).1,fun j q ns' g1 g2=>?_⟩⟩
     have:=((b4 k x hx).2 j q ns' g1 g2).mono (D:=[cl])
     rwa [List.append_assoc] at this
   ·rw [htk,List.length_append,b2.2,hc]
    simp
    omega
 refine match_asked_add.run ?_
 simp
 refine L0 l.length 0 H cs [] _ _ _ _ _ _ _ _ _ [] (by omega) (Nat.zero_le _) ⟨by simpa using hA,.refl _ _ _,fun c h=>(by cases h),.nil,fun i h=>h.elim⟩ ⟨rfl,fun i s n h=>by simp at h⟩ (by simp [cntF]) (by simpa using hcnt)
theorem add_ok:∀ (f:Nat),AddOk σ f
 | 0=>fun l h=>h.elim
 | f+1=>add_step (add_ok f)
end
end Go.Proofs.YthdcghnjndhecaaGreat.Ev
namespace Go.Proofs.YthdcghnjndhecaaGreat.Ev
set_option linter.unusedVariables false
set_option linter.unusedSimpArgs false
variable {σ:Sig}
theorem frz_res {sz:Nat} {H:Hp} {x:AV} {rows:List (List AV)} (hg:Gs sz H x rows) (hn:noIdss rows=true) :
  ∃ Hd H2:Hp,Hd.n=H.n∧H2.n=H.n∧(∀ id k,Hd.get id=some k→H.get id=some k∧H2.get id=none)∧(∀ id k2,H2.get id=some k2→∃ k1,H.get id=some k1∧FzB Hd k1 k2)∧Fz Hd x (.imm sz rows)∧∀ j,¬ own x j→H2.get j=H.get j:=by
 cases hg with
 | nil =>
  let Hd:Hp:=⟨H.n,Hp.empty.t⟩
  have hd0:∀ id,Hd.get id=none:=fun id=>by simp [Hd,Hp.empty,Hp.get,Tr.get]
  exact ⟨Hd,H,rfl,rfl,fun id k h=>(by rw [hd0] at h; cases h),fun id k2 h=>⟨k2,h,.refl _ _⟩,.nil,fun j _=>rfl⟩
 | sl hlt hg hsz =>
  rename_i id exx
  let Hd:Hp:=(⟨H.n,Hp.empty.t⟩:Hp).set id (some (.cells rows.flatten exx))
  have hd0:∀ j,Hd.get j=if j=id then some (.cells rows.flatten exx) else none:=fun j=>by
   show ((⟨H.n,Hp.empty.t⟩:Hp).set id _).get j=_
   rw [hp_get_set]
   split
   ·rfl
   ·simp [Hp.empty,Hp.get,Tr.get]
  have hf:Fz Hd (.sl id 0 sz rows.length none) (.imm sz rows):=.rows (cs:=rows.flatten) (ex:=exx) (by rw [hd0,if_pos rfl]) hsz (by rw [List.drop_zero]; exact List.take_of_length_le (by rw [flatten_len hsz]; exact Nat.le_refl _)) hn
  refine ⟨Hd,H.set id none,rfl,rfl,fun j k h=>?_,fun j k2 h=>?_,hf,fun j ho=>?_⟩
  ·rw [hd0] at h
   split at h
   ·rename_i e; subst e; cases h
    exact ⟨hg,by simp⟩
   ·cases h
  ·rw [hp_get_set] at h
   split at h
   ·cases h
   ·exact ⟨k2,h,.refl _ _⟩
  ·have:j≠id:=fun e=>ho (by rw [e]; rfl)
   simp [this]
theorem add_sp {f:Nat} {l:List Sl} (hl:SlsOk f l) {t:AV} {C:List (List Lk)} {ab mb:Nat} {cs:AV} {H:Hp} {K:AV→Hp→Prop} (hA:AddH t C ab mb cs H) (hc:C.length+cntF f l≤NB)
  (hK:∀ (H':Hp) (cs':AV) (C2:List (List Lk)) (ns:List Nat),AddH t (C++C2) ab mb cs' H'→Rep (C++C2) f l ns→C2.length=cntF f l→(∀ c ∈ C2,ChOk c)→AFr H cs ab H' cs'→K (ints ns) H'):callK Tryz.prog σ n_match_asked_add [.ptr ab 0,sls l] H K:=by
 obtain ⟨r,H1,hg,cs',C2,ns,h1,h2,h3,h4,h5,h6,h7⟩:=add_ok (σ:=σ) f l hl t C ab mb cs H (fun r H'=>∃ cs' C2 ns,AddH t (C++C2) ab mb cs' H'∧Rep (C++C2) f l ns∧C2.length=cntF f l∧(∀ c ∈ C2,ChOk c)∧Gs 1 H' r (ns.map encN)∧(∀ j,own r j→H.n≤j∧¬ own cs' j)∧AFr H cs ab H' cs') hA hc fun H' cs' C2 r ns a b c d e f g=>⟨cs',C2,ns,a,b,c,d,e,f,g⟩
 obtain ⟨Hd,H2,a1,a2,a3,a4,a5,a6⟩:=frz_res h5 (noIds_map _ (fun _=>rfl) ns)
 have hab:=hA.nab
 refine callK_of (hg.frzH a2 a1 a3 a4 (.inr a5)) (hK H2 cs' C2 ns (h1.loc (by omega) (a6 _ fun h=>?_) fun j hj=>a6 _ fun h=>(h6 j h).2 hj) h2 h3 h4 (h7.loc (by omega) fun j hj=>a6 _ fun h=>?_))
 ·have:=(h6 _ h).1; omega
 ·have:=(h6 _ h).1; omega
theorem selC_app {C D:List (List Lk)} {n:Nat} (h:n<C.length):selC (C++D) n=selC C n:=by
 unfold selC
 rw [List.getD_eq_getElem?_getD,List.getD_eq_getElem?_getD,List.getElem?_append_left h]
theorem tru_app {L:List Nd} {C D:List (List Lk)} {n:Nat} (h:n<C.length) (i e:Nat) (a:Bool):Tru L (C++D) n i e a=Tru L C n i e a:=by
 unfold Tru
 rw [selC_app h]
theorem MemoOk.app {L:List Nd} {C D:List (List Lk)} {es:List (AV × AV)} (h:MemoOk C.length (Tru L C) es):MemoOk (C++D).length (Tru L (C++D)) es:=fun p hp=>by
 obtain ⟨n,i,e,a,h1,h2,h3⟩:=h p hp
 exact ⟨n,i,e,a,by rw [List.length_append]; omega,by rw [tru_app h1]; exact h2,h3⟩
theorem cntF_cons (f:Nat) (s:Sl) (l:List Sl):cntF f (s::l)=cntF f [s]+cntF f l:=by
 cases f with
 | zero=>rfl
 | succ f=>simp [cntF]
theorem Nest.one {f:Nat} {l:List Sl} (h:Nest f l) {s:Sl} (hs:s ∈ l):Nest f [s]:=by
 cases f with
 | zero=>exact h
 | succ f=>exact fun s' hs'=>by rw [List.mem_singleton.1 hs']; exact h s hs
theorem SlsOk.one {f:Nat} {l:List Sl} (h:SlsOk f l) {s:Sl} (hs:s ∈ l):SlsOk f [s]:=by
 cases f with
 | zero=>exact h
 | succ f=>exact ⟨(by show 1≤NB; decide),fun s' hs'=>by rw [List.mem_singleton.1 hs']; exact h.2 s hs⟩
theorem sl_one {l:List Sl} {m:Nat} {s:Sl} (h:l[m]?=some s):slSl 1 (sls l) (some (I (m:Int))) (some (I ((m+1:Nat):Int))) none=some (sls [s]):=by
 have hlt:=(List.getElem?_eq_some_iff.1 h).1
 have e1:((m:Int)+1)≤l.length:=by omega
 have e2:(0:Int)≤(m:Int)+1:=by omega
 have e3:((m:Int)+1).toNat=m+1:=by omega
 have e4:(List.drop m (l.map encSl)).take 1=[encSl s]:=by
  rw [← List.map_drop,drop_get h]; rfl
 simp [slSl,intO,intA,slSl0,sls,boundsA,boundA,beqN,e1,e2,e3,e4,show ((m:Int)≤(m:Int)+1) from by omega]
def mayAny (L:List Nd) (f:Nat) (l:List Sl) (e:Nat):Bool:=l.any fun s=>mayF f [s] 8&&AA L [s] e
structure McT (σ:Sig) (L:List Nd) (d:List Nat):Prop where
 hC:HasC σ
 hB:Built L L.length d
 hN:L.length≤4096
 sm:∀ e,e<L.length→SmN (lowN (ndAt L e))
structure SelOk (f:Nat) (l:List Sl):Prop where
 wf:slsWf Lmax l
 ok:SlsOk f l
 nest:Nest f l
 hf:f≤12
 cnt:cntF f l≤NB
section
attribute [local irreducible] match_Any.L0
theorem Any_ok {L:List Nd} {d:List Nat} (M:McT σ L d) {f:Nat} {l:List Sl} (S:SelOk f l) (e:Int) (H:Hp) :
  Good Tryz.prog σ n_match_Any [domT L d,I e,sls l] H (Bo (decide (0≤e)&&decide (e<L.length)&&mayAny L f l e.toNat)) H:=by
 have hNB:NB=1048576:=rfl
 refine good_by (fun K hK=>match_Any.run (callK_of (is_ok L d e _) ?_)) (by simp [noIds,noId,noId_domT,noId_sls]) rfl H
 simp only [u_not,bnd_some,ifB_lit]
 cases hin:(decide (0≤e)&&decide (e<L.length)) with
 | false=>rw [hin] at hK; simpa using hK _
 | true =>
 rw [hin] at hK
 simp only [Bool.true_and] at hK
 simp only [Bool.and_eq_true,decide_eq_true_eq] at hin
 obtain ⟨en,rfl⟩:∃ en:Nat,e=(en:Int):=⟨e.toNat,by omega⟩
 have he:en<L.length:=by omega
 rw [Int.toNat_natCast] at hK
 simp only [Bool.not_true,Bool.false_eq_true,if_false]
 have hlen:lenSl (sls l)=some (I (l.length:Int)):=by unfold sls; simp
 have hlw:l.length≤NB:=by
  have:=S.ok
  revert this
  cases f with
  | zero=>exact fun h=>h.elim
  | succ f=>exact fun h=>h.1
 have L0:∀ (k m:Nat) (H1:Hp) (C:List (List Lk)) (ab mb:Nat) (cs:AV),l.length - m=k→m≤l.length→Asks (domT L d) C (Tru L C) ab mb cs H1→¬ own cs ab→Mc σ L d C→C.length+cntF f (l.drop m)≤NB→(∀ H,K (Bo (mayAny L f (l.drop m) en)) H) →
   match_Any.L0 σ K (I (en:Int)) (sls l) (.ptr ab 0) (I l.length) (I (m:Int)) H1:=by
  intro k
  induction k with
  | zero =>
   intro m H1 C ab mb cs hk hm hA hcs hM hc hK
   have:m=l.length:=by omega
   subst this
   refine match_Any.L0_step ?_
   simp
   simpa [mayAny] using hK H1
  | succ k ih =>
   intro m H1 C ab mb cs hk hm hA hcs hM hc hK
   have hlt:m<l.length:=by omega
   obtain ⟨s,hs⟩:=get_lt hlt
   have hsm:=List.mem_of_getElem? hs
   have hlt':(m:Int)<l.length:=by omega
   rw [drop_get hs] at hK hc
   rw [cntF_cons] at hc
   have hwf:slsWf Lmax [s]:=⟨(by show 1≤Lmax; decide),fun s' h=>by rw [List.mem_singleton.1 h]; exact S.wf.2 s hsm⟩
   have hn1:=S.nest.one hsm
   have hcons:mayAny L f (s::l.drop (m+1)) en=((mayF f [s] 8&&AA L [s] en)||mayAny L f (l.drop (m+1)) en):=by simp [mayAny]
   rw [hcons] at hK
   refine match_Any.L0_step ?_
   simp only [b_lss,hlt',decide_true,bnd_some,ifB_lit,if_true,b_add,wr_succ (show m<9000000000000000000 by omega),sl_one hs]
   refine callK_of (may_ok f [s] 8 _ hwf hn1 (by omega)) ?_
   simp only [ifB_lit]
   cases hmay:mayF f [s] 8 with
   | false =>
    rw [hmay] at hK
    simp only [Bool.false_and,Bool.false_or] at hK
    simp only [Bool.false_eq_true,if_false]
    exact ih (m+1) H1 C ab mb cs (by omega) (by omega) hA hcs hM (by omega) hK
   | true =>
    rw [hmay] at hK
    simp only [Bool.true_and] at hK
    simp only [if_true]
    have nmb:=hA.nmb
    have nab:=hA.nab
    refine add_sp (S.ok.one hsm) ⟨hA.gab,hA.nab,hA.gcs,hcs⟩ (by omega) fun H' cs' C2 ns b1 b2 b3 b4 b5=>?_
    have up:=b5.up
    have hA':Asks (domT L d) (C++C2) (Tru L (C++C2)) ab mb cs' H':=by
     obtain ⟨es,g1,g2⟩:=hA.memo
     refine ⟨b1.gab,b1.nab,by omega,hA.ne,b1.gcs,fun h=>?_,es,by rw [b5.get mb nmb hA.ne.symm hA.csm]; exact g1,g2.app⟩
     rcases b5.mine mb h with h | h
     ·exact hA.csm h
     ·omega
    have hM':Mc σ L d (C++C2):=by
     have hre:NB≤reachBytes:=by rw [reach_eq]; decide
     refine ⟨M.hC,M.hB,M.hN,M.sm,?_,fun c hc'=>?_,fun c hc'=>?_⟩
     ·rw [List.length_append,b3]; omega
     ·rcases List.mem_append.1 hc' with h | h
      ·exact hM.ll c h
      ·exact Nat.le_trans (b4 c h).len hre
     ·rcases List.mem_append.1 hc' with h | h
      ·exact hM.lk c h
      ·exact (b4 c h).lk
    have hns:ns.length≤reachBytes:=by
     have:ns.length=1:=by
      have:=b2
      revert this
      cases f with
      | zero=>exact fun h=>h.elim
      | succ f=>exact fun h=>h.1
     rw [this]; decide
    refine any_ok hM' f S.hf [s] ns b2 hn1 S.hf hns en he ab mb cs' H' _ hA' fun H2 h2 kp2=>?_
    simp only [ifB_lit]
    cases haa:AA L [s] en with
    | true =>
     rw [haa] at hK
     simpa using hK H2
    | false =>
     rw [haa] at hK
     simp only [Bool.false_or] at hK
     simp only [Bool.false_eq_true,if_false]
     exact ih (m+1) H2 (C++C2) ab mb cs' (by omega) (by omega) h2 b1.csab hM' (by rw [List.length_append,b3]; omega) hK
 refine match_begin.run ?_
 have hb:bldR [.lit (.pointer none),.lit (.slice none 0 0),.lit (.map none)] [(0,1,domT L d),(2,1,.mp Hp.empty.n)]=some [domT L d,.lit (.slice none 0 0),.mp Hp.empty.n]:=rfl
 simp only [hb,bnd_some,boxK_agg,hlen]
 refine L0 l.length 0 _ [] _ Hp.empty.n (.lit (.slice none 0 0)) (by omega) (Nat.zero_le _) ⟨?_,?_,?_,?_,.nil,fun h=>h.elim,[],?_,fun p hp=>by cases hp⟩ (fun h=>h.elim) ⟨M.hC,M.hB,M.hN,M.sm,Nat.zero_le _,fun c hc=>(by cases hc),fun c hc=>(by cases hc)⟩ (by simpa using S.cnt) (by simpa using hK)
 ·simp
 ·simp
 ·simp only [Hp.n_new]; omega
 ·simp
 ·simp
end
end Go.Proofs.YthdcghnjndhecaaGreat.Ev
namespace Go.Proofs.YthdcghnjndhecaaGreat.Ev
set_option linter.unusedVariables false
set_option linter.unusedSimpArgs false
variable {σ:Sig}
theorem fz_sl1 {H:Hp} {id:Nat} {s:Sl} {ex:Bool} {cap:Option Nat} (hg:H.get id=some (.cells (encSl s) ex)):Fz H (.sl id 0 1 1 cap) (sls [s]):=by
 have h1:(encSl s).length=1:=rfl
 have:Fz H (.sl id 0 1 [encSl s].length cap) (.imm 1 [encSl s]):=.rows hg (by simp [h1]) (by simp; exact List.take_of_length_le (by rw [h1]; exact Nat.le_refl _)) (by simp [noIdss,noId_Sl])
 exact this
def selB (L:List Nd) (f:Nat) (s:Sl) (e:Int):Bool:=decide (0≤e)&&decide (e<L.length)&&mayAny L f [s] e.toNat
theorem Sel_ok {L:List Nd} {d:List Nat} (M:McT σ L d) {f:Nat} {s:Sl} (S:SelOk f [s]) (e:Int) (H:Hp):Good Tryz.prog σ n_match_Selector [domT L d,I e,.agg (encSl s)] H (Bo (selB L f s e)) H:=by
 refine good_by (fun K hK=>match_Selector.run ?_) (by simp [noIds,noId,noId_domT,noId_Sl]) rfl H
 have hb:∀ H:Hp,bldSlR [.slice none 0 0] 1 1 H [(0,1,.agg (encSl s))]=some (.sl H.n 0 1 1 (some 1),H.new (.cells (encSl s) true)):=fun H=>by
  unfold bldSlR encSl; rfl
 have hl:∀ H:Hp,ldA true 1 (H.new (.cells (encSl s) true)) (.ptr H.n 0)=some (.agg (encSl s)):=fun H=>by
  simp only [ld_ptr,hp_get_new,if_true,ldO_cells,List.drop_zero,ldL_sl]
 simp only [boxK_agg,hl,hb,bnd_some]
 refine callK_of ((Any_ok M S e Hp.empty).frzA (.cons (.refl (noId_domT L d)) (.cons (.refl rfl) (.cons (fz_sl1 (ex:=true) (by simp)) .nil))) rfl) ?_
 exact hK _
end Go.Proofs.YthdcghnjndhecaaGreat.Ev
namespace Go.Proofs.YthdcghnjndhecaaGreat.Ev
set_option linter.unusedVariables false
set_option linter.unusedSimpArgs false
variable {σ:Sig}
section
end
end Go.Proofs.YthdcghnjndhecaaGreat.Ev
namespace Go.Proofs.YthdcghnjndhecaaGreat.Ev
set_option linter.unusedVariables false
set_option linter.unusedSimpArgs false
variable {σ:Sig}
end Go.Proofs.YthdcghnjndhecaaGreat.Ev
namespace Go.Proofs.YthdcghnjndhecaaGreat.Ev
set_option linter.unusedVariables false
set_option linter.unusedSimpArgs false
variable {σ:Sig}
end Go.Proofs.YthdcghnjndhecaaGreat.Ev
namespace Go.Proofs.YthdcghnjndhecaaGreat.Ev
set_option linter.unusedVariables false
set_option linter.unusedSimpArgs false
variable {σ:Sig}
end Go.Proofs.YthdcghnjndhecaaGreat.Ev
namespace Go.Proofs.YthdcghnjndhecaaGreat.Ev
set_option linter.unusedVariables false
set_option linter.unusedSimpArgs false
variable {σ:Sig}
end Go.Proofs.YthdcghnjndhecaaGreat.Ev
namespace Go.Proofs.YthdcghnjndhecaaGreat.Ev
set_option linter.unusedVariables false
set_option linter.unusedSimpArgs false
variable {σ:Sig}
end Go.Proofs.YthdcghnjndhecaaGreat.Ev
namespace Go.Proofs.YthdcghnjndhecaaGreat.Ev
set_option linter.unusedVariables false
set_option linter.unusedSimpArgs false
variable {σ:Sig}
end Go.Proofs.YthdcghnjndhecaaGreat.Ev
namespace Go.Proofs.YthdcghnjndhecaaGreat.Ev
set_option linter.unusedVariables false
set_option linter.unusedSimpArgs false
variable {σ:Sig}
section
variable {L:List Nd} {d:List Nat} {e:Nat} {c:Cp} {n:Nd} {dp:Nat} {b6 b9:Nat} {K:AV→Hp→Prop}
structure RcOk (c:Cp):Prop where
 ids:c.ids.length≤reachBytes
 classes:c.classes.length≤reachBytes
 attrs:c.attrs.length≤reachBytes
 ps:c.pseudos.length≤reachBytes
 texts:∀ a ∈ c.attrs,a.text.data.size<4294967281
end
end Go.Proofs.YthdcghnjndhecaaGreat.Ev
namespace Go.Proofs.YthdcghnjndhecaaGreat.Ev
set_option linter.unusedVariables false
set_option linter.unusedSimpArgs false
variable {σ:Sig}
section
end
structure Kn (L:List Nd) (s:Sl) (kb M:Nat) (H:Hp):Prop where
 lt:kb<H.n
 get:∃ ks,H.get kb=some (.cells ks true)∧ks.length=M∧∀ e k,e<L.length→k<s.length→∃ v:Int,ks[e*s.length+k]?=some (I v)∧(v=0∨(v=1∧frontB (AA L) L s k e=true)∨(v=2∧frontB (AA L) L s k e=false))
theorem Kn.keep {L:List Nd} {s:Sl} {kb M:Nat} {H H':Hp} (h:Kn L s kb M H) (hn:H.n≤H'.n) (hg:H'.get kb=H.get kb):Kn L s kb M H':=by
 obtain ⟨ks,h1,h2,h3⟩:=h.get
 exact ⟨Nat.lt_of_lt_of_le h.lt hn,ks,by rw [hg]; exact h1,h2,h3⟩
theorem Kn.new {L:List Nd} {s:Sl} {kb M:Nat} {H:Hp} (h:Kn L s kb M H) (b:Blk):Kn L s kb M (H.new b):=by
 refine h.keep (by simp) ?_
 have:kb≠H.n:=by have:=h.lt; omega
 simp [this]
theorem idx_inj {n a b x y:Nat} (hx:x<n) (hy:y<n) (h:a*n+x=b*n+y):a=b∧x=y:=by
 have h1:(a*n+x) / n=(b*n+y) / n:=by rw [h]
 have hn:0<n:=by omega
 rw [Nat.mul_comm a,Nat.mul_comm b,Nat.mul_add_div hn,Nat.mul_add_div hn,Nat.div_eq_of_lt hx,Nat.div_eq_of_lt hy] at h1
 simp only [Nat.add_zero] at h1
 subst h1
 exact ⟨rfl,by omega⟩
theorem ov_set:∀ (cs:List AV) (i:Nat) (x:AV),i<cs.length→overlay cs i [x]=cs.set i x:=by
 intro cs
 induction cs with
 | nil=>intro i x hi; simp at hi
 | cons c r ih =>
  intro i x hi
  cases i with
  | zero=>simp
  | succ i=>rw [overlay_s,List.set_cons_succ,ih i x (by simpa using hi)]
theorem Kn.put {L:List Nd} {s:Sl} {kb M:Nat} {H:Hp} (h:Kn L s kb M H) {e k:Nat} (he:e<L.length) (hk:k<s.length) {v:Int} (hv:v=0∨(v=1∧frontB (AA L) L s k e=true)∨(v=2∧frontB (AA L) L s k e=false)) :
  ∃ H',stA 1 H (.ptr kb (e*s.length+k)) (I v)=some H'∧Kn L s kb M H'∧Kp kb H H'∧ldA false 1 H' (.ptr kb (e*s.length+k))=some (I v):=by
 obtain ⟨ks,h1,h2,h3⟩:=h.get
 obtain ⟨v0,hv0,_⟩:=h3 e k he hk
 have hlt:=(List.getElem?_eq_some_iff.1 hv0).1
 refine ⟨H.set kb (some (.cells (ks.set (e*s.length+k) (I v)) true)),?_,⟨by simpa using h.lt,_,by simp; rfl,by simpa using h2,fun e' k' he' hk'=>?_⟩,⟨by simp,fun j hj hne=>by simp [hne]⟩,?_⟩
 ·have hlt':e*s.length+k+[I v].length≤ks.length:=by simp; omega
  rw [st_int,h1]
  simp only [stO_cells]
  rw [if_pos ⟨hlt',rfl⟩,ov_set _ _ _ hlt]
 ·by_cases hi:e*s.length+k=e'*s.length+k'
  ·obtain ⟨rfl,rfl⟩:=idx_inj hk hk' hi
   exact ⟨v,by simp [hlt],hv⟩
  ·obtain ⟨w,hw,hw'⟩:=h3 e' k' he' hk'
   exact ⟨w,by simp [List.getElem?_set,hi,hw],hw'⟩
 ·simp only [ld_ptr,hp_get_set,if_true,ldO_cells]
  rw [List.drop_eq_getElem_cons (by simpa using hlt),ldL_one]
  simp
section
variable {L:List Nd} {d:List Nat} {s:Sl} {dp kb M:Nat} {cap:Option Nat}
end
end Go.Proofs.YthdcghnjndhecaaGreat.Ev
namespace Go.Proofs.YthdcghnjndhecaaGreat.Ev
set_option linter.unusedVariables false
set_option linter.unusedSimpArgs false
variable {σ:Sig} {L:List Nd} {d:List Nat}
section
end
end Go.Proofs.YthdcghnjndhecaaGreat.Ev
namespace Go.Proofs.YthdcghnjndhecaaGreat.Ev
set_option linter.unusedVariables false
set_option linter.unusedSimpArgs false
inductive Sk where
 | same
 | sl (sz:Nat) (row:List Sk)
 | agg (row:List Sk)
 | ptr (row:List Sk)
def frzRows (sz:Nat) (g:List AV→Option (List AV)):Nat→List AV→Option (List (List AV))
 | 0,_=>some []
 | n+1,l=>match g (l.take sz) with
  | some r=>match frzRows sz g n (l.drop sz) with
   | some rs=>some (r::rs)
   | none=>none
  | none=>none
mutual
def frzS (H:Hp):Sk→AV→Option AV
 | .same,x=>bif noId x then some x else none
 | .sl sz row,x=>match x with
  | .lit (.slice none 0 0)=>some (.imm sz [])
  | .emp=>some (.imm sz [])
  | .se _ _ _=>some (.imm sz [])
  | .imm s rows=>bif noId (.imm s rows) then some (.imm s rows) else none
  | .sl id off s len _=>bif Nat.beq s sz then match H.get id with
    | some (.cells cs _)=>match frzRows sz (fun l=>frzR H row l) len (cs.drop off) with
     | some rows=>bif Nat.beq row.length sz then some (.imm sz rows) else none
     | none=>none
    | _=>none
   else none
  | _=>none
 | .agg row,x=>match x with
  | .agg xs=>match frzR H row xs with
   | some ys=>some (.agg ys)
   | none=>none
  | _=>none
 | .ptr row,x=>match x with
  | .ptr id off=>match H.get id with
   | some (.cells cs _)=>match frzR H row ((cs.drop off).take row.length) with
    | some ys=>some (.ip ys)
    | none=>none
   | _=>none
  | _=>none
def frzR (H:Hp):List Sk→List AV→Option (List AV)
 | [],xs=>match xs with
  | []=>some []
  | _=>none
 | k::ks,xs=>match xs with
  | x::xs=>match frzS H k x with
   | some y=>match frzR H ks xs with
    | some ys=>some (y::ys)
    | none=>none
   | none=>none
  | []=>none
end
theorem frzRows_ok {sz:Nat} {g:List AV→Option (List AV)} {H:Hp} (hg:∀ l r,g l=some r→FzL H l r):∀ (n:Nat) (l:List AV) (rows:List (List AV)),frzRows sz g n l=some rows→rows.length=n∧∀ (i:Nat) (row:List AV),rows[i]?=some row→FzL H ((l.drop (i*sz)).take sz) row
 | 0,l,rows,h=>by
  simp only [frzRows,Option.some.injEq] at h
  subst h
  exact ⟨rfl,fun i row h=>by simp at h⟩
 | n+1,l,rows,h=>by
  simp only [frzRows] at h
  split at h
  case h_2=>cases h
  rename_i r hr
  split at h
  case h_2=>cases h
  rename_i rs hrs
  simp only [Option.some.injEq] at h
  subst h
  obtain ⟨h1,h2⟩:=frzRows_ok hg n _ _ hrs
  refine ⟨by simp [h1],fun i row hi=>?_⟩
  cases i with
  | zero =>
   simp at hi
   subst hi
   simpa using hg _ _ hr
  | succ i =>
   simp at hi
   have:=h2 i row hi
   rw [List.drop_drop] at this
   rw [Nat.succ_mul,Nat.add_comm]
   exact this
theorem FzL.len {H:Hp} {xs ys:List AV} (h:FzL H xs ys):xs.length=ys.length:=h.get.1
mutual
theorem frzS_ok {H:Hp}:∀ (k:Sk) (x y:AV),frzS H k x=some y→Fz H x y
 | .same,x,y,h=>by
  simp only [frzS] at h
  cases hn:noId x with
  | false=>rw [hn] at h; cases h
  | true=>rw [hn] at h; cases h; exact .refl hn
 | .sl sz row,x,y,h=>by
  simp only [frzS] at h
  split at h
  ·cases h; exact .nil
  ·cases h; exact .emp
  ·cases h; exact .se
  ·rename_i s rows
   cases hn:noId (.imm s rows) with
   | false=>rw [hn] at h; cases h
   | true=>rw [hn] at h; cases h; exact .refl hn
  ·rename_i id off s len cap
   cases hs:Nat.beq s sz with
   | false=>rw [hs] at h; cases h
   | true =>
    rw [hs] at h
    have:=Nat.eq_of_beq_eq_true hs
    subst this
    simp only [cond_true] at h
    split at h
    case h_2=>cases h
    rename_i cs ex hg
    split at h
    case h_2=>cases h
    rename_i rows hr
    cases hl:Nat.beq row.length s with
    | false=>rw [hl] at h; cases h
    | true =>
     rw [hl] at h
     cases h
     have hlen:=Nat.eq_of_beq_eq_true hl
     obtain ⟨h1,h2⟩:=frzRows_ok (fun l r hh=>frzR_ok row l r hh) _ _ _ hr
     have hrow:∀ (i:Nat) (r:List AV),rows[i]?=some r→r.length=s:=by
      intro i r hi
      obtain ⟨_,hh⟩:=frzRows_ok (g:=fun l=>frzR H row l) (fun l r hh=>frzR_ok row l r hh) _ _ _ hr
      exact frzRows_len (fun l r hh=>by rw [← hlen]; exact frzR_len row l r hh) _ _ _ hr i r hi
     refine .sl (fun i j=>cs.getD (off+(i*s+j)) .any) hg h1 hrow (fun i r j y hi hy=>?_) (fun i r j y hi hy=>?_)
     ·obtain ⟨x,hx,_⟩:=(h2 i r hi).get.2 j y hy
      have hj:j<s:=by rw [← hrow i r hi]; exact (List.getElem?_eq_some_iff.1 hy).1
      rw [List.getElem?_take,if_pos hj,List.getElem?_drop,List.getElem?_drop] at hx
      simp [hx]
     ·obtain ⟨x,hx,hf⟩:=(h2 i r hi).get.2 j y hy
      have hj:j<s:=by rw [← hrow i r hi]; exact (List.getElem?_eq_some_iff.1 hy).1
      rw [List.getElem?_take,if_pos hj,List.getElem?_drop,List.getElem?_drop] at hx
      simp [hx]
      exact hf
  ·cases h
 | .agg row,x,y,h=>by
  simp only [frzS] at h
  split at h
  case h_2=>cases h
  split at h
  case h_2=>cases h
  rename_i hr
  cases h
  exact Fz.aggL (frzR_ok row _ _ hr)
 | .ptr row,x,y,h=>by
  simp only [frzS] at h
  split at h
  case h_2=>cases h
  rename_i id off
  split at h
  case h_2=>cases h
  rename_i cs ex hg
  split at h
  case h_2=>cases h
  rename_i ys hr
  cases h
  have hl:=(frzR_ok row _ _ hr).get
  refine .ptr (fun j=>cs.getD (off+j) .any) hg (fun j y hy=>?_) (fun j y hy=>?_)
  ·obtain ⟨x,hx,_⟩:=hl.2 j y hy
   rw [List.getElem?_take] at hx
   split at hx
   ·rw [List.getElem?_drop] at hx
    simp [hx]
   ·cases hx
  ·obtain ⟨x,hx,hf⟩:=hl.2 j y hy
   rw [List.getElem?_take] at hx
   split at hx
   ·rw [List.getElem?_drop] at hx
    simp [hx]
    exact hf
   ·cases hx
theorem frzR_ok {H:Hp}:∀ (ks:List Sk) (xs ys:List AV),frzR H ks xs=some ys→FzL H xs ys
 | [],xs,ys,h=>by
  simp only [frzR] at h
  split at h
  ·cases h; exact .nil
  ·cases h
 | k::ks,xs,ys,h=>by
  simp only [frzR] at h
  split at h
  case h_2=>cases h
  rename_i x xs
  split at h
  case h_2=>cases h
  rename_i y hy
  split at h
  case h_2=>cases h
  rename_i zs hz
  cases h
  exact .cons (frzS_ok k x y hy) (frzR_ok ks xs zs hz)
theorem frzR_len {H:Hp}:∀ (ks:List Sk) (xs ys:List AV),frzR H ks xs=some ys→ys.length=ks.length
 | [],xs,ys,h=>by
  simp only [frzR] at h
  split at h
  ·cases h; rfl
  ·cases h
 | k::ks,xs,ys,h=>by
  simp only [frzR] at h
  split at h
  case h_2=>cases h
  split at h
  case h_2=>cases h
  split at h
  case h_2=>cases h
  rename_i zs hz
  cases h
  simp [frzR_len ks _ _ hz]
theorem frzRows_len {sz:Nat} {g:List AV→Option (List AV)} (hg:∀ l r,g l=some r→r.length=sz):∀ (n:Nat) (l:List AV) (rows:List (List AV)),frzRows sz g n l=some rows→∀ (i:Nat) (r:List AV),rows[i]?=some r→r.length=sz
 | 0,l,rows,h,i,r,hi=>by
  simp only [frzRows,Option.some.injEq] at h
  subst h
  simp at hi
 | n+1,l,rows,h,i,r,hi=>by
  simp only [frzRows] at h
  split at h
  case h_2=>cases h
  rename_i r0 hr0
  split at h
  case h_2=>cases h
  rename_i rs hrs
  cases h
  cases i with
  | zero=>simp at hi; subst hi; exact hg _ _ hr0
  | succ i=>exact frzRows_len hg n _ _ hrs i r (by simpa using hi)
end
def skStrs:Sk:=.sl 1 [.same]
def skAts:Sk:=.sl 3 [.same,.same,.same]
def skPrs:Sk:=.sl 2 [.same,.same]
def skNd:List Sk:=[.same,.same,.same,skStrs,skPrs]
def skNds:Sk:=.sl 5 skNd
def skCp (pss:Sk):List Sk:=[.same,skStrs,skStrs,skAts,pss]
def skPss:Nat→Sk
 | 0=>.same
 | n+1=>.sl 4 [.same,.same,.same,.sl 1 [.sl 6 (.same::skCp (skPss n))]]
def skPts (n:Nat):Sk:=.sl 6 (.same::skCp (skPss n))
def skSls (n:Nat):Sk:=.sl 1 [skPts n]
end Go.Proofs.YthdcghnjndhecaaGreat.Ev
namespace Go.Proofs.YthdcghnjndhecaaGreat.Ev
theorem Good.conv {P:Program} {σ:Sig} {f:Nat} {xs ys:List AV} {r:AV} {H H2 H3:Hp} (k:Wk σ ys H xs H2) (h:Good P σ f xs H2 r H3):Good P σ f ys H r H3:=by
 refine ⟨h.1,fun B w0 E w vs hσ hst hxs=>?_⟩
 obtain ⟨E2,h1,h2,h3⟩:=k hσ hst hxs
 refine (h.2 B w0 E2 w vs hσ h2 h3).mono fun e w' hh=>?_
 obtain ⟨E',v,rfl,hext,st2,hrel⟩:=hh
 exact ⟨E',v,rfl,h1.trans hext,st2,hrel⟩
def Hp.bare (n:Nat):Hp:=⟨n,.leaf⟩
@[simp] theorem Hp.bare_n (n:Nat):(Hp.bare n).n=n:=rfl
@[simp] theorem Hp.bare_get (n j:Nat):(Hp.bare n).get j=none:=by simp [Hp.bare,Hp.get,Tr.get]
theorem FzL.t {H:Hp} {xs ys:List AV} (h:FzL H xs ys):FzT H xs ys:=by
 induction h with
 | nil=>exact .nil
 | cons h hs ih=>exact .fz h ih
theorem Good.drop {P:Program} {σ:Sig} {f:Nat} {xs ys:List AV} {r:AV} {H:Hp} (h:∀ H,Good P σ f xs H r H) (hx:FzL H ys xs):Good P σ f ys H r (Hp.bare H.n) :=
 Good.conv (Wk.frz (H2:=Hp.bare H.n) (Hd:=H) rfl rfl (fun id k hk=>⟨hk,by simp⟩) (fun id k2 hk=>by simp at hk) hx.t) (h _)
theorem bnd_of {α:Type} {o:Option α} {x:α} {K:α→Prop} (h:o=some x) (k:K x):bnd o K:=by rw [h]; exact k
end Go.Proofs.YthdcghnjndhecaaGreat.Ev
namespace Go.Proofs.YthdcghnjndhecaaGreat.Ev
set_option linter.unusedVariables false
set_option linter.unusedSimpArgs false
inductive Gsc (sz:Nat) (H:Hp):AV→List (List AV)→Prop where
 | gs {x:AV} {rows:List (List AV)} (h:Gs sz H x rows):Gsc sz H x rows
 | full {id:Nat} {ex:Bool} {rows:List (List AV)} (hlt:id<H.n) (hg:H.get id=some (.cells rows.flatten ex)) (hsz:∀ row ∈ rows,row.length=sz) (h0:rows≠[]):Gsc sz H (.sl id 0 sz rows.length (some rows.length)) rows
theorem Gsc.lit {sz:Nat} {H:Hp} {row:List AV} (hl:row.length=sz):Gsc sz (H.new (.cells row true)) (.sl H.n 0 sz 1 (some 1)) [row]:=by
 refine .full (id:=H.n) (rows:=[row]) (by simp) (by simp; rfl) (by simp [hl]) (by simp)
theorem LoopP.drop {P:Program} {C:Ctx P} {c:Code} {T T2:List AV} {H:Hp} {Q:Exit→List AV→Hp→Prop} (hT:FzT H T T2) (h:LoopP C c T2 (Hp.bare H.n) Q):LoopP C c T H Q :=
 LoopP.conv (Wk.frz (H2:=Hp.bare H.n) (Hd:=H) rfl rfl (fun id k hk=>⟨hk,by simp⟩) (fun id k2 hk=>by simp at hk) hT) h
end Go.Proofs.YthdcghnjndhecaaGreat.Ev
namespace Go.Proofs.YthdcghnjndhecaaGreat.Ev
end Go.Proofs.YthdcghnjndhecaaGreat.Ev
namespace Go.Proofs.YthdcghnjndhecaaGreat.Ev
set_option linter.unusedVariables false
set_option linter.unusedSimpArgs false
variable {σ:Sig} {L:List Nd} {d:List Nat}
def TxL:Nat→List Sl→Prop
 | 0,_=>False
 | f+1,l=>∀ s ∈ l,∀ p ∈ s,(∀ a ∈ p.c.attrs,a.text.data.size<4294967281)∧∀ q ∈ p.c.pseudos,TxL f q.list
theorem TxL.one {f:Nat} {l:List Sl} (h:TxL f l) {s:Sl} (hs:s ∈ l):TxL f [s]:=by
 cases f with
 | zero=>exact h
 | succ f=>exact fun s' hs'=>by rw [List.mem_singleton.1 hs']; exact h s hs
theorem RcOk.of {c:Cp} (h:CpOk c) (ht:∀ a ∈ c.attrs,a.text.data.size<4294967281):RcOk c:=⟨h.ids,h.classes,h.attrs,h.ps,ht⟩
end Go.Proofs.YthdcghnjndhecaaGreat.Ev
namespace Go.Proofs.YthdcghnjndhecaaGreat.Ev
set_option linter.unusedVariables false
set_option linter.unusedSimpArgs false
theorem d_int {ts:List Nat} {zs:List AV} (h:Sh tiT.get (T_int::ts) zs):∃ n ys,zs=I n::ys∧i64 n∧Sh tiT.get ts ys:=by
 obtain ⟨i,hi,hd,_⟩:=T_int_is
 obtain ⟨n,ys,e,hw,hs⟩:=sh_int hi hd h
 refine ⟨n,ys,e,?_,hs⟩
 simp [Lit.wf,IntKind.min,IntKind.max,IntKind.signed,IntKind.bits] at hw
 unfold i64
 omega
theorem d_bool {ts:List Nat} {zs:List AV} (h:Sh tiT.get (T_bool::ts) zs):∃ b ys,zs=Bo b::ys∧Sh tiT.get ts ys:=by
 obtain ⟨i,hi,hd,_⟩:=T_bool_is
 exact sh_bool hi hd h
theorem d_struct {t:Nat} {fs:List (Nat × Nat)} {sz:Nat} (hT:∃ i,tiT.get t=some i∧i.d=.struct fs∧i.size=sz) {ts:List Nat} {zs:List AV} (h:Sh tiT.get (t::ts) zs):Sh tiT.get (fs.map (·.2)++ts) zs:=by
 obtain ⟨i,hi,hd,_⟩:=hT
 exact sh_struct hi hd h
def readB:List Nat:=[T_int,T_string,T_bool,T_sl_string,T_sl_api_Attr,T_api_Attr,T_sl_api_Part,T_api_Part,T_api_Compound,T_sl_api_Pseudo,T_api_Pseudo,T_sl_api_Selector,T_api_Selector,T_sl_api_Node,T_api_Node,T_sl_api_Pair,T_api_Pair]
end Go.Proofs.YthdcghnjndhecaaGreat.Ev
namespace Go.Proofs.YthdcghnjndhecaaGreat.Ev
theorem v_agg {t sz:Nat} {fs:List (Nat × Nat)} (hT:∃ i,tiT.get t=some i∧i.d=.struct fs∧i.size=sz) {x:AV} (h:ShV tiT.get t x):∃ ys,x=.agg ys∧Sh tiT.get [t] ys:=by
 obtain ⟨i,hi,hd,_⟩:=hT
 exact shV_agg hi (by rw [hd]; rfl) h
theorem v_one {t sz:Nat} {d:TD} (hT:∃ i,tiT.get t=some i∧i.d=d∧i.size=sz) (ha:d.agg=false) {x:AV} (h:ShV tiT.get t x):Sh tiT.get [t] [x]:=by
 obtain ⟨i,hi,hd,_⟩:=hT
 unfold ShV at h
 rw [hi] at h
 simp only [hd,ha] at h
 exact h
theorem v_bool {x:AV} (h:ShV tiT.get T_bool x):∃ b,x=Bo b:=by
 obtain ⟨n,ys,e,hn⟩:=d_bool (v_one T_bool_is rfl h)
 cases e
 exact ⟨n,rfl⟩
end Go.Proofs.YthdcghnjndhecaaGreat.Ev
namespace Go.Proofs.YthdcghnjndhecaaGreat.Ev
end Go.Proofs.YthdcghnjndhecaaGreat.Ev
namespace Go.Proofs.YthdcghnjndhecaaGreat.Ev
set_option linter.unusedVariables false
set_option linter.unusedSimpArgs false
theorem sum_bk {α:Type} {f:α→List AV} {g:α→Nat}:∀ {l:List α},(∀ x ∈ l,g x≤bkL (f x))→(l.map g).sum≤bkLL (l.map f)
 | [],_=>by simp [bkLL]
 | x::r,h=>by
  have h1:=h x (by simp)
  have h2:=sum_bk (f:=f) (g:=g) (l:=r) fun y hy=>h y (by simp [hy])
  simp only [List.map_cons,List.sum_cons,bkLL]
  omega
theorem len_bk {α:Type} {f:α→List AV} {l:List α} (h:∀ x ∈ l,1≤bkL (f x)):l.length≤bkLL (l.map f):=by
 have h1:=sum_bk (f:=f) (g:=fun _=>1) (l:=l) h
 have h2:∀ l:List α,(l.map fun _=>1).sum=l.length:=by
  intro l
  induction l with
  | nil=>rfl
  | cons a r ih=>simp only [List.map_cons,List.sum_cons,List.length_cons,ih]; omega
 rw [h2] at h1
 exact h1
theorem mem_bk {α:Type} {f:α→List AV} {l:List α} {x:α} (h:x ∈ l):bkL (f x)≤bkLL (l.map f):=bkLL_mem (List.mem_map_of_mem h)
theorem bk_S (s:ByteArray):bk (Sx s)=s.data.size+1:=by simp [bk]
theorem bk_I (n:Int):bk (I n)=1:=by simp [bk]
theorem bk_imm (sz:Nat) (rows:List (List AV)):bk (.imm sz rows)=bkLL rows+1:=by simp [bk]
theorem bk_strs (l:List ByteArray):bk (strs l)=bkLL (l.map fun s=>[Sx s])+1:=by unfold strs; rw [bk_imm]
theorem bk_cp (c:Cp):bkL (encCp c)=(c.tag.data.size+1)+((bkLL (c.ids.map fun s=>[Sx s])+1)+((bkLL (c.classes.map fun s=>[Sx s])+1)+((bkLL (c.attrs.map encAt)+1)+(bkLL (c.pseudos.map encPs)+1)))):=by
 rw [encCp_eq]
 simp only [bkL,bk_S,bk_strs,bk_imm,Nat.add_zero]
theorem bk_pt (p:Pt):bkL (encPt p)=1+bkL (encCp p.c):=by rw [encPt_eq]; simp only [bkL,bk_I]
theorem bk_ps (q:Ps):bkL (encPs q)=1+(1+(1+(bkLL (q.list.map encSl)+1))):=by rw [encPs_eq]; simp only [bkL,bk_I,bk_imm,Nat.add_zero]
theorem bk_sl (s:Sl):bkL (encSl s)=bkLL (s.map encPt)+1:=by unfold encSl; simp only [bkL,bk_imm,Nat.add_zero]
theorem bk_at (a:At):bkL (encAt a)=(a.name.data.size+1)+(1+(a.text.data.size+1)):=by unfold encAt; simp only [bkL,bk_S,bk_I,Nat.add_zero]
structure PtB (f:Nat) (p:Pt):Prop where
 c:CpOk p.c
 ps:p.c.pseudos.length≤NB
 q:∀ q ∈ p.c.pseudos,(i64 q.a∧i64 q.b)∧SlsOk f q.list
 tx:∀ a ∈ p.c.attrs,a.text.data.size<4294967281
 tq:∀ q ∈ p.c.pseudos,TxL f q.list
 cnt:(p.c.pseudos.map fun q=>cntF f q.list).sum+6≤bkL (encPt p)
theorem pt_bulk {f:Nat} (ih:∀ l,slsWf Lmax l→FitL f l→bkLL (l.map encSl)≤NB→SlsOk f l∧TxL f l∧cntF f l≤bkLL (l.map encSl)) {p:Pt} (hw:CpWf Lmax p.c) (hf:FitP f p) (hb:bkL (encCp p.c)≤NB):PtB f p:=by
 have hN:NB=1048576:=rfl
 have r:reachBytes=140737488351232:=rfl
 rw [bk_cp,hN] at hb
 have l1:p.c.ids.length≤bkLL (p.c.ids.map fun s=>[Sx s]):=len_bk fun s _=>by simp only [bkL,bk_S]; omega
 have l2:p.c.classes.length≤bkLL (p.c.classes.map fun s=>[Sx s]):=len_bk fun s _=>by simp only [bkL,bk_S]; omega
 have l3:p.c.attrs.length≤bkLL (p.c.attrs.map encAt):=len_bk fun s _=>by rw [bk_at]; omega
 have l4:p.c.pseudos.length≤bkLL (p.c.pseudos.map encPs):=len_bk fun s _=>by rw [bk_ps]; omega
 have ht:∀ a ∈ p.c.attrs,a.text.data.size≤1048576:=fun a ha=>by
  have h1:=mem_bk (f:=encAt) ha
  rw [bk_at] at h1
  omega
 have hq:∀ q ∈ p.c.pseudos,SlsOk f q.list∧TxL f q.list∧cntF f q.list≤bkLL (q.list.map encSl):=fun q hq=>by
  have h1:=mem_bk (f:=encPs) hq
  rw [bk_ps] at h1
  exact ih q.list (Ps.wf_iff.1 (hw.ps q hq)).2.2.2 (hf.2 q hq) (by rw [hN]; omega)
 refine ⟨⟨by omega,by omega,by omega,fun a ha=>⟨by have:=ht a ha; omega⟩,by omega⟩,by omega,fun q h=>⟨⟨(Ps.wf_iff.1 (hw.ps q h)).2.1,(Ps.wf_iff.1 (hw.ps q h)).2.2.1⟩,(hq q h).1⟩,fun a ha=>by have:=ht a ha; omega,fun q h=>(hq q h).2.1,?_⟩
 have h5:(p.c.pseudos.map fun q=>cntF f q.list).sum≤bkLL (p.c.pseudos.map encPs):=sum_bk fun q h=>by
  have:=(hq q h).2.2
  rw [bk_ps]; omega
 rw [bk_pt,bk_cp]
 omega
theorem sls_bulk:∀ (f:Nat) (l:List Sl),slsWf Lmax l→FitL f l→bkLL (l.map encSl)≤NB→SlsOk f l∧TxL f l∧cntF f l≤bkLL (l.map encSl)
 | 0,l,_,h,_=>h.elim
 | f+1,l,hw,hf,hb=>by
  have hN:NB=1048576:=rfl
  have hl:l.length≤bkLL (l.map encSl):=len_bk fun s _=>by rw [bk_sl]; omega
  have hs:∀ s ∈ l,s.length≤NB∧∀ p ∈ s,PtB f p:=fun s h=>by
   have h1:=mem_bk (f:=encSl) h
   rw [bk_sl] at h1
   have h2:s.length≤bkLL (s.map encPt):=len_bk fun p _=>by rw [bk_pt]; omega
   refine ⟨by omega,fun p hp=>?_⟩
   have h3:=mem_bk (f:=encPt) hp
   rw [bk_pt] at h3
   exact pt_bulk (sls_bulk f) (Pt.wf_iff.1 ((hw.2 s h).2 p hp)).2 ((hf s h).2 p hp) (by omega)
  refine ⟨⟨by omega,fun s h=>⟨(hs s h).1,fun p hp=>⟨((hs s h).2 p hp).c,((hs s h).2 p hp).ps,((hs s h).2 p hp).q⟩⟩⟩,fun s h p hp=>⟨((hs s h).2 p hp).tx,((hs s h).2 p hp).tq⟩,?_⟩
  rw [cntF]
  refine sum_bk fun s h=>?_
  rw [bk_sl]
  have:(s.map fun p=>(p.c.pseudos.map fun q=>cntF f q.list).sum).sum≤bkLL (s.map encPt):=sum_bk fun p hp=>by
   have:=((hs s h).2 p hp).cnt
   omega
  omega
theorem sel_bulk {l:List Sl} (hw:slsWf Lmax l) (hf:FitL 11 l) (hb:bkLL (l.map encSl)≤NB):SelOk 11 l∧TxL 11 l:=by
 obtain ⟨h1,h2,h3⟩:=sls_bulk 11 l hw hf hb
 exact ⟨⟨hw,h1,hf.nest,by decide,by omega⟩,h2⟩
end Go.Proofs.YthdcghnjndhecaaGreat.Ev
namespace Go.Proofs.YthdcghnjndhecaaGreat.Ev
set_option linter.unusedVariables false
set_option linter.unusedSimpArgs false
variable {σ:Sig}
def readR:List Nat:=readB++[T_sl_api_Rule,T_api_Rule,T_sl_api_Set,T_api_Set,T_api_Value]
section
end
section
end
end Go.Proofs.YthdcghnjndhecaaGreat.Ev
namespace Go.Proofs.YthdcghnjndhecaaGreat.Ev
set_option linter.unusedVariables false
set_option linter.unusedSimpArgs false
variable {σ:Sig}
def bigS (s:ByteArray):Bool:=decide (60<(s.data.size:Int))
def bigP (p:ByteArray × ByteArray):Bool:=bigS p.1||decide (100<(p.2.data.size:Int))
def bigN (n:Nd):Bool:=decide (8<(n.classes.length:Int))||(decide (8<(n.attrs.length:Int))||(bigS n.tag||(bigS n.id||(n.classes.any bigS||n.attrs.any bigP))))
structure NdSm (n:Nd):Prop where
 classes:n.classes.length≤8
 attrs:n.attrs.length≤8
 tag:n.tag.data.size≤60
 id:n.id.data.size≤60
 cl:∀ s ∈ n.classes,s.data.size≤60
 at':∀ p ∈ n.attrs,p.1.data.size≤60∧p.2.data.size≤100
theorem NdSm.of {n:Nd} (h:bigN n=false):NdSm n:=by
 unfold bigN bigP bigS at h
 simp only [Bool.or_eq_false_iff,decide_eq_false_iff_not,List.any_eq_false,Bool.or_eq_true,decide_eq_true_eq,not_or] at h
 obtain ⟨h1,h2,h3,h4,h5,h6⟩:=h
 exact ⟨by omega,by omega,by omega,by omega,fun s hs=>by have:=h5 s hs; omega,fun p hp=>by have:=h6 p hp; omega⟩
section
end
theorem good_byI {P:Program} {σ:Sig} {f:Nat} {xs:List AV} {r:AV} (h:∀ K:AV→Hp→Prop,(∀ H,K r H)→∃ r' H1,Good P σ f xs Hp.empty r' H1∧K r' H1) (hx:noIds xs=true) (hr:noId r=true) (H:Hp):Good P σ f xs H r H:=by
 obtain ⟨r',H1,hg,e⟩:=h (fun r' _=>r'=r) (fun _=>rfl)
 subst e
 exact hg.frzR hx (.refl hr) H
end Go.Proofs.YthdcghnjndhecaaGreat.Ev
namespace Go.Proofs.YthdcghnjndhecaaGreat.Ev
set_option linter.unusedVariables false
set_option linter.unusedSimpArgs false
variable {σ:Sig}
structure W3 where
 a:Int
 b:Int
 c:Int
def W3.cells (s:W3):List AV:=[I s.a,I s.b,I s.c]
def W3.Bd (M:Int) (s:W3):Prop:=(0≤s.a∧s.a≤M)∧(0≤s.b∧s.b≤M)∧0≤s.c∧s.c≤M
def lst (n:Int):Int:=if 255<n then 255 else n
def weightW (s:W3):Int:=(lst s.a*256+lst s.b)*256+lst s.c
def addW (s:W3) (w:Int):W3:=⟨s.a+w / 256 / 256 % 256,s.b+w / 256 % 256,s.c+w % 256⟩
def topW (g:Sl→Int) (l:List Sl) (m:Int):Int:=l.foldl (fun m x=>if m<g x then g x else m) m
def psW (g:Sl→Int) (last:Bool) (s:W3) (p:Ps):W3:=if p.kind≠7∧p.kind≠8 then ⟨s.a,s.b+1,s.c⟩ else if last=true then s else addW s (topW g p.list 0)
def lensW (s:W3) (c:Cp):W3:=⟨s.a+c.ids.length,s.b+(c.classes.length+c.attrs.length),if c.tag≠⟨#[]⟩ then s.c+1 else s.c⟩
def cpW (g:Sl→Int) (last:Bool) (s:W3) (c:Cp):W3:=c.pseudos.foldl (psW g last) (lensW s c)
def slW (g:Sl→Int) (last:Bool) (x:Sl):Int:=weightW (x.foldl (fun s p=>cpW g last s p.c) ⟨0,0,0⟩)
def ofW:Nat→Sl→Int
 | 0,x=>slW (fun _=>0) true x
 | d+1,x=>slW (ofW d) false x
theorem lst_le (n:Int) (h:0≤n):0≤lst n∧lst n≤255:=by unfold lst; split<;>omega
theorem weightW_le {s:W3} {M:Int} (h:s.Bd M):0≤weightW s∧weightW s≤16777215:=by
 obtain ⟨⟨a0,_⟩,⟨b0,_⟩,c0,_⟩:=h
 have:=lst_le _ a0
 have:=lst_le _ b0
 have:=lst_le _ c0
 unfold weightW
 omega
theorem addW_bd {s:W3} {M w:Int} (h:s.Bd M) (h0:0≤w):(addW s w).Bd (M+255):=by
 obtain ⟨⟨a0,a1⟩,⟨b0,b1⟩,c0,c1⟩:=h
 unfold addW W3.Bd
 simp only
 omega
theorem capped_ok (n:Int) (H:Hp):Good Tryz.prog σ n_weigh_capped_int [I n,I 255] H (I (lst n)) H :=
 good_pure (weigh_capped_int.run (by simp [minA,toI,minStep,lst])) rfl rfl H
theorem weight_ok {s:W3} {M:Int} (h:s.Bd M) (H:Hp):Good Tryz.prog σ n_weigh_sums_weight [.agg s.cells] H (I (weightW s)) H:=by
 obtain ⟨⟨a0,_⟩,⟨b0,_⟩,c0,_⟩:=h
 have ha:=lst_le _ a0
 have hb:=lst_le _ b0
 have hc:=lst_le _ c0
 refine good_pure (weigh_sums_weight.run ?_) (by simp [noIds,noId,W3.cells]) rfl H
 simp [W3.cells,ldL_all]
 refine weigh_sums_weight.L0_step ?_
 simp [ixArr,intA,wr64]
 refine callK_of (capped_ok _ _) ?_
 simp
 rw [wr64 (by omega) (by omega)]
 refine weigh_sums_weight.L0_step ?_
 simp [ixArr,intA,wr64]
 rw [wr64 (by omega) (by omega)]
 refine callK_of (capped_ok _ _) ?_
 simp
 rw [wr64 (by omega) (by omega)]
 refine weigh_sums_weight.L0_step ?_
 simp [ixArr,intA,wr64]
 rw [wr64 (by omega) (by omega)]
 refine callK_of (capped_ok _ _) ?_
 simp
 rw [wr64 (by omega) (by omega)]
 refine weigh_sums_weight.L0_step ?_
 simp [weightW]
theorem wadd_ok {s:W3} {M w:Int} (h:s.Bd M) (hM:M≤1000000000) (h0:0≤w) (h1:w≤16777215) {H:Hp} {id:Nat} (hid:H.get id=some (.cells s.cells true)) :
  ∃ H',Good Tryz.prog σ n_weigh_sums_add [.ptr id 0,I w] H (.tup []) H'∧H'.get id=some (.cells (addW s w).cells true)∧(∀ j,j≠id→H'.get j=H.get j)∧H'.n=H.n:=by
 obtain ⟨⟨a0,a1⟩,⟨b0,b1⟩,c0,c1⟩:=h
 have t1:w.tmod 256=w % 256:=Int.tmod_eq_emod_of_nonneg h0
 have t2:w.tdiv 256=w / 256:=Int.tdiv_eq_ediv_of_nonneg h0
 have t3:(w / 256).tmod 256=w / 256 % 256:=Int.tmod_eq_emod_of_nonneg (by omega)
 have t4:(w / 256).tdiv 256=w / 256 / 256:=Int.tdiv_eq_ediv_of_nonneg (by omega)
 have t5:(w / 256 / 256).tmod 256=w / 256 / 256 % 256:=Int.tmod_eq_emod_of_nonneg (by omega)
 have t6:(w / 256 / 256).tdiv 256=w / 256 / 256 / 256:=Int.tdiv_eq_ediv_of_nonneg (by omega)
 have run:∃ r H',Good Tryz.prog σ n_weigh_sums_add [.ptr id 0,I w] H r H'∧(r=.tup []∧H'.get id=some (.cells (addW s w).cells true)∧(∀ j,j≠id→H'.get j=H.get j)∧H'.n=H.n):=by
  refine weigh_sums_add.run ?_
  refine weigh_sums_add.L0_step ?_
  simp [ixaArr,intA,hid,W3.cells,b_rem,b_quo,t1,t2]
  rw [wr64 (by omega) (by omega),wr64 (by omega) (by omega),wr64 (by omega) (by omega)]
  refine weigh_sums_add.L0_step ?_
  simp [ixaArr,intA,hid,W3.cells,b_rem,b_quo,t3,t4]
  rw [wr64 (by omega) (by omega),wr64 (by omega) (by omega),wr64 (by omega) (by omega)]
  refine weigh_sums_add.L0_step ?_
  simp [ixaArr,intA,hid,W3.cells,b_rem,b_quo,t5,t6]
  rw [wr64 (by omega) (by omega),wr64 (by omega) (by omega),wr64 (by omega) (by omega)]
  refine weigh_sums_add.L0_step ?_
  simp [addW]
  intro j hj
  simp [hj]
 obtain ⟨r,H',hg,rfl,hh⟩:=run
 exact ⟨H',hg,hh⟩
theorem topW_le {g:Sl→Int}:∀ (l:List Sl) (m:Int),0≤m→m≤16777215→(∀ x ∈ l,0≤g x∧g x≤16777215)→0≤topW g l m∧topW g l m≤16777215
 | [],m,h0,h1,_=>⟨h0,h1⟩
 | x::r,m,h0,h1,h=>by
  have:=h x (by simp)
  show 0≤topW g r (if m<g x then g x else m)∧_
  refine topW_le r _ ?_ ?_ fun y hy=>h y (by simp [hy])
  ·split<;>omega
  ·split<;>omega
def SumI (H:Hp) (id:Nat) (s:W3) (H':Hp):Prop:=H'.get id=some (.cells s.cells true)∧(∀ j,j≠id→j<H.n→H'.get j=H.get j)∧H.n≤H'.n
def WideC (c:Cp):Prop:=c.ids.length≤400∧c.classes.length≤400∧c.attrs.length≤400∧c.pseudos.length≤5
theorem FitC.wide {c:Cp} (h:FitC c):WideC c:=⟨by have:=h.1; omega,by have:=h.2.1; omega,by have:=h.2.2.1; omega,h.2.2.2⟩
theorem compound_ok {d:Nat} (hd:d≤8) {g:Sl→Int} {P:Sl→Prop} (hg:d≠0→∀ x,P x→(∀ H,Good Tryz.prog σ n_weigh_of [.agg (encSl x),I ((d - 1:Nat):Int)] H (I (g x)) H)∧0≤g x∧g x≤16777215)
  {c:Cp} (hc:CpWf Lmax c) (hfit:WideC c) (hP:d≠0→∀ q ∈ c.pseudos,∀ x ∈ q.list,P x) {s:W3} {M:Int} (hs:s.Bd M) (hM:M≤100000000) {H:Hp} {id:Nat} (hid:H.get id=some (.cells s.cells true)) (hlt:id<H.n) :
  ∃ H',Good Tryz.prog σ n_weigh_sums_compound [.ptr id 0,.agg (encCp c),I (d:Int)] H (.tup []) H'∧SumI H id (cpW g (decide (d=0)) s c) H'∧(cpW g (decide (d=0)) s c).Bd (M+3000):=by
 obtain ⟨f1,f2,f3,f4⟩:=hfit
 have hls:(lensW s c).Bd (M+900):=by
  obtain ⟨⟨a0,a1⟩,⟨b0,b1⟩,c0,c1⟩:=hs
  unfold lensW W3.Bd
  simp only
  refine ⟨by omega,by omega,?_⟩
  split<;>omega
 let K:AV→Hp→Prop:=fun r H'=>r=.tup []∧SumI H id (cpW g (decide (d=0)) s c) H'∧(cpW g (decide (d=0)) s c).Bd (M+3000)
 have L1:∀ (n k:Nat) (H':Hp) (s':W3) (y4 y8 y70 y71 y72:AV),c.pseudos.length - k=n→k≤c.pseudos.length→s'=(c.pseudos.take k).foldl (psW g (decide (d=0))) (lensW s c)→s'.Bd (M+900+255*k)→SumI H id s' H' →
   weigh_sums_compound.L1 σ K (.ptr id 0) (I (d:Int)) y4 y8 (.imm 4 (c.pseudos.map encPs)) (I c.pseudos.length) (I k) y70 y71 y72 H':=by
  intro n
  induction n with
  | zero =>
   intro k H' s' y4 y8 y70 y71 y72 hn hk hs' hb hI
   have e:k=c.pseudos.length:=by omega
   subst e
   refine weigh_sums_compound.L1_step ?_
   simp
   have e2:s'=cpW g (decide (d=0)) s c:=by rw [hs',List.take_length]; rfl
   rw [e2] at hI hb
   refine ⟨rfl,hI,?_⟩
   obtain ⟨⟨a0,a1⟩,⟨b0,b1⟩,c0,c1⟩:=hb
   exact ⟨⟨a0,by omega⟩,⟨b0,by omega⟩,c0,by omega⟩
  | succ n ih =>
   intro k H' s' y4 y8 y70 y71 y72 hn hk hs' hb hI
   have hklt:k<c.pseudos.length:=by omega
   obtain ⟨q,hq⟩:=get_lt hklt
   have hqw:=(Ps.wf_iff.1 (hc.ps q (List.mem_of_getElem? hq))).2.2.2
   obtain ⟨hI1,hI2,hI3⟩:=hI
   obtain ⟨⟨a0,a1⟩,⟨b0,b1⟩,c0,c1⟩:=hb
   have hne:id≠H'.n:=by omega
   have hfold:(c.pseudos.take (k+1)).foldl (psW g (decide (d=0))) (lensW s c)=psW g (decide (d=0)) s' q:=by
    rw [List.take_add_one,hq]
    simp only [Option.toList_some,List.foldl_append,List.foldl_cons,List.foldl_nil]
    rw [← hs']
   have next:∀ (H2:Hp) (s2:W3) (y4 y8 y70 y71 y72:AV),s2=psW g (decide (d=0)) s' q→s2.Bd (M+900+255*k+255)→SumI H id s2 H2 →
     weigh_sums_compound.J2 σ K (.ptr id 0) (I (d:Int)) y4 y8 (.imm 4 (c.pseudos.map encPs)) (I c.pseudos.length) (I k) y70 y71 y72 H2:=by
    intro H2 s2 y4 y8 y70 y71 y72 e1 e2 e3
    refine weigh_sums_compound.J2_step ?_
    simp
    rw [wr_succL hklt hc.psL]
    refine ih (k+1) H2 s2 _ _ _ _ _ (by omega) (by omega) (by rw [hfold]; exact e1) ?_ e3
    obtain ⟨⟨a0,a1⟩,⟨b0,b1⟩,c0,c1⟩:=e2
    exact ⟨⟨a0,by omega⟩,⟨b0,by omega⟩,c0,by omega⟩
   have L3:q.kind=7∨q.kind=8→d≠0→∀ (n3 i:Nat) (H2:Hp) (m:Int) (y4:AV),q.list.length - i=n3→i≤q.list.length→m=topW g (q.list.take i) 0→SumI H id s' H2 →
     weigh_sums_compound.L3 σ K (.ptr id 0) (I (d:Int)) y4 (I m) (.imm 4 (c.pseudos.map encPs)) (I c.pseudos.length) (I k) (.imm 1 (q.list.map encSl)) (I q.list.length) (I i) H2:=by
    intro hk78 hd0 n3
    have hPq:=hP hd0 q (List.mem_of_getElem? hq)
    induction n3 with
    | zero =>
     intro i H2 m y4 hn3 hi hm hI2'
     have e:i=q.list.length:=by omega
     subst e
     rw [List.take_length] at hm
     have hmb:=topW_le (g:=g) q.list 0 (by omega) (by omega) fun x hx=>(hg hd0 x (hPq x hx)).2
     rw [← hm] at hmb
     obtain ⟨j1,j2,j3⟩:=hI2'
     obtain ⟨H3,hg3,r1,r2,r3⟩:=wadd_ok (σ:=σ) (M:=M+900+255*k) ⟨⟨a0,a1⟩,⟨b0,b1⟩,c0,c1⟩ (by omega) hmb.1 hmb.2 j1
     refine weigh_sums_compound.L3_step ?_
     simp
     refine callK_of hg3 ?_
     refine next H3 (addW s' m) _ _ _ _ _ ?_ (addW_bd ⟨⟨a0,a1⟩,⟨b0,b1⟩,c0,c1⟩ hmb.1) ⟨r1,fun j hj hjl=>by rw [r2 j hj]; exact j2 j hj hjl,by rw [r3]; exact j3⟩
     unfold psW
     rw [if_neg (by omega),if_neg (by simpa using hd0),hm]
    | succ n3 ih3 =>
     intro i H2 m y4 hn3 hi hm hI2'
     have hilt:i<q.list.length:=by omega
     obtain ⟨x,hx⟩:=get_lt hilt
     obtain ⟨hgx,_,_⟩:=hg hd0 x (hPq x (List.mem_of_getElem? hx))
     obtain ⟨j1,j2,j3⟩:=hI2'
     have hne2:id≠H2.n:=by omega
     refine weigh_sums_compound.L3_step ?_
     have e1:wr .i64 ((d:Int) - 1)=((d - 1:Nat):Int):=by rw [wr64 (by omega) (by omega)]; omega
     simp [ix_map hx,ldL_all,overlay_all,hilt,e1,wr_succL hilt hqw.1]
     refine callK_of (hgx _) ?_
     simp [maxA,toI,maxStep]
     refine ih3 (i+1) _ _ _ (by omega) (by omega) ?_ ⟨by simp [hne2,j1],fun j hj hjl=>?_,by simp; omega⟩
     ·rw [List.take_add_one,hx,hm]
      simp only [topW,Option.toList_some,List.foldl_append,List.foldl_cons,List.foldl_nil]
      rfl
     ·have:j≠H2.n:=by omega
      simp [this]
      exact j2 j hj hjl
   refine weigh_sums_compound.L1_step ?_
   simp [ix_map hq,ldL_all,overlay_all,encPs_eq,hklt]
   have hne':∀ j,j<H.n→j≠H'.n:=fun j hj=>by omega
   have tolist:q.kind=7∨q.kind=8→∀ (b:Blk) (o:Option Blk),(if d=0 then weigh_sums_compound.J2 σ K (.ptr id 0) (I (d:Int)) y4 y8 (.imm 4 (c.pseudos.map encPs)) (I c.pseudos.length) (I k) y70 y71 y72 ((H'.new b).set H'.n o)
     else weigh_sums_compound.L3 σ K (.ptr id 0) (I (d:Int)) y4 (I 0) (.imm 4 (c.pseudos.map encPs)) (I c.pseudos.length) (I k) (.imm 1 (q.list.map encSl)) (I q.list.length) (I 0) ((H'.new b).set H'.n o)):=by
    intro hk78 b o
    have hI':SumI H id s' ((H'.new b).set H'.n o):=⟨by simp [hne,hI1],fun j hj hjl=>by simp [hne' j hjl]; exact hI2 j hj hjl,by simp; omega⟩
    split
    ·rename_i hd0
     refine next _ s' _ _ _ _ _ ?_ ⟨⟨a0,by omega⟩,⟨b0,by omega⟩,c0,by omega⟩ hI'
     unfold psW
     rw [if_neg (by omega),if_pos (by simpa using hd0)]
    ·rename_i hd0
     exact L3 hk78 hd0 _ 0 _ 0 _ rfl (Nat.zero_le _) rfl hI'
   split
   ·exact tolist (.inl (by assumption)) _ _
   split
   ·exact tolist (.inr (by assumption)) _ _
   ·simp [ixaArr,intA,hne,hI1,W3.cells]
    rw [wr64 (by omega) (by omega)]
    refine next _ ⟨s'.a,s'.b+1,s'.c⟩ _ _ _ _ _ ?_ ⟨⟨a0,by simp only; omega⟩,⟨by simp only; omega,by simp only; omega⟩,c0,by simp only; omega⟩ ⟨by simp [W3.cells],fun j hj hjl=>by simp [hne' j hjl,hj]; exact hI2 j hj hjl,by simp; omega⟩
    unfold psW
    rw [if_pos ⟨by assumption,by assumption⟩]
 obtain ⟨⟨a0,a1⟩,⟨b0,b1⟩,c0,c1⟩:=hs
 have hne:id≠H.n:=by omega
 have fin:∀ H',SumI H id (lensW s c) H'→H'.get H.n=some (.cells (encCp c) true)→weigh_sums_compound.J0 σ K (.ptr id 0) (I (d:Int)) (.ptr H.n 0) (.lit undef) (.lit undef) (.lit undef) (.lit undef) (.lit undef) (.lit undef) (.lit undef) H':=by
  intro H' hI hc1
  refine weigh_sums_compound.J0_step ?_
  simp [hc1,encCp_eq]
  exact L1 _ 0 H' (lensW s c) _ _ _ _ _ rfl (Nat.zero_le _) rfl (by simpa using hls) hI
 have run:∃ r H',Good Tryz.prog σ n_weigh_sums_compound [.ptr id 0,.agg (encCp c),I (d:Int)] H r H'∧K r H':=by
  refine weigh_sums_compound.run ?_
  simp [encCp_eq,ixaArr,intA,hne,Ne.symm hne,hid,W3.cells]
  have e1:wr .i64 (s.a+c.ids.length)=s.a+c.ids.length:=wr64 (by omega) (by omega)
  have e2:wr .i64 ((c.classes.length:Int)+c.attrs.length)=c.classes.length+c.attrs.length:=wr64 (by omega) (by omega)
  have e3:wr .i64 (s.b+((c.classes.length:Int)+c.attrs.length))=s.b+(c.classes.length+c.attrs.length):=wr64 (by omega) (by omega)
  have e4:wr .i64 (s.c+1)=s.c+1:=wr64 (by omega) (by omega)
  simp only [e1,e2,e3,e4]
  have hj':∀ j,j<H.n→j≠H.n:=fun j hj=>by omega
  split
  ·rename_i ht
   exact fin _ ⟨by simp [W3.cells,lensW,ht],fun j hj hjl=>by simp [hj,hj' j hjl],by simp⟩ (by simp [encCp_eq,Ne.symm hne])
  ·rename_i ht
   exact fin _ ⟨by simp [W3.cells,lensW,ht],fun j hj hjl=>by simp [hj,hj' j hjl],by simp⟩ (by simp [encCp_eq,Ne.symm hne])
 obtain ⟨r,H',hg',rfl,hh⟩:=run
 exact ⟨H',hg',hh⟩
theorem of_step {d:Nat} (hd:d≤8) {g:Sl→Int} {P:Sl→Prop} (hg:d≠0→∀ x,P x→(∀ H,Good Tryz.prog σ n_weigh_of [.agg (encSl x),I ((d - 1:Nat):Int)] H (I (g x)) H)∧0≤g x∧g x≤16777215)
  (x:Sl) (hw:slWf Lmax x) (h60:x.length≤400) (hfit:∀ p ∈ x,WideC p.c) (hP:d≠0→∀ p ∈ x,∀ q ∈ p.c.pseudos,∀ y ∈ q.list,P y) :
  (∀ H,Good Tryz.prog σ n_weigh_of [.agg (encSl x),I (d:Int)] H (I (slW g (decide (d=0)) x)) H)∧0≤slW g (decide (d=0)) x∧slW g (decide (d=0)) x≤16777215:=by
 let F:Nat→W3:=fun k=>(x.take k).foldl (fun s p=>cpW g (decide (d=0)) s p.c) ⟨0,0,0⟩
 let K:AV→Hp→Prop:=fun r _=>r=I (slW g (decide (d=0)) x)∧0≤slW g (decide (d=0)) x∧slW g (decide (d=0)) x≤16777215
 have L0:∀ (n k:Nat) (H:Hp) (id:Nat),x.length - k=n→k≤x.length→(F k).Bd (3000*k)→H.get id=some (.cells (F k).cells true)→id<H.n →
   weigh_of.L0 σ K (I (d:Int)) (.ptr id 0) (.imm 6 (x.map encPt)) (I x.length) (I k) H:=by
  intro n
  induction n with
  | zero =>
   intro k H id hn hk hb hid hlt
   have e:k=x.length:=by omega
   subst e
   refine weigh_of.L0_step ?_
   simp [hid,ldL_all,W3.cells]
   refine callK_of (weight_ok hb _) ?_
   have e2:weightW (F x.length)=slW g (decide (d=0)) x:=by simp only [F,List.take_length]; rfl
   have:=weightW_le hb
   rw [e2] at this
   exact ⟨by rw [e2],this⟩
  | succ n ih =>
   intro k H id hn hk hb hid hlt
   have hklt:k<x.length:=by omega
   obtain ⟨p,hp⟩:=get_lt hklt
   have hmem:=List.mem_of_getElem? hp
   have hpw:=(Pt.wf_iff.1 (hw.2 p hmem)).2
   have hne:id≠H.n:=by omega
   refine weigh_of.L0_step ?_
   simp [ix_map hp,overlay_all,hklt]
   obtain ⟨H',hg',hI,hb'⟩:=compound_ok (σ:=σ) hd hg hpw (hfit p hmem) (fun h0 q hq y hy=>hP h0 p hmem q hq y hy) hb (by omega) (H:=(H.new (.cells [I 0,.lit (.string ⟨#[]⟩),.lit (.slice none 0 0),.lit (.slice none 0 0),.lit (.slice none 0 0),.lit (.slice none 0 0)] true)).set H.n (some (.cells (encPt p) true))) (id:=id) (by simp [hne,hid]) (by simp; omega)
   refine callK_of hg' ?_
   rw [wr_succL hklt hw.1]
   have hF:F (k+1)=cpW g (decide (d=0)) (F k) p.c:=by
    simp only [F]
    rw [List.take_add_one,hp]
    simp only [Option.toList_some,List.foldl_append,List.foldl_cons,List.foldl_nil]
   obtain ⟨i1,i2,i3⟩:=hI
   refine ih (k+1) H' id (by omega) (by omega) ?_ (by rw [hF]; exact i1) (by simp at i3; omega)
   rw [hF]
   obtain ⟨⟨a0,a1⟩,⟨b0,b1⟩,c0,c1⟩:=hb'
   exact ⟨⟨a0,by omega⟩,⟨b0,by omega⟩,c0,by omega⟩
 have run:∃ r H1,Good Tryz.prog σ n_weigh_of [.agg (encSl x),I (d:Int)] Hp.empty r H1∧K r H1:=by
  refine weigh_of.run ?_
  simp [encSl]
  refine L0 _ 0 _ _ rfl (Nat.zero_le _) ⟨⟨by simp [F],by simp [F]⟩,⟨by simp [F],by simp [F]⟩,by simp [F],by simp [F]⟩ ?_ (by simp)
  simp [F,W3.cells]
 obtain ⟨r,H1,hg',rfl,hb⟩:=run
 exact ⟨fun H=>hg'.over (by simp [noIds,noId,noId_Sl]) rfl H,hb⟩
theorem of_ok:∀ (d:Nat),d≤8→∀ (f:Nat) (x:Sl),d≤f→slWf Lmax x→FitS f x→(∀ H,Good Tryz.prog σ n_weigh_of [.agg (encSl x),I (d:Int)] H (I (ofW d x)) H)∧0≤ofW d x∧ofW d x≤16777215
 | 0,hd,f,x,hf,hw,hfit=>of_step (P:=fun _=>False) hd (g:=fun _=>0) (fun h=>absurd rfl h) x hw (by have:=hfit.1; omega) (fun p hp=>(hfit.2 p hp).1.wide) (fun h=>absurd rfl h)
 | d+1,hd,f,x,hf,hw,hfit=>by
  refine of_step (d:=d+1) (P:=fun y=>slWf Lmax y∧FitS (f - 1) y) hd (g:=ofW d) (fun _ y hy=>of_ok d (by omega) (f - 1) y (by omega) hy.1 hy.2) x hw (by have:=hfit.1; omega) (fun p hp=>(hfit.2 p hp).1.wide) (fun _ p hp q hq y hy=>?_)
  have hpw:=(Pt.wf_iff.1 (hw.2 p hp)).2
  have hqw:=(Ps.wf_iff.1 (hpw.ps q hq)).2.2.2
  refine ⟨hqw.2 y hy,?_⟩
  have:=(hfit.2 p hp).2 q hq
  obtain ⟨f',rfl⟩:∃ f',f=f'+1:=⟨f - 1,by omega⟩
  exact this y hy
theorem Of_ok {f:Nat} {x:Sl} (hf:8≤f) (hw:slWf Lmax x) (hfit:FitS f x) (H:Hp):Good Tryz.prog σ n_weigh_Of [.agg (encSl x)] H (I (ofW 8 x)) H:=by
 refine good_pure (weigh_Of.run ?_) (by simp [noIds,noId,noId_Sl]) rfl H
 simp
 exact callK_of ((of_ok 8 (by omega) f x hf hw hfit).1 _) rfl
end Go.Proofs.YthdcghnjndhecaaGreat.Ev
namespace Go.Proofs.YthdcghnjndhecaaGreat.Ev
set_option linter.unusedVariables false
set_option linter.unusedSimpArgs false
variable {σ:Sig}
structure W1 (H:Hp) (s:W3) (H':Hp):Prop where
 n:H'.n=H.n
 g:H'.get 1=some (.cells s.cells true)
 o:∀ j,j≠1→H'.get j=H.get j
theorem W1.trans {H H1 H2:Hp} {s s':W3} (h:W1 H s H1) (h':W1 H1 s' H2):W1 H s' H2:=⟨h'.n.trans h.n,h'.g,fun j hj=>(h'.o j hj).trans (h.o j hj)⟩
end Go.Proofs.YthdcghnjndhecaaGreat.Ev
namespace Go.Proofs.YthdcghnjndhecaaGreat.Ev
set_option linter.unusedVariables false
set_option linter.unusedSimpArgs false
variable {σ:Sig}
structure RI (x:Sl) (s:W3) (H:Hp):Prop where
 g0:H.get 0=some (.cells (encSl x) true)
 g1:H.get 1=some (.cells s.cells true)
 n:2≤H.n
theorem RI.step {x:Sl} {s s':W3} {H H':Hp} (h:RI x s H) (w:W1 H s' H'):RI x s' H':=⟨(w.o 0 (by decide)).trans h.g0,w.g,by rw [w.n]; exact h.n⟩
theorem RI.new {x:Sl} {s:W3} {H:Hp} (h:RI x s H) (b:Blk) (o:Option Blk):RI x s ((H.new b).set H.n o):=by
 have:=h.n
 have e0:(0:Nat)≠H.n:=by omega
 have e1:(1:Nat)≠H.n:=by omega
 refine ⟨?_,?_,?_⟩
 ·simp [e0,h.g0]
 ·simp [e1,h.g1]
 ·show 2≤H.n+1
  omega
theorem W3.Bd.mono {M N:Int} {s:W3} (h:s.Bd M) (hl:M≤N):s.Bd N:=by
 obtain ⟨⟨a0,a1⟩,⟨b0,b1⟩,c0,c1⟩:=h
 exact ⟨⟨a0,by omega⟩,⟨b0,by omega⟩,c0,by omega⟩
section
end
end Go.Proofs.YthdcghnjndhecaaGreat.Ev
namespace Go.Proofs.YthdcghnjndhecaaGreat.Ev
set_option linter.unusedVariables false
set_option linter.unusedSimpArgs false
variable {σ:Sig}
structure WsOk (l:List Sl):Prop where
 len:l.length≤2000000
 ok:∀ s ∈ l,SelOk 11 [s]∧TxL 11 [s]
 wf:∀ s ∈ l,slWf Lmax s
 fit:∀ s ∈ l,FitS 10 s
theorem ofW_le {s:Sl} (hw:slWf Lmax s) (hf:FitS 10 s):0≤ofW 8 s∧ofW 8 s≤16777215:=(of_ok (σ:=⟨fun _=>0,fun _=>false,fun _=>⟨#[]⟩,none⟩) 8 (by decide) 10 s (by decide) hw hf).2
def bestW (L:List Nd) (e:Int):List Sl→Int × Bool→Int × Bool
 | [],a=>a
 | s::r,a=>bestW L e r (if selB L 11 s e then (if a.1<ofW 8 s then ofW 8 s else a.1,true) else a)
section
attribute [local irreducible] weigh_Best.L0 weigh_Best.J1
theorem Best_ok {L:List Nd} {d:List Nat} (M:McT σ L d) {l:List Sl} (hl:WsOk l) (e:Int) (H:Hp) :
  Good Tryz.prog σ n_weigh_Best [domT L d,I e,sls l] H (.tup [I (bestW L e l (0,false)).1,Bo (bestW L e l (0,false)).2]) H:=by
 refine good_by (fun K hK=>weigh_Best.run ?_) (by simp [noIds,noId,noId_domT]) rfl H
 have hll:=hl.len
 rw [len_sls,bnd_some]
 have L0:∀ (f k:Nat) (H:Hp) (a:Int × Bool),l.length - k=f→k≤l.length→bestW L e (l.drop k) a=bestW L e l (0,false)→weigh_Best.L0 σ K (domT L d) (I e) (I a.1) (Bo a.2) (sls l) (I (l.length:Int)) (I (k:Int)) H:=by
  intro f
  induction f with
  | zero =>
   intro k H a hf hk ha
   have:k=l.length:=by omega
   subst this
   rw [List.drop_length] at ha
   refine weigh_Best.L0_step ?_
   simp only [b_lss,bnd_some,Int.lt_irrefl,decide_false,ifB_lit,Bool.false_eq_true,if_false]
   rw [← ha] at hK
   exact hK _
  | succ f ih =>
   intro k H a hf hk ha
   have hlt:k<l.length:=by omega
   have hlt':(k:Int)<l.length:=by omega
   obtain ⟨s,hs⟩:=get_lt hlt
   have hsm:=List.mem_of_getElem? hs
   have hix:ixaSl 1 (sls l) (I (k:Int))=some (.ip (encSl s)):=ix_map hs
   rw [drop_get hs,bestW] at ha
   refine weigh_Best.L0_step ?_
   simp only [b_lss,bnd_some,hlt',decide_true,ifB_lit,if_true,hix,ld_ip,ldL_sl,allocK_eq]
   obtain ⟨H2,hH2⟩:∃ H2,H2=(H.new (.cells [.lit (.slice none 0 0)] true)).set H.n (some (.cells (encSl s) true)):=⟨_,rfl⟩
   refine bnd_of (x:=H2) ?_ ?_
   ·rw [st_agg,hH2]
    simp only [hp_get_new,if_true]
    rfl
   have hl2:ldA true 1 H2 (.ptr H.n 0)=some (.agg (encSl s)):=by rw [hH2]; simp
   have next:∀ (H:Hp) (a:Int × Bool),bestW L e (l.drop (k+1)) a=bestW L e l (0,false)→weigh_Best.J1 σ K (domT L d) (I e) (I a.1) (Bo a.2) (sls l) (I (l.length:Int)) (I (k:Int)) H:=by
    intro H a ha
    refine weigh_Best.J1_step ?_
    rw [b_add,bnd_some,wr_succ (by omega)]
    exact ih (k+1) H a (by omega) (by omega) ha
   rw [hl2,bnd_some]
   obtain ⟨S,X⟩:=hl.ok s hsm
   refine callK_of (Sel_ok M S e _) ?_
   simp only [ifB_lit]
   cases hsel:selB L 11 s e with
   | false =>
    rw [hsel] at ha
    simp only [Bool.false_eq_true,if_false] at ha ⊢
    exact next _ a ha
   | true =>
    rw [hsel] at ha
    simp only [if_true] at ha ⊢
    rw [hl2,bnd_some]
    refine callK_of (Of_ok (f:=10) (by decide) (hl.wf s hsm) (hl.fit s hsm) _) ?_
    have hmax:maxA [I a.1,I (ofW 8 s)]=some (I (if a.1<ofW 8 s then ofW 8 s else a.1)):=by simp [maxA,toI,maxStep]
    rw [hmax,bnd_some]
    exact next _ (_,true) ha
 exact L0 _ 0 _ (0,false) rfl (Nat.zero_le _) rfl
end
end Go.Proofs.YthdcghnjndhecaaGreat.Ev
namespace Go.Proofs.YthdcghnjndhecaaGreat.Ev
set_option linter.unusedVariables false
set_option linter.unusedSimpArgs false
variable {σ:Sig}
structure Wn where
 o:List Int
 w:List Int
 t:List Bool
structure Wn.Ok (s:Wn):Prop where
 o:s.o.length=16
 w:s.w.length=8
 t:s.t.length=8
def setW (w:Int) (s:Wn) (q:ST):Wn :=
 if q.prop<0∨8≤q.prop then s
 else if s.t.getD q.prop.toNat false=true∧(if q.imp then w+1073741824 else w)<s.w.getD q.prop.toNat 0 then s
 else ⟨(s.o.set (q.prop.toNat*2) q.kind).set (q.prop.toNat*2+1) q.n,s.w.set q.prop.toNat (if q.imp then w+1073741824 else w),s.t.set q.prop.toNat true⟩
def ruleW (L:List Nd) (e:Int) (s:Wn) (r:RL):Wn:=if (bestW L e r.sels (0,false)).2 then r.sets.foldl (setW (bestW L e r.sels (0,false)).1) s else s
def wn0:Wn:=⟨List.replicate 16 0,List.replicate 8 0,List.replicate 8 false⟩
def winW (L:List Nd) (e:Int) (m:List RL):Wn:=m.foldl (ruleW L e) wn0
theorem setW_ok {w:Int} {s:Wn} {q:ST} (h:s.Ok):(setW w s q).Ok:=by
 unfold setW
 generalize (if q.imp=true then w+1073741824 else w)=x
 split
 ·exact h
 split
 ·exact h
 ·exact ⟨by simp [h.o],by simp [h.w],by simp [h.t]⟩
theorem ov_two:∀ (cs:List AV) (i:Nat) (x y:AV),i+1<cs.length→overlay cs i [x,y]=(cs.set i x).set (i+1) y:=by
 intro cs i x y h
 unfold overlay
 apply List.ext_getElem?
 intro j
 simp only [List.getElem?_append,List.length_take,List.length_append,List.getElem?_take,List.getElem?_drop,List.getElem?_set,List.length_set,List.length_cons,List.length_nil]
 have hm:min i cs.length=i:=by omega
 rw [hm]
 by_cases h1:j<i
 ·have:j<i+(0+1+1):=by omega
  have e1:i+1≠j:=by omega
  have e2:i≠j:=by omega
  simp [h1,this,e1,e2]
 ·by_cases h2:j=i
  ·subst h2
   have:j<cs.length:=by omega
   simp [this]
  ·by_cases h3:j=i+1
   ·subst h3
    have e1:¬ i+1<i:=by omega
    simp [h,e1]
   ·have e1:¬ j<i+(0+1+1):=by omega
    have e2:i+1≠j:=by omega
    have e3:i≠j:=by omega
    simp [e1,e2,e3]
    congr 1
    omega
structure WI (s:Wn) (H:Hp):Prop where
 g0:H.get 0=some (.cells (List.replicate 16 (I 0)) true)
 g1:H.get 1=some (.cells (s.o.map I) true)
 g2:H.get 2=some (.cells (s.w.map I) true)
 g3:H.get 3=some (.cells (s.t.map Bo) true)
 n:4≤H.n
theorem WI.new {s:Wn} {H:Hp} (h:WI s H) (b:Blk) (o:Option Blk):WI s ((H.new b).set H.n o):=by
 have:=h.n
 have e0:(0:Nat)≠H.n:=by omega
 have e1:(1:Nat)≠H.n:=by omega
 have e2:(2:Nat)≠H.n:=by omega
 have e3:(3:Nat)≠H.n:=by omega
 refine ⟨?_,?_,?_,?_,?_⟩
 ·simp [e0,h.g0]
 ·simp [e1,h.g1]
 ·simp [e2,h.g2]
 ·simp [e3,h.g3]
 ·show 4≤H.n+1
  omega
section
end
end Go.Proofs.YthdcghnjndhecaaGreat.Ev
namespace Go.Proofs.YthdcghnjndhecaaGreat.Ev
set_option linter.unusedVariables false
set_option linter.unusedSimpArgs false
variable {σ:Sig}
structure Cn where
 prop:Int
 kind:Int
 n:Int
 imp:Bool
 wt:Int
def encCn (c:Cn):List AV:=[I c.prop,I c.kind,I c.n,Bo c.imp,I c.wt]
def cn0:Cn:=⟨0,0,0,false,0⟩
def Cn.x (c:Cn):Int:=if c.imp then c.wt+1073741824 else c.wt
theorem beats_ok (c d:Cn) (H:Hp):Good Tryz.prog σ n_cascade_candidate_beats [.agg (encCn c),.agg (encCn d)] H (Bo (if c.imp=d.imp then decide (d.wt≤c.wt) else c.imp)) H:=by
 refine good_by (fun K hK=>cascade_candidate_beats.run ?_) (by simp [noIds,noId,encCn]) rfl H
 simp only [boxK_agg]
 have h0:((Hp.empty.new (.cells (encCn c) true)).new (.cells (encCn d) true)).get 0=some (.cells (encCn c) true):=by simp [Hp.empty]
 have h1:((Hp.empty.new (.cells (encCn c) true)).new (.cells (encCn d) true)).get 1=some (.cells (encCn d) true):=by simp [Hp.empty]
 have e0:Hp.empty.n=0:=rfl
 have e1:(Hp.empty.new (.cells (encCn c) true)).n=1:=rfl
 rw [e0,e1]
 have l1:ldA false 1 ((Hp.empty.new (.cells (encCn c) true)).new (.cells (encCn d) true)) (.ptr 0 (0+0+3))=some (Bo c.imp):=by rw [ld_ptr,h0]; rfl
 have l2:ldA false 1 ((Hp.empty.new (.cells (encCn c) true)).new (.cells (encCn d) true)) (.ptr 1 (0+0+3))=some (Bo d.imp):=by rw [ld_ptr,h1]; rfl
 have l3:ldA false 1 ((Hp.empty.new (.cells (encCn c) true)).new (.cells (encCn d) true)) (.ptr 0 (0+4))=some (I c.wt):=by rw [ld_ptr,h0]; rfl
 have l4:ldA false 1 ((Hp.empty.new (.cells (encCn c) true)).new (.cells (encCn d) true)) (.ptr 1 (0+4))=some (I d.wt):=by rw [ld_ptr,h1]; rfl
 simp only [sh_ptr,bnd_some,l1,l2,l3,l4,e_boolN,ifB_lit,b_geq]
 by_cases h:c.imp=d.imp
 ·rw [if_pos h] at hK
  simp only [h,beq_self_eq_true,Bool.not_true,Bool.false_eq_true,if_false]
  exact hK _
 ·rw [if_neg h] at hK
  have:(c.imp == d.imp)=false:=by simpa using h
  simp only [this,Bool.not_false,if_true]
  exact hK _
structure RS (n:Nat) (t e l x a:AV) (js:Nat→AV) (bs:List Cn) (s:Wn) (H:Hp):Prop where
 gt:H.get n=some (.cells [t] true)
 ge:H.get (n+1)=some (.cells [e] true)
 gl:H.get (n+2)=some (.cells [l] true)
 gx:H.get (n+3)=some (.cells [x] true)
 ga:H.get (n+4)=some (.cells [a] true)
 gr:H.get (n+5)=some (.cells (List.replicate 16 (I 0)) true)
 go:H.get (n+6)=some (.cells (s.o.map I) true)
 gb:H.get (n+7)=some (.cells (bs.map encCn).flatten true)
 gs:H.get (n+8)=some (.cells (s.t.map Bo) true)
 lp:H.get (n+9)=some (.loop (cascade_winners.R0 js (.ptr (n+6) 0) (.ptr (n+7) 0) (.ptr (n+8) 0)) .ready none)
 up:n+10≤H.n
 ok:s.Ok
 bl:bs.length=8
 bw:∀ p,p<8→s.t.getD p false=true→∃ c,bs[p]?=some c∧c.x=s.w.getD p 0∧0≤c.wt∧c.wt≤16777215
theorem RS.keep {n:Nat} {t e l x a:AV} {js:Nat→AV} {bs:List Cn} {s:Wn} {H H':Hp} (h:RS n t e l x a js bs s H) (hg:∀ j,n≤j→j<n+10→H'.get j=H.get j) (hn:H.n≤H'.n):RS n t e l x a js bs s H' :=
 ⟨by rw [hg _ (by omega) (by omega)]; exact h.gt,by rw [hg _ (by omega) (by omega)]; exact h.ge,by rw [hg _ (by omega) (by omega)]; exact h.gl,by rw [hg _ (by omega) (by omega)]; exact h.gx,by rw [hg _ (by omega) (by omega)]; exact h.ga,by rw [hg _ (by omega) (by omega)]; exact h.gr,by rw [hg _ (by omega) (by omega)]; exact h.go,by rw [hg _ (by omega) (by omega)]; exact h.gb,by rw [hg _ (by omega) (by omega)]; exact h.gs,by rw [hg _ (by omega) (by omega)]; exact h.lp,by have:=h.up; omega,h.ok,h.bl,h.bw⟩
theorem cn_len (bs:List Cn):∀ r ∈ bs.map encCn,r.length=5:=by
 intro r hr
 obtain ⟨c,_,rfl⟩:=List.mem_map.1 hr
 rfl
theorem cn_flat_len (bs:List Cn):(bs.map encCn).flatten.length=bs.length*5:=by
 rw [flatten_len (cn_len bs),List.length_map]
theorem yield_ok {n:Nat} {t e l x a:AV} {js:Nat→AV} {bs:List Cn} {s:Wn} {H:Hp} (h:RS n t e l x a js bs s H) {q:ST} {w:Int} (hw:0≤w∧w≤16777215) {K:AV→Hp→Prop}
  (hK:∀ H' bs',RS n t e l x a js bs' (setW w s q) H'→H.n≤H'.n→(∀ j,j<H.n→(j<n∨n+10≤j)→H'.get j=H.get j)→K (Bo true) H'):callV Tryz.prog σ (.yl (n+9)) [.agg [I q.prop,I q.kind,I q.n,Bo q.imp,I w]] H K:=by
 refine cascade_winners.R0_round h.lp ?_
 have hup:=h.up
 obtain ⟨c,hc⟩:∃ c:Cn,c=⟨q.prop,q.kind,q.n,q.imp,w⟩:=⟨_,rfl⟩
 have ec:[I q.prop,I q.kind,I q.n,Bo q.imp,I w]=encCn c:=by rw [hc]; rfl
 rw [ec]
 simp only [allocK_eq]
 obtain ⟨H3,hH3⟩:∃ H3,H3=(H.new (.cells [I 0,I 0,I 0,.lit (.bool false),I 0] true)).set H.n (some (.cells (encCn c) true)):=⟨_,rfl⟩
 have st:stA 5 (H.new (.cells [I 0,I 0,I 0,.lit (.bool false),I 0] true)) (.ptr H.n 0) (.agg (encCn c))=some H3:=by
  rw [st_agg,hH3]; simp [encCn]; rfl
 have n3:H3.n=H.n+1:=by rw [hH3]; rfl
 have g3:∀ j,H3.get j=if j=H.n then some (.cells (encCn c) true) else H.get j:=by
  intro j
  rw [hH3]
  by_cases e:j=H.n
  ·subst e; simp
  ·simp [e]
 clear hH3
 simp only [st,bnd_some]
 refine ⟨by rw [g3,if_neg (by omega)]; exact h.lp,?_⟩
 obtain ⟨H4,hH4⟩:∃ H4,H4=H3.set (n+9) (some (.loop (cascade_winners.R0 js (.ptr (n+6) 0) (.ptr (n+7) 0) (.ptr (n+8) 0)) .busy none)):=⟨_,rfl⟩
 rw [← hH4]
 have n4:H4.n=H.n+1:=by rw [hH4]; exact n3
 have g4:∀ j,j≠n+9→H4.get j=if j=H.n then some (.cells (encCn c) true) else H.get j:=by
  intro j hj
  rw [hH4,hp_get_set,if_neg hj,g3]
 have gl4:H4.get (n+9)=some (.loop (cascade_winners.R0 js (.ptr (n+6) 0) (.ptr (n+7) 0) (.ptr (n+8) 0)) .busy none):=by rw [hH4,hp_get_set,if_pos rfl]
 clear hH4
 have gc4:H4.get H.n=some (.cells (encCn c) true):=by rw [g4 _ (by omega),if_pos rfl]
 have go4:H4.get (n+6)=some (.cells (s.o.map I) true):=by rw [g4 _ (by omega),if_neg (by omega)]; exact h.go
 have gb4:H4.get (n+7)=some (.cells (bs.map encCn).flatten true):=by rw [g4 _ (by omega),if_neg (by omega)]; exact h.gb
 have gs4:H4.get (n+8)=some (.cells (s.t.map Bo) true):=by rw [g4 _ (by omega),if_neg (by omega)]; exact h.gs
 have fin:∀ (H5:Hp) (bs':List Cn) (s':Wn),H5.n=H4.n→(∀ j,j≠n+6→j≠n+7→j≠n+8→H5.get j=H4.get j)→H5.get (n+6)=some (.cells (s'.o.map I) true)→H5.get (n+7)=some (.cells (bs'.map encCn).flatten true)→H5.get (n+8)=some (.cells (s'.t.map Bo) true) →
   s'=setW w s q→bs'.length=8→(∀ p,p<8→s'.t.getD p false=true→∃ c,bs'[p]?=some c∧c.x=s'.w.getD p 0∧0≤c.wt∧c.wt≤16777215) →
   roundE (n+9) (cascade_winners.R0 js (.ptr (n+6) 0) (.ptr (n+7) 0) (.ptr (n+8) 0)) K .normal H5:=by
  intro H5 bs' s' e1 e2 e3 e4 e5 e6 e7 e8
  rw [roundE_normal]
  refine ⟨by rw [e2 _ (by omega) (by omega) (by omega)]; exact gl4,?_⟩
  have old:∀ j,j≠n+6→j≠n+7→j≠n+8→j≠n+9→j<H.n→(H5.set (n+9) (some (.loop (cascade_winners.R0 js (.ptr (n+6) 0) (.ptr (n+7) 0) (.ptr (n+8) 0)) .ready none))).get j=H.get j:=by
   intro j h1 h2 h3 h4 h5
   rw [hp_get_set,if_neg h4,e2 j h1 h2 h3,g4 j h4,if_neg (by omega)]
  refine hK _ bs' ?_ (by rw [Hp.n_set,e1,n4]; omega) fun j hj hr=>old j (by omega) (by omega) (by omega) (by omega) hj
  rw [← e6]
  refine ⟨by rw [old _ (by omega) (by omega) (by omega) (by omega) (by omega)]; exact h.gt,by rw [old _ (by omega) (by omega) (by omega) (by omega) (by omega)]; exact h.ge,by rw [old _ (by omega) (by omega) (by omega) (by omega) (by omega)]; exact h.gl,by rw [old _ (by omega) (by omega) (by omega) (by omega) (by omega)]; exact h.gx,by rw [old _ (by omega) (by omega) (by omega) (by omega) (by omega)]; exact h.ga,by rw [old _ (by omega) (by omega) (by omega) (by omega) (by omega)]; exact h.gr,by rw [hp_get_set,if_neg (by omega)]; exact e3,by rw [hp_get_set,if_neg (by omega)]; exact e4,by rw [hp_get_set,if_neg (by omega)]; exact e5,by rw [hp_get_set,if_pos rfl],by rw [Hp.n_set,e1,n4]; omega,by rw [e6]; exact setW_ok h.ok,e7,e8⟩
 have same:s=setW w s q→roundE (n+9) (cascade_winners.R0 js (.ptr (n+6) 0) (.ptr (n+7) 0) (.ptr (n+8) 0)) K .normal H4:=fun e =>
  fin H4 bs s rfl (fun _ _ _ _=>rfl) go4 gb4 gs4 e h.bl h.bw
 have l7:ldA false 1 H4 (.ptr H.n (0+0+0))=some (I q.prop):=by rw [ld_ptr,gc4,hc]; rfl
 simp only [sh_ptr,bnd_some,l7,b_lss,ifB_lit,b_geq,decide_eq_true_eq]
 by_cases h0:q.prop<0
 ·rw [if_pos h0]
  exact same (by unfold setW; rw [if_pos (.inl h0)])
 rw [if_neg h0]
 by_cases h8:8≤q.prop
 ·rw [if_pos h8]
  exact same (by unfold setW; rw [if_pos (.inr h8)])
 rw [if_neg h8]
 obtain ⟨p,hp⟩:∃ p:Nat,q.prop=p:=⟨q.prop.toNat,by omega⟩
 have hp8:p<8:=by omega
 have hpt:q.prop.toNat=p:=by omega
 have ol:=h.ok.o
 have wl:=h.ok.w
 have tl:=h.ok.t
 have bl:=h.bl
 have lt4:ldA false 1 H4 (.ptr (n+8) p)=some (Bo (s.t.getD p false)):=by
  rw [ld_ptr,gs4,ldO_cells,ldL_map (by omega)]
  simp [show p<s.t.length by omega]
 have lc4:∀ H5:Hp,H5.get H.n=some (.cells (encCn c) true)→ldA true 5 H5 (.ptr H.n 0)=some (.agg (encCn c)):=fun H5 h=>by rw [ld_ptr,h]; rfl
 have lv4:∀ H5:Hp,H5.get H.n=some (.cells (encCn c) true)→ldA true 2 H5 (.ptr H.n (0+0+1))=some (.agg [I q.kind,I q.n]):=fun H5 h=>by rw [ld_ptr,h,hc]; rfl
 have stores:∀ (H5:Hp),H5=H4→(¬ (s.t.getD p false=true∧(if q.imp then w+1073741824 else w)<s.w.getD p 0)) →
   bnd (stA 5 H5 (.ptr (n+7) (0+p*5)) (.agg (encCn c))) fun H15=>bnd (stA 1 H15 (.ptr (n+8) (0+p*1)) (Bo true)) fun H17=>bnd (ldA true 2 H17 (.ptr H.n (0+0+1))) fun x20=>bnd (stA 2 H17 (.ptr (n+6) (0+p*2)) x20) fun H22=>roundE (n+9) (cascade_winners.R0 js (.ptr (n+6) 0) (.ptr (n+7) 0) (.ptr (n+8) 0)) K .normal H22:=by
  intro H5 e5 hno
  subst e5
  have hpb:p<(bs.map encCn).length:=by simp; omega
  have ovb:overlay (bs.map encCn).flatten (p*5+0) (encCn c)=((bs.set p c).map encCn).flatten:=by
   rw [flat_overlay (sz:=5) (by simp [encCn]) (cn_len bs) hpb]
   rw [overlay_all (by rw [cn_len bs _ (List.getElem_mem hpb)]; rfl),List.map_set]
  have s1:stA 5 H5 (.ptr (n+7) (0+p*5)) (.agg (encCn c))=some (H5.set (n+7) (some (.cells ((bs.set p c).map encCn).flatten true))):=by
   rw [st_agg,gb4,show 0+p*5=p*5+0 by omega]
   simp only [stO_cells,ovb]
   rw [if_pos (by rfl),if_pos ⟨by rw [cn_flat_len,bl]; simp [encCn]; omega,by simp [encCn]⟩]
  have g5:∀ b,(H5.set (n+7) b).get (n+8)=H5.get (n+8):=fun b=>by simp
  have s2:stA 1 (H5.set (n+7) (some (.cells ((bs.set p c).map encCn).flatten true))) (.ptr (n+8) (0+p*1)) (Bo true)=some ((H5.set (n+7) (some (.cells ((bs.set p c).map encCn).flatten true))).set (n+8) (some (.cells ((s.t.set p true).map Bo) true))):=by
   rw [st_bool,g5,gs4,stO_cells,if_pos ⟨by simp; omega,rfl⟩,show 0+p*1=p by omega,ov_map true (by omega)]
  have g6:((H5.set (n+7) (some (.cells ((bs.set p c).map encCn).flatten true))).set (n+8) (some (.cells ((s.t.set p true).map Bo) true))).get H.n=some (.cells (encCn c) true):=by
   have e1:H.n≠n+7:=by omega
   have e2:H.n≠n+8:=by omega
   simp [e1,e2,gc4]
  have g7:((H5.set (n+7) (some (.cells ((bs.set p c).map encCn).flatten true))).set (n+8) (some (.cells ((s.t.set p true).map Bo) true))).get (n+6)=some (.cells (s.o.map I) true):=by
   simp [go4]
  have ovo:overlay (s.o.map I) (0+p*2) [I q.kind,I q.n]=((s.o.set (p*2) q.kind).set (p*2+1) q.n).map I:=by
   rw [Nat.zero_add,ov_two _ _ _ _ (by simp; omega),List.map_set,List.map_set]
  simp only [s1,bnd_some,s2,lv4 _ g6]
  rw [st_agg,g7]
  rw [if_pos (show [I q.kind,I q.n].length=2 from rfl),stO_cells,if_pos ⟨by simp; omega,rfl⟩,ovo,bnd_some]
  have es:setW w s q=⟨(s.o.set (p*2) q.kind).set (p*2+1) q.n,s.w.set p (if q.imp then w+1073741824 else w),s.t.set p true⟩:=by
   unfold setW
   rw [if_neg (by omega),hpt,if_neg hno]
  refine fin _ (bs.set p c) (setW w s q) (by simp) (fun j h1 h2 h3=>by simp [h1,h2,h3]) (by rw [es]; simp) (by simp) (by rw [es]; simp) rfl (by simpa using bl) fun r hr ht=>?_
  rw [es] at ht ⊢
  simp only at ht ⊢
  by_cases e:r=p
  ·subst e
   refine ⟨c,by simp [bl,hr],?_,by rw [hc]; exact hw.1,by rw [hc]; exact hw.2⟩
   rw [hc]
   simp [Cn.x,wl,hr]
  ·have ht':s.t.getD r false=true:=by
    rw [← ht]
    simp only [List.getD_eq_getElem?_getD,List.getElem?_set_ne (Ne.symm e)]
   obtain ⟨c',h1,h2,h3⟩:=h.bw r hr ht'
   refine ⟨c',by rw [List.getElem?_set_ne (Ne.symm e)]; exact h1,?_,h3⟩
   rw [h2]
   simp only [List.getD_eq_getElem?_getD,List.getElem?_set_ne (Ne.symm e)]
 rw [hp]
 simp only [ixArrN hp8,sh_ptr,bnd_some,Nat.mul_one,Nat.zero_add,lt4,u_not,ifB_lit]
 simp only [Nat.mul_one,Nat.zero_add] at stores
 by_cases ht:s.t.getD p false=true
 ·simp only [ht,Bool.not_true,Bool.false_eq_true,if_false]
  obtain ⟨c',h1,h2,h3⟩:=h.bw p hp8 ht
  have hpb:p<(bs.map encCn).length:=by simp; omega
  have lb:ldA true 5 H4 (.ptr (n+7) (p*5))=some (.agg (encCn c')):=by
   rw [ld_ptr,gb4,ldO_cells,flat_drop (cn_len bs) hpb]
   have:(bs.map encCn)[p]=encCn c':=by
    obtain ⟨hlt,rfl⟩:=List.getElem?_eq_some_iff.1 h1
    simp
   rw [this]
   rfl
  simp only [lc4 H4 gc4,bnd_some,lb]
  refine callK_of (beats_ok c c' _) ?_
  have hb:(if c.imp=c'.imp then decide (c'.wt≤c.wt) else c.imp)=true ↔ ¬ ((if q.imp then w+1073741824 else w)<s.w.getD p 0):=by
   rw [← h2,hc]
   unfold Cn.x
   simp only
   cases q.imp<;>cases c'.imp<;>simp<;>omega
  by_cases hbt:(if c.imp=c'.imp then decide (c'.wt≤c.wt) else c.imp)=true
  ·rw [hbt]
   simp only [ifB_lit,if_true,lc4 H4 gc4,bnd_some]
   exact stores H4 rfl fun hh=>hb.1 hbt hh.2
  ·have:(if c.imp=c'.imp then decide (c'.wt≤c.wt) else c.imp)=false:=Bool.eq_false_iff.2 hbt
   rw [this]
   simp only [ifB_lit,Bool.false_eq_true,if_false]
   refine same ?_
   unfold setW
   rw [if_neg (by omega),hpt,if_pos]
   refine ⟨ht,Decidable.byContradiction fun hh=>hbt (hb.2 hh)⟩
 ·have htf:s.t.getD p false=false:=by simpa using ht
  simp only [htf,Bool.not_false,if_true,lc4 H4 gc4,bnd_some]
  exact stores H4 rfl fun hh=>ht hh.1
end Go.Proofs.YthdcghnjndhecaaGreat.Ev
namespace Go.Proofs.YthdcghnjndhecaaGreat.Ev
set_option linter.unusedVariables false
set_option linter.unusedSimpArgs false
variable {σ:Sig}
def encZ1 (n:Int):List AV:=[I n]
def intz (l:List Int):AV:=.imm 1 (l.map encZ1)
@[simp] theorem noId_intz (l:List Int):noId (intz l)=true:=by unfold intz; simp only [noId]; exact noIds_map _ (fun _=>rfl) l
@[simp] theorem len_intz (l:List Int):lenSl (intz l)=some (.lit (.int .i64 l.length)):=by simp [intz]
def ruleF (L:List Nd) (e:Int) (ask:Sl→Bool) (s:Wn) (r:RL):Wn:=if (bestW L e (r.sels.filter ask) (0,false)).2 then r.sets.foldl (setW (bestW L e (r.sels.filter ask) (0,false)).1) s else s
def runI (L:List Nd) (e:Int) (ask:Sl→Bool) (l:List RL) (s:Wn) (i:Int):Wn:=if i<0 then s else match l[i.toNat]? with
 | some r=>ruleF L e ask s r
 | none=>s
theorem WsOk.filter {l:List Sl} (h:WsOk l) (p:Sl→Bool):WsOk (l.filter p) :=
 ⟨Nat.le_trans (List.length_filter_le _ _) h.len,fun s hs=>h.ok s (List.mem_filter.1 hs).1,fun s hs=>h.wf s (List.mem_filter.1 hs).1,fun s hs=>h.fit s (List.mem_filter.1 hs).1⟩
theorem bestW_bd {L:List Nd} {e:Int}:∀ {l:List Sl},WsOk l→∀ a:Int × Bool,0≤a.1∧a.1≤16777215→0≤(bestW L e l a).1∧(bestW L e l a).1≤16777215
 | [],_,a,ha=>ha
 | s::r,h,a,ha=>by
  have hs:=ofW_le (h.wf s (by simp)) (h.fit s (by simp))
  have hr:WsOk r:=⟨by have:=h.len; rw [List.length_cons] at this; omega,fun s hs=>h.ok s (by simp [hs]),fun s hs=>h.wf s (by simp [hs]),fun s hs=>h.fit s (by simp [hs])⟩
  unfold bestW
  refine bestW_bd hr _ ?_
  split
  ·simp only
   split<;>omega
  ·exact ha
section
attribute [local irreducible] cascade_candidates_1.L0 cascade_candidates_1.J1 cascade_candidates_1.L2 cascade_candidates_1.J3 cascade_candidates_1.L4
theorem cand_ok {L:List Nd} {d:List Nat} (M:McT σ L d) {l:List RL} (hl:∀ r ∈ l,WsOk r.sels∧r.sets.length≤30) {n:Nat} {e:Int} {ask:Sl→Bool} {a:AV} {js:Nat→AV} {bs:List Cn} {s:Wn} {idx:List Int} {H:Hp}
  (h:RS n (domT L d) (I e) (rls l) (intz idx) a js bs s H) (P:Hp→Prop) (hP:P H) (Pst:∀ H H',P H→H.n≤H'.n→(∀ j,j<n→H'.get j=H.get j)→P H')
  (hask:∀ r ∈ l,∀ q ∈ r.sels,∀ (H:Hp) (K:AV→Hp→Prop),P H→n+10≤H.n→(∀ H',H.n≤H'.n→(∀ j,j<H.n→H'.get j=H.get j)→K (Bo (ask q)) H')→callV Tryz.prog σ a [.agg (encSl q)] H K) (hidx:idx.length≤1000000)
  {K:AV→Hp→Prop} (hK:∀ H' bs',RS n (domT L d) (I e) (rls l) (intz idx) a js bs' (idx.foldl (runI L e ask l) s) H'→(∀ j,j<n→H'.get j=H.get j)→K (.tup []) H') :
  callK Tryz.prog σ n_cascade_candidates_1 [.yl (n+9),.ptr (n+3) 0,.ptr (n+2) 0,.ptr (n+4) 0,.ptr n 0,.ptr (n+1) 0] H K:=by
 refine cascade_candidates_1.run ?_
 have ldx:∀ {bs s H},RS n (domT L d) (I e) (rls l) (intz idx) a js bs s H→ldA false 1 H (.ptr (n+3) 0)=some (intz idx):=fun h=>by rw [ld_ptr,h.gx]; rfl
 have ldl:∀ {bs s H},RS n (domT L d) (I e) (rls l) (intz idx) a js bs s H→ldA false 1 H (.ptr (n+2) 0)=some (rls l):=fun h=>by rw [ld_ptr,h.gl]; rfl
 have lda:∀ {bs s H},RS n (domT L d) (I e) (rls l) (intz idx) a js bs s H→ldA false 1 H (.ptr (n+4) 0)=some a:=fun h=>by rw [ld_ptr,h.ga]; simp
 have ldt:∀ {bs s H},RS n (domT L d) (I e) (rls l) (intz idx) a js bs s H→ldA false 1 H (.ptr n 0)=some (domT L d):=fun h=>by rw [ld_ptr,h.gt]; simp
 have lde:∀ {bs s H},RS n (domT L d) (I e) (rls l) (intz idx) a js bs s H→ldA false 1 H (.ptr (n+1) 0)=some (I e):=fun h=>by rw [ld_ptr,h.ge]; rfl
 simp only [ldx h,bnd_some,len_intz]
 obtain ⟨F,hF⟩:∃ F:Nat→Wn,∀ k,F k=(idx.take k).foldl (runI L e ask l) s:=⟨_,fun _=>rfl⟩
 obtain ⟨lw,hlw⟩:∃ lw:Hp→Prop,∀ H',lw H' ↔ ∀ j,j<n→H'.get j=H.get j:=⟨_,fun _=>Iff.rfl⟩
 have L0:∀ (f k:Nat) (H1:Hp) (bs:List Cn) (y8 y9 y12 y13 y34 y35 y36 y59 y60 y61:AV),idx.length - k=f→k≤idx.length→RS n (domT L d) (I e) (rls l) (intz idx) a js bs (F k) H1→P H1→lw H1 →
   cascade_candidates_1.L0 σ K (.yl (n+9)) (.ptr (n+2) 0) (.ptr (n+4) 0) (.ptr n 0) (.ptr (n+1) 0) y8 y9 y12 y13 (intz idx) (I idx.length) (I (k:Int)) y34 y35 y36 y59 y60 y61 H1:=by
  intro f
  induction f with
  | zero =>
   intro k H1 bs y8 y9 y12 y13 y34 y35 y36 y59 y60 y61 hf hk hI hP1 hlo
   have:k=idx.length:=by omega
   subst this
   refine cascade_candidates_1.L0_step ?_
   simp only [b_lss,bnd_some,Int.lt_irrefl,decide_false,ifB_lit,Bool.false_eq_true,if_false]
   rw [hF,List.take_length] at hI
   exact hK H1 bs hI ((hlw H1).1 hlo)
  | succ f ih =>
   intro k H1 bs y8 y9 y12 y13 y34 y35 y36 y59 y60 y61 hf hk hI hP1 hlo
   have hkl:k<idx.length:=by omega
   have hkl':(k:Int)<idx.length:=by omega
   obtain ⟨i,hi⟩:=get_lt hkl
   have hix:ixaSl 1 (intz idx) (I (k:Int))=some (.ip (encZ1 i)):=ix_map hi
   have lz:∀ H:Hp,ldA false 1 H (.ip (encZ1 i))=some (I i):=fun _=>rfl
   have eF:F (k+1)=runI L e ask l (F k) i:=by rw [hF,hF,List.take_add_one,hi]; simp
   have J1:∀ (H1:Hp) (bs:List Cn) (y8 y9 y12 y13 y34 y35 y36 y59 y60 y61:AV),RS n (domT L d) (I e) (rls l) (intz idx) a js bs (F (k+1)) H1→P H1→lw H1 →
     cascade_candidates_1.J1 σ K (.yl (n+9)) (.ptr (n+2) 0) (.ptr (n+4) 0) (.ptr n 0) (.ptr (n+1) 0) y8 y9 y12 y13 (intz idx) (I idx.length) (I (k:Int)) y34 y35 y36 y59 y60 y61 H1:=by
    intro H1 bs y8 y9 y12 y13 y34 y35 y36 y59 y60 y61 hI hP1 hlo
    refine cascade_candidates_1.J1_step ?_
    simp only [b_add,bnd_some,wr_succ (show k<9000000000000000000 by omega)]
    exact ih (k+1) H1 bs _ _ _ _ _ _ _ _ _ _ (by omega) (by omega) hI hP1 hlo
   refine cascade_candidates_1.L0_step ?_
   simp only [b_lss,bnd_some,hkl',decide_true,ifB_lit,if_true,hix,lz,decide_eq_true_eq]
   by_cases h0:i<0
   ·rw [if_pos h0]
    exact J1 H1 bs _ _ _ _ _ _ _ _ _ _ (by rw [eF]; unfold runI; rw [if_pos h0]; exact hI) hP1 hlo
   rw [if_neg h0]
   simp only [ldl hI,bnd_some,len_rls,b_geq,ifB_lit,decide_eq_true_eq]
   by_cases h1:(l.length:Int)≤i
   ·rw [if_pos h1]
    exact J1 H1 bs _ _ _ _ _ _ _ _ _ _ (by rw [eF]; unfold runI; rw [if_neg h0,List.getElem?_eq_none (by omega)]; exact hI) hP1 hlo
   rw [if_neg h1]
   obtain ⟨m0,hm0⟩:∃ m:Nat,i=m:=⟨i.toNat,by omega⟩
   obtain ⟨r,hr⟩:=get_lt (show m0<l.length by omega)
   have hrm:=List.mem_of_getElem? hr
   have hrl:ixaSl 2 (rls l) (I i)=some (.ip (encRL r)):=by rw [hm0]; exact ix_map hr
   have lr0:∀ H:Hp,ldA false 1 H (.ip ((encRL r).drop 0))=some (sls r.sels):=fun _=>rfl
   have lr1:∀ H:Hp,ldA false 1 H (.ip ((encRL r).drop 1))=some (.imm 4 (r.sets.map encST)):=fun _=>rfl
   have eF2:F (k+1)=ruleF L e ask (F k) r:=by rw [eF]; unfold runI; rw [if_neg h0,hm0,Int.toNat_natCast,hr]
   obtain ⟨hws,hsets⟩:=hl r hrm
   have hwl:=hws.len
   simp only [hrl,bnd_some,sh_ip,lr0,len_sls]
   have L2:∀ (g m:Nat) (H1:Hp) (bs:List Cn) (y9 y12 y13 y59 y60 y61:AV),r.sels.length - m=g→m≤r.sels.length→RS n (domT L d) (I e) (rls l) (intz idx) a js bs (F k) H1→P H1→lw H1→Gs 1 H1 y9 (((r.sels.take m).filter ask).map encSl)→(∀ j,own y9 j→n+10≤j) →
     cascade_candidates_1.L2 σ K (.yl (n+9)) (.ptr (n+2) 0) (.ptr (n+4) 0) (.ptr n 0) (.ptr (n+1) 0) (I i) y9 y12 y13 (intz idx) (I idx.length) (I (k:Int)) (sls r.sels) (I r.sels.length) (I (m:Int)) y59 y60 y61 H1:=by
    intro g
    induction g with
    | zero =>
     intro m H1 bs y9 y12 y13 y59 y60 y61 hg hm hI hP1 hlo hgs how
     have:m=r.sels.length:=by omega
     subst this
     rw [List.take_length] at hgs
     refine cascade_candidates_1.L2_step ?_
     simp only [b_lss,bnd_some,Int.lt_irrefl,decide_false,ifB_lit,Bool.false_eq_true,if_false,ldt hI,lde hI]
     have hwf:=hws.filter ask
     have hbd:=bestW_bd (L:=L) (e:=e) hwf (0,false) (by omega)
     refine callK_of ((Best_ok M hwf e Hp.empty).frzA (.cons (.refl (noId_domT _ _)) (.cons (.refl rfl) (.cons (hgs.fz (noIds_map _ noId_Sl _)) .nil))) rfl) ?_
     have ex:∀ x y:AV,exR (.tup [x,y]) 0=some x∧exR (.tup [x,y]) 1=some y:=fun _ _=>⟨rfl,rfl⟩
     simp only [(ex _ _).1,(ex _ _).2,bnd_some,ldl hI,hrl,sh_ip,lr1,len_imm,List.length_map]
     generalize hb:bestW L e (r.sels.filter ask) (0,false)=bw at hbd
     have L4:∀ (u z:Nat) (H1:Hp) (bs:List Cn),r.sets.length - z=u→z≤r.sets.length→RS n (domT L d) (I e) (rls l) (intz idx) a js bs (if bw.2 then (r.sets.take z).foldl (setW bw.1) (F k) else F k) H1→P H1→lw H1 →
       cascade_candidates_1.L4 σ K (.yl (n+9)) (.ptr (n+2) 0) (.ptr (n+4) 0) (.ptr n 0) (.ptr (n+1) 0) (I i) y9 (I bw.1) (Bo bw.2) (intz idx) (I idx.length) (I (k:Int)) (sls r.sels) (I r.sels.length) (I (r.sels.length:Int)) (.imm 4 (r.sets.map encST)) (I r.sets.length) (I (z:Int)) H1:=by
      intro u
      induction u with
      | zero =>
       intro z H1 bs hu hz hI hP1 hlo
       have:z=r.sets.length:=by omega
       subst this
       rw [List.take_length] at hI
       refine cascade_candidates_1.L4_step ?_
       simp only [b_lss,bnd_some,Int.lt_irrefl,decide_false,ifB_lit,Bool.false_eq_true,if_false]
       refine J1 H1 bs _ _ _ _ _ _ _ _ _ _ ?_ hP1 hlo
       rw [eF2]
       unfold ruleF
       rw [hb]
       exact hI
      | succ u ihu =>
       intro z H1 bs hu hz hI hP1 hlo
       have hzl:z<r.sets.length:=by omega
       have hzl':(z:Int)<r.sets.length:=by omega
       obtain ⟨q,hq⟩:=get_lt hzl
       have hiq:ixaSl 4 (.imm 4 (r.sets.map encST)) (I (z:Int))=some (.ip (encST q)):=ix_map hq
       have lq:∀ H:Hp,ldA true 4 H (.ip (encST q))=some (.agg (encST q)):=fun _=>rfl
       refine cascade_candidates_1.L4_step ?_
       simp only [b_lss,bnd_some,hzl',decide_true,ifB_lit,if_true,hiq,lq,allocK_eq]
       obtain ⟨H3,hH3⟩:∃ H3,H3=(H1.new (.cells [I 0,I 0,I 0,.lit (.bool false)] true)).set H1.n (some (.cells (encST q) true)):=⟨_,rfl⟩
       have st:stA 4 (H1.new (.cells [I 0,I 0,I 0,.lit (.bool false)] true)) (.ptr H1.n 0) (.agg (encST q))=some H3:=by
        rw [st_agg,hH3]; simp [encST]; rfl
       have n3:H3.n=H1.n+1:=by rw [hH3]; rfl
       have g3:∀ j,j<H1.n→H3.get j=H1.get j:=by
        intro j hj
        have:j≠H1.n:=by omega
        rw [hH3]; simp [this]
       have gb3:H3.get H1.n=some (.cells (encST q) true):=by rw [hH3]; simp
       clear hH3
       have hup:=hI.up
       have hI3:RS n (domT L d) (I e) (rls l) (intz idx) a js bs (if bw.2 then (r.sets.take z).foldl (setW bw.1) (F k) else F k) H3:=hI.keep (fun j h1 h2=>g3 j (by omega)) (by omega)
       have hP3:P H3:=Pst H1 H3 hP1 (by omega) fun j hj=>g3 j (by omega)
       have hlo3:lw H3:=(hlw H3).2 fun j hj=>by rw [g3 j (by omega)]; exact (hlw H1).1 hlo j hj
       simp only [st,bnd_some]
       have nxt:∀ (H4:Hp) (bs':List Cn),RS n (domT L d) (I e) (rls l) (intz idx) a js bs' (if bw.2 then (r.sets.take (z+1)).foldl (setW bw.1) (F k) else F k) H4→P H4→lw H4 →
         bnd (binR .add (I (z:Int)) (I 1)) fun x13=>cascade_candidates_1.L4 σ K (.yl (n+9)) (.ptr (n+2) 0) (.ptr (n+4) 0) (.ptr n 0) (.ptr (n+1) 0) (I i) y9 (I bw.1) (Bo bw.2) (intz idx) (I idx.length) (I (k:Int)) (sls r.sels) (I r.sels.length) (I (r.sels.length:Int)) (.imm 4 (r.sets.map encST)) (I r.sets.length) x13 H4:=by
        intro H4 bs' h1 h2 h3
        simp only [b_add,bnd_some,wr_succ (show z<9000000000000000000 by omega)]
        exact ihu (z+1) H4 bs' (by omega) (by omega) h1 h2 h3
       cases hbw:bw.2 with
       | false =>
        rw [hbw] at hI3 nxt
        simp only [Bool.false_eq_true,if_false] at hI3 nxt ⊢
        exact nxt H3 bs hI3 hP3 hlo3
       | true =>
        rw [hbw] at hI3 nxt
        simp only [if_true] at hI3 nxt ⊢
        have lb:ldA true 4 H3 (.ptr H1.n 0)=some (.agg (encST q)):=by rw [ld_ptr,gb3]; rfl
        have hbl:bldR [I 0,I 0,I 0,.lit (.bool false),I 0] [(0,4,.agg (encST q)),(4,1,I bw.1)]=some [I q.prop,I q.kind,I q.n,Bo q.imp,I bw.1]:=rfl
        simp only [lb,bnd_some,hbl]
        refine yield_ok hI3 hbd fun H4 bs' h4 u4 k4=>?_
        simp only [u_not,bnd_some,ifB_lit,Bool.not_true,Bool.false_eq_true,if_false]
        refine nxt H4 bs' ?_ (Pst H3 H4 hP3 u4 fun j hj=>k4 j (by omega) (.inl hj)) ((hlw H4).2 fun j hj=>by rw [k4 j (by omega) (.inl hj)]; exact (hlw H3).1 hlo3 j hj)
        rw [List.take_add_one,hq]
        simpa using h4
     exact L4 _ 0 H1 bs rfl (Nat.zero_le _) (by simpa using hI) hP1 hlo
    | succ g ihg =>
     intro m H1 bs y9 y12 y13 y59 y60 y61 hg hm hI hP1 hlo hgs how
     have hml:m<r.sels.length:=by omega
     have hml':(m:Int)<r.sels.length:=by omega
     obtain ⟨q,hq⟩:=get_lt hml
     have hqm:=List.mem_of_getElem? hq
     have hiq:ixaSl 1 (sls r.sels) (I (m:Int))=some (.ip (encSl q)):=ix_map hq
     refine cascade_candidates_1.L2_step ?_
     simp only [b_lss,bnd_some,hml',decide_true,ifB_lit,if_true,hiq,ld_ip,ldL_sl,allocK_eq]
     obtain ⟨H3,hH3⟩:∃ H3,H3=(H1.new (.cells [.lit (.slice none 0 0)] true)).set H1.n (some (.cells (encSl q) true)):=⟨_,rfl⟩
     have st:stA 1 (H1.new (.cells [.lit (.slice none 0 0)] true)) (.ptr H1.n 0) (.agg (encSl q))=some H3:=by
      rw [st_agg,hH3]; simp [encSl]
     have n3:H3.n=H1.n+1:=by rw [hH3]; rfl
     have g3:∀ j,j<H1.n→H3.get j=H1.get j:=by
      intro j hj
      have:j≠H1.n:=by omega
      rw [hH3]; simp [this]
     have gb3:H3.get H1.n=some (.cells (encSl q) true):=by rw [hH3]; simp
     clear hH3
     have hup:=hI.up
     have hI3:RS n (domT L d) (I e) (rls l) (intz idx) a js bs (F k) H3:=hI.keep (fun j h1 h2=>g3 j (by omega)) (by omega)
     have hP3:P H3:=Pst H1 H3 hP1 (by omega) fun j hj=>g3 j (by omega)
     have hlo3:lw H3:=(hlw H3).2 fun j hj=>by rw [g3 j (by omega)]; exact (hlw H1).1 hlo j hj
     have hgs3:Gs 1 H3 y9 (((r.sels.take m).filter ask).map encSl):=hgs.keep (fun j hj=>g3 j (hgs.lt hj)) (by omega)
     have lb:∀ H4:Hp,H4.get H1.n=some (.cells (encSl q) true)→ldA true 1 H4 (.ptr H1.n 0)=some (.agg (encSl q)):=fun H4 h=>by rw [ld_ptr,h]; rfl
     simp only [st,bnd_some,lda hI3,lb H3 gb3]
     refine hask r hrm q hqm H3 _ hP3 (by omega) fun H5 u5 k5=>?_
     have hI5:=hI3.keep (H':=H5) (fun j h1 h2=>k5 j (by omega)) u5
     have hP5:P H5:=Pst H3 H5 hP3 u5 fun j hj=>k5 j (by omega)
     have hlo5:lw H5:=(hlw H5).2 fun j hj=>by rw [k5 j (by omega)]; exact (hlw H3).1 hlo3 j hj
     have hgs5:Gs 1 H5 y9 (((r.sels.take m).filter ask).map encSl):=hgs3.keep (fun j hj=>k5 j (hgs3.lt hj)) u5
     have gb5:H5.get H1.n=some (.cells (encSl q) true):=by rw [k5 _ (by omega)]; exact gb3
     have J3:∀ (H6:Hp) (y9:AV),RS n (domT L d) (I e) (rls l) (intz idx) a js bs (F k) H6→P H6→lw H6→Gs 1 H6 y9 (((r.sels.take (m+1)).filter ask).map encSl)→(∀ j,own y9 j→n+10≤j) →
       cascade_candidates_1.J3 σ K (.yl (n+9)) (.ptr (n+2) 0) (.ptr (n+4) 0) (.ptr n 0) (.ptr (n+1) 0) (I i) y9 y12 y13 (intz idx) (I idx.length) (I (k:Int)) (sls r.sels) (I r.sels.length) (I (m:Int)) y59 y60 y61 H6:=by
      intro H6 y9 h1 h2 h3 h4 h5
      refine cascade_candidates_1.J3_step ?_
      simp only [b_add,bnd_some,wr_succ (show m<9000000000000000000 by omega)]
      exact ihg (m+1) H6 bs y9 _ _ _ _ _ (by omega) (by omega) h1 h2 h3 h4 h5
     have htk:(r.sels.take (m+1)).filter ask=(r.sels.take m).filter ask++(if ask q then [q] else []):=by
      rw [List.take_add_one,hq,List.filter_append]
      congr 1
      cases ha:ask q<;>simp [ha]
     cases ha:ask q with
     | false =>
      simp only [ifB_lit,Bool.false_eq_true,if_false]
      refine J3 H5 y9 hI5 hP5 hlo5 ?_ how
      rw [htk,ha]
      simpa using hgs5
     | true =>
      simp only [ifB_lit,if_true,lb H5 gb5,bnd_some]
      have hfl:((r.sels.take m).filter ask).length≤2000000:=Nat.le_trans (List.length_filter_le _ _) (by rw [List.length_take]; omega)
      refine bnd_app1 (y:=.agg (encSl q)) hgs5 rfl rfl rfl (by rw [List.length_map]; omega) (by rw [List.length_map]; omega) fun x' H' g' fr=>?_
      have hup5:=fr.grow
      have e9:∀ j,j<n+10→H'.get j=H5.get j:=fun j hj=>fr.same j (by omega) fun ho=>by have:=how j ho; omega
      refine J3 H' x' (hI5.keep (fun j h1 h2=>e9 j h2) hup5) (Pst H5 H' hP5 hup5 fun j hj=>e9 j (by omega)) ((hlw H').2 fun j hj=>by rw [e9 j (by omega)]; exact (hlw H5).1 hlo5 j hj) ?_ fun j hj=>?_
      ·rw [htk,ha,if_pos rfl,List.map_append]
       exact g'
      ·rcases fr.mine j hj with h | h
       ·exact how j h
       ·omega
   exact L2 _ 0 H1 bs _ _ _ _ _ _ rfl (Nat.zero_le _) hI hP1 hlo (by simpa using Gs.nil) (fun j hj=>hj.elim)
 exact L0 _ 0 H bs _ _ _ _ _ _ _ _ _ _ rfl (Nat.zero_le _) (by rw [hF]; simpa using h) hP ((hlw H).2 fun _ _=>rfl)
end
end Go.Proofs.YthdcghnjndhecaaGreat.Ev
namespace Go.Proofs.YthdcghnjndhecaaGreat.Ev
set_option linter.unusedVariables false
set_option linter.unusedSimpArgs false
variable {σ:Sig}
theorem callK_gs {P:Program} {f sz:Nat} {xs ys:List AV} {H:Hp} {K:AV→Hp→Prop} {x:AV} {rows:List (List AV)} (g:Gs sz H x rows) (hn:noIdss rows=true) (hT:∀ Hd,Fz Hd x (.imm sz rows)→FzT Hd ys xs)
  (h:∀ H2,H2.n=H.n→(∀ j,¬ own x j→H2.get j=H.get j)→(∀ j,H.get j=none→H2.get j=none)→callK P σ f xs H2 K):callK P σ f ys H K:=by
 cases g with
 | nil =>
  obtain ⟨r,H1,hg,hk⟩:=h H rfl (fun _ _=>rfl) fun _ h=>h
  exact ⟨r,H1,Good.conv (Wk.frz (H2:=H) (Hd:=Hp.bare H.n) rfl rfl (fun id k hk=>by simp at hk) (fun id k2 hk=>⟨k2,hk,.refl _ _⟩) (hT _ .nil)) hg,hk⟩
 | sl hlt hg hsz =>
  rename_i id ex
  obtain ⟨r,H1,hgood,hk⟩:=h (H.set id none) (by simp) (fun j hj=>by
   have:j≠id:=fun e=>hj e.symm
   simp [this]) (fun j hj=>by
   rw [hp_get_set]
   split
   ·rfl
   ·exact hj)
  have hd0:∀ j,((Hp.bare H.n).set id (some (.cells rows.flatten ex))).get j=if j=id then some (.cells rows.flatten ex) else none:=fun j=>by
   rw [hp_get_set]
   split
   ·rfl
   ·simp
  refine ⟨r,H1,Good.conv (Wk.frz (Hd:=(Hp.bare H.n).set id (some (.cells rows.flatten ex))) (by simp) (by simp) (fun j k hk=>?_) (fun j k2 hk=>?_) (hT _ ?_)) hgood,hk⟩
  ·rw [hd0] at hk
   split at hk
   ·rename_i e
    subst e
    exact ⟨by rw [hg]; exact hk,by simp⟩
   ·cases hk
  ·rw [hp_get_set] at hk
   split at hk
   ·cases hk
   ·exact ⟨k2,hk,.refl _ _⟩
  ·exact .rows (cs:=rows.flatten) (ex:=ex) (by rw [hd0,if_pos rfl]) hsz (by rw [List.drop_zero]; exact List.take_of_length_le (by rw [flatten_len hsz]; exact Nat.le_refl _)) hn
theorem wn0_ok:wn0.Ok:=⟨by simp [wn0],by simp [wn0],by simp [wn0]⟩
theorem cwinners_sp {L:List Nd} {d:List Nat} (M:McT σ L d) {l:List RL} (hl:∀ r ∈ l,WsOk r.sels∧r.sets.length≤30) {e:Int} {ask:Sl→Bool} {a:AV} {idx:List Int} {H:Hp} (ha1:a.cells=[a]) (ha2:a.isAny=false)
  (P:Hp→Prop) (hP:P H) (Pst:∀ H' H'',P H'→H'.n≤H''.n→(∀ j,j<H.n→H''.get j=H'.get j)→P H'')
  (hask:∀ r ∈ l,∀ q ∈ r.sels,∀ (H':Hp) (K:AV→Hp→Prop),P H'→H.n+10≤H'.n→(∀ H'',H'.n≤H''.n→(∀ j,j<H'.n→H''.get j=H'.get j)→K (Bo (ask q)) H'')→callV Tryz.prog σ a [.agg (encSl q)] H' K) (hidx:idx.length≤1000000)
  {K:AV→Hp→Prop} (hK:∀ H',H.n≤H'.n→(∀ j,j<H.n→H'.get j=H.get j)→K (.agg ((idx.foldl (runI L e ask l) wn0).o.map I)) H') :
  callK Tryz.prog σ n_cascade_candidates [domT L d,I e,rls l,intz idx,a] H fun x5 H6=>callK Tryz.prog σ n_cascade_winners [x5] H6 K:=by
 refine cascade_candidates.run ?_
 have b1:(domT L d).cells=[domT L d]∧(domT L d).isAny=false:=⟨rfl,rfl⟩
 have b2:(rls l).cells=[rls l]∧(rls l).isAny=false:=⟨rfl,rfl⟩
 have b3:(intz idx).cells=[intz idx]∧(intz idx).isAny=false:=⟨rfl,rfl⟩
 have bx:∀ (x:AV) (H:Hp) (K:AV→Hp→Prop),x.cells=[x]→x.isAny=false→boxK x H K=K (.ptr H.n 0) (H.new (.cells [x] true)):=by
  intro x H K h1 h2
  unfold boxK
  rw [h2,h1]; rfl
 rw [bx _ _ _ b1.1 b1.2,bx _ _ _ rfl rfl,bx _ _ _ b2.1 b2.2,bx _ _ _ b3.1 b3.2,bx _ _ _ ha1 ha2]
 refine cascade_winners.run ?_
 simp only [allocK_eq,rangeK_fn]
 intro js
 obtain ⟨n,hn⟩:∃ n,n=H.n:=⟨_,rfl⟩
 simp only [Hp.n_new,← hn]
 obtain ⟨H8,hH8⟩:∃ H8,H8=((((((((H.new (.cells [domT L d] true)).new (.cells [I e] true)).new (.cells [rls l] true)).new (.cells [intz idx] true)).new (.cells [a] true)).new (.cells (List.replicate 16 (I 0)) true)).new (.cells (List.replicate 16 (I 0)) true)).new (.cells [I 0,I 0,I 0,.lit (.bool false),I 0,I 0,I 0,I 0,.lit (.bool false),I 0,I 0,I 0,I 0,.lit (.bool false),I 0,I 0,I 0,I 0,.lit (.bool false),I 0,I 0,I 0,I 0,.lit (.bool false),I 0,I 0,I 0,I 0,.lit (.bool false),I 0,I 0,I 0,I 0,.lit (.bool false),I 0,I 0,I 0,I 0,.lit (.bool false),I 0] true)).new (.cells [.lit (.bool false),.lit (.bool false),.lit (.bool false),.lit (.bool false),.lit (.bool false),.lit (.bool false),.lit (.bool false),.lit (.bool false)] true):=⟨_,rfl⟩
 have n8:H8.n=n+9:=by rw [hH8,hn]; rfl
 have g8:∀ j,H8.get j=if j=n+8 then some (.cells (List.replicate 8 (Bo false)) true) else if j=n+7 then some (.cells ((List.replicate 8 cn0).map encCn).flatten true) else if j=n+6 then some (.cells (List.replicate 16 (I 0)) true) else if j=n+5 then some (.cells (List.replicate 16 (I 0)) true) else if j=n+4 then some (.cells [a] true) else if j=n+3 then some (.cells [intz idx] true) else if j=n+2 then some (.cells [rls l] true) else if j=n+1 then some (.cells [I e] true) else if j=n then some (.cells [domT L d] true) else H.get j:=by
  intro j
  rw [hH8]
  simp only [hp_get_new,Hp.n_new,← hn]
  rfl
 rw [show n+1+1=n+2 from rfl,show n+2+1=n+3 from rfl,show n+3+1=n+4 from rfl,show n+4+1=n+5 from rfl,show n+5+1=n+6 from rfl,show n+6+1=n+7 from rfl,show n+7+1=n+8 from rfl,show n+8+1=n+9 from rfl]
 rw [← hH8]
 clear hH8
 have lo8:∀ j,j<n→H8.get j=H.get j:=fun j hj=>by
  rw [g8,if_neg (by omega),if_neg (by omega),if_neg (by omega),if_neg (by omega),if_neg (by omega),if_neg (by omega),if_neg (by omega),if_neg (by omega),if_neg (by omega)]
 obtain ⟨H9,hH9⟩:∃ H9,H9=H8.new (.loop (cascade_winners.R0 js (.ptr (n+6) 0) (.ptr (n+7) 0) (.ptr (n+8) 0)) .ready none):=⟨_,rfl⟩
 have n9:H9.n=n+10:=by rw [hH9,Hp.n_new,n8]
 have g9:∀ j,j<n+9→H9.get j=H8.get j:=fun j hj=>by rw [hH9,hp_get_new,if_neg (by omega)]
 have gl9:H9.get (n+9)=some (.loop (cascade_winners.R0 js (.ptr (n+6) 0) (.ptr (n+7) 0) (.ptr (n+8) 0)) .ready none):=by rw [hH9,hp_get_new,if_pos n8.symm]
 rw [← hH9]
 clear hH9
 have hI:RS n (domT L d) (I e) (rls l) (intz idx) a js (List.replicate 8 cn0) wn0 H9:=by
  refine ⟨?_,?_,?_,?_,?_,?_,?_,?_,?_,gl9,by omega,wn0_ok,by simp,fun p hp ht=>?_⟩
  ·rw [g9 _ (by omega),g8]; simp
  ·rw [g9 _ (by omega),g8]; simp
  ·rw [g9 _ (by omega),g8]; simp
  ·rw [g9 _ (by omega),g8]; simp
  ·rw [g9 _ (by omega),g8]; simp
  ·rw [g9 _ (by omega),g8,if_neg (by omega),if_neg (by omega),if_neg (by omega),if_pos rfl]
  ·rw [g9 _ (by omega),g8,if_neg (by omega),if_neg (by omega),if_pos rfl]; rfl
  ·rw [g9 _ (by omega),g8,if_neg (by omega),if_pos rfl]
  ·rw [g9 _ (by omega),g8,if_pos rfl]; rfl
  ·exfalso
   have:wn0.t.getD p false=false:=by
    simp only [wn0,List.getD_eq_getElem?_getD,List.getElem?_replicate]
    rw [if_pos hp]; rfl
   rw [this] at ht; cases ht
 have hP9:P H9:=Pst H H9 hP (by omega) fun j hj=>by rw [g9 _ (by omega),lo8 j (by omega)]
 refine cand_ok M hl hI P hP9 (fun H' H'' h1 h2 h3=>Pst H' H'' h1 h2 fun j hj=>h3 j (by omega)) (fun r hr q hq H' K h1 h2 h3=>hask r hr q hq H' K h1 (by omega) h3) hidx fun H' bs' h' lo'=>?_
 rw [h'.lp,endK_ready]
 have gx:∀ j,j≠n+9→(H'.set (n+9) none).get j=H'.get j:=fun j hj=>by rw [hp_get_set,if_neg hj]
 obtain ⟨s',hs'⟩:∃ s',s'=idx.foldl (runI L e ask l) wn0:=⟨_,rfl⟩
 rw [← hs'] at h' hK
 have hol:(s'.o.map I).length=16:=by rw [List.length_map]; exact h'.ok.o
 have l1:ldA true 16 (H'.set (n+9) none) (.ptr (n+6) 0)=some (.agg (s'.o.map I)):=by
  rw [ld_ptr,gx _ (by omega),h'.go,ldO_cells,List.drop_zero,ldL_all hol]
 have s1:stA 16 (H'.set (n+9) none) (.ptr (n+5) 0) (.agg (s'.o.map I))=some ((H'.set (n+9) none).set (n+5) (some (.cells (s'.o.map I) true))):=by
  rw [st_agg,gx _ (by omega),h'.gr,if_pos hol,stO_cells,if_pos ⟨by rw [hol]; simp,by rw [List.all_eq_true]; intro x hx; obtain ⟨v,_,rfl⟩:=List.mem_map.1 hx; rfl⟩,overlay_all (by rw [hol]; simp)]
 have l2:ldA true 16 ((H'.set (n+9) none).set (n+5) (some (.cells (s'.o.map I) true))) (.ptr (n+5) 0)=some (.agg (s'.o.map I)):=by
  rw [ld_ptr,hp_get_set,if_pos rfl,ldO_cells,List.drop_zero,ldL_all hol]
 simp only [l1,bnd_some,s1,l2]
 refine hK _ (by have:=h'.up; simp; omega) fun j hj=>?_
 rw [hp_get_set,if_neg (by omega),gx _ (by omega),lo' j (by omega),g9 _ (by omega),lo8 j (by omega)]
def natsI (k:Nat):List Int:=(List.range k).map fun (i:Nat)=>(i:Int)
theorem natsI_len (k:Nat):(natsI k).length=k:=by simp [natsI]
theorem natsI_succ (k:Nat):natsI (k+1)=natsI k++[(k:Int)]:=by simp [natsI,List.range_succ]
theorem fold_range {L:List Nd} {e:Int} {l:List RL}:∀ (k:Nat),k≤l.length→((natsI k).foldl (runI L e (fun _=>true) l) wn0)=(l.take k).foldl (ruleW L e) wn0:=by
 intro k
 induction k with
 | zero=>intro _; rfl
 | succ k ih =>
  intro hk
  have hkl:k<l.length:=by omega
  obtain ⟨r,hr⟩:=get_lt hkl
  rw [natsI_succ,List.foldl_append,ih (by omega),List.take_add_one,hr,List.foldl_append]
  show runI L e (fun _=>true) l _ (k:Int)=ruleW L e _ r
  unfold runI
  rw [if_neg (by omega),Int.toNat_natCast,hr]
  generalize List.foldl (ruleW L e) wn0 (List.take k l)=s
  show ruleF L e (fun _=>true) s r=ruleW L e s r
  have ef:r.sels.filter (fun _=>true)=r.sels:=List.filter_eq_self.2 fun _ _=>rfl
  unfold ruleF ruleW
  rw [ef]
section
attribute [local irreducible] cascade_Winners.L0
theorem CWinners_ok {L:List Nd} {d:List Nat} (M:McT σ L d) {l:List RL} (hl:∀ r ∈ l,WsOk r.sels∧r.sets.length≤30) (hlen:l.length≤60) (e:Int) (H:Hp) :
  Good Tryz.prog σ n_cascade_Winners [domT L d,I e,rls l] H (.agg ((winW L e l).o.map I)) H:=by
 have hno:noId (.agg ((winW L e l).o.map I))=true:=by
  simp only [noId]
  generalize (winW L e l).o=o
  induction o with
  | nil=>rfl
  | cons a r ih=>simp only [List.map_cons,noIds,noId,Bool.true_and]; exact ih
 refine good_byI (fun K hK=>cascade_Winners.run ?_) (by simp [noIds,noId,noId_domT]) hno H
 simp only [allocK_eq,len_rls,bnd_some]
 have e0:Hp.empty.n=0:=rfl
 rw [e0]
 have L0:∀ (f k:Nat) (H1:Hp) (y7:AV),l.length - k=f→k≤l.length→H1.get 0=some (.cells (List.replicate 16 (I 0)) true)→1≤H1.n→Gs 1 H1 y7 ((natsI k).map encZ1)→(∀ j,own y7 j→1≤j) →
   cascade_Winners.L0 σ K (domT L d) (I e) (rls l) (.ptr 0 0) y7 (I l.length) (I (k:Int)) H1:=by
  intro f
  induction f with
  | zero =>
   intro k H1 y7 hf hk h0 hn hgs how
   have:k=l.length:=by omega
   subst this
   refine cascade_Winners.L0_step ?_
   simp only [b_lss,bnd_some,Int.lt_irrefl,decide_false,ifB_lit,Bool.false_eq_true,if_false]
   refine callK_gs (xs:=[domT L d,I e,rls l,intz (natsI l.length),.fn n_cascade_Winners_1 []]) hgs (noIds_map _ (fun _=>rfl) _) (fun Hd hz=>.same (.same (.same (.fz hz (.same .nil))))) fun H2 n2 g2 k2=>?_
   refine cwinners_sp M hl (ask:=fun _=>true) rfl rfl (fun _=>True) trivial (fun _ _ _ _ _=>trivial) (fun r hr q hq H' K _ _ hk=>?_) (by rw [natsI_len]; omega) fun H3 _ lo3=>?_
   ·rw [callV_fn',List.append_nil]
    refine cascade_Winners_1.run ?_
    simp only [boxK_agg]
    refine hk _ (by simp) fun j hj=>?_
    have:j≠H'.n:=by omega
    simp [this]
   ·rw [fold_range _ (Nat.le_refl _),List.take_length]
    have h20:H2.get 0=some (.cells (List.replicate 16 (I 0)) true):=by rw [g2 0 fun ho=>by have:=how 0 ho; omega]; exact h0
    have h30:H3.get 0=some (.cells (List.replicate 16 (I 0)) true):=by rw [lo3 0 (by omega)]; exact h20
    have hwo:(winW L e l).o.length=16:=by
     have:∀ (l:List RL) (s:Wn),s.Ok→(l.foldl (ruleW L e) s).Ok:=by
      intro l
      induction l with
      | nil=>intro s h; exact h
      | cons r l ih =>
       intro s h
       refine ih _ ?_
       unfold ruleW
       split
       ·generalize (bestW L e r.sels (0,false)).1=w
        generalize r.sets=qs
        revert h
        revert s
        induction qs with
        | nil=>intro s h; exact h
        | cons q qs ihq=>intro s h; exact ihq _ (setW_ok h)
       ·exact h
     exact (this l wn0 wn0_ok).o
    have hol:(List.map I (winW L e l).o).length=16:=by rw [List.length_map]; exact hwo
    have s1:stA 16 H3 (.ptr 0 0) (.agg (List.map I (winW L e l).o))=some (H3.set 0 (some (.cells (List.map I (winW L e l).o) true))):=by
     rw [st_agg,h30,if_pos hol,stO_cells,if_pos ⟨by rw [hol]; simp,by rw [List.all_eq_true]; intro x hx; obtain ⟨v,_,rfl⟩:=List.mem_map.1 hx; rfl⟩,overlay_all (by rw [hol]; simp)]
    have l2:ldA true 16 (H3.set 0 (some (.cells (List.map I (winW L e l).o) true))) (.ptr 0 0)=some (.agg (List.map I (winW L e l).o)):=by
     rw [ld_ptr,hp_get_set,if_pos rfl,ldO_cells,List.drop_zero,ldL_all hol]
    show bnd (stA 16 H3 (.ptr 0 0) (.agg (List.map I (winW L e l).o))) _
    simp only [s1,bnd_some,l2]
    exact hK _
  | succ f ih =>
   intro k H1 y7 hf hk h0 hn hgs how
   have hkl':(k:Int)<l.length:=by omega
   refine cascade_Winners.L0_step ?_
   simp only [b_lss,bnd_some,hkl',decide_true,ifB_lit,if_true]
   refine bnd_app1 (y:=I (k:Int)) hgs rfl rfl rfl (by rw [List.length_map,natsI_len]; omega) (by rw [List.length_map,natsI_len]; omega) fun x' H' g' fr=>?_
   simp only [b_add,bnd_some,wr_succ (show k<9000000000000000000 by omega)]
   have hup:=fr.grow
   refine ih (k+1) H' x' (by omega) (by omega) (by rw [fr.same 0 (by omega) fun ho=>by have:=how 0 ho; omega]; exact h0) (by omega) ?_ fun j hj=>?_
   ·rw [natsI_succ,List.map_append]
    exact g'
   ·rcases fr.mine j hj with h | h
    ·exact how j h
    ·omega
 refine L0 _ 0 _ _ rfl (Nat.zero_le _) (by simp [Hp.empty]) (by simp) (by simpa [natsI] using Gs.nil) fun j hj=>hj.elim
end
end Go.Proofs.YthdcghnjndhecaaGreat.Ev
