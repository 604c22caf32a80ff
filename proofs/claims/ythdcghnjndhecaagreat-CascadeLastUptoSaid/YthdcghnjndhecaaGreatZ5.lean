/- The walks, part 5: the evaluator, the functions, the laws. Conditions: none. -/
import Derived.Test.YthdcghnjndhecaaGreatZ4
namespace Go.Proofs.YthdcghnjndhecaaGreat.Ev
set_option linter.unusedVariables false
set_option linter.unusedSimpArgs false
variable {σ:Sig}
theorem bnd_app1k {z:List Value} {sz bytes:Nat} {H:Hp} {x y:AV} {rows:List (List AV)} {C:AV × Hp→Prop} (hC:C (.sl H.n 0 sz 1 (some 1),H.new (.cells y.cells true))) (hx:Gs sz H x rows) (hl:y.cells.length=sz) (ha:y.isAny=false) (hone:y.cells.all AV.one=true)
  (hb:(rows.length+1)*bytes≤140737488355328) (hn:rows.length+1≤4611686018427387904) {K:AV × Hp→Prop} (h:∀ x' H',Gs sz H' x' (rows++[y.cells])→Fr H x H' x'→K (x',H')) :
  bnd (bldSlR z sz 1 H [(0,sz,y)]) fun p=>C p∧bnd (appR false sz bytes p.2 x p.1) K:=by
 have:=bnd_app1 (z:=z) hx hl ha hone hb hn h
 rw [bld_one hl ha,bnd_some] at this ⊢
 exact ⟨hC,this⟩
structure TreeH (L:List Nd) (d:List Nat) (H:Hp) (t m:Nat) (sl:AV) (ch:List AV):Prop where
 tlt:t<H.n
 tg:H.get t=some (.cells [sl] true)
 len:ch.length=m
 rows:Gs 9 H sl (rowsE L d ch lowN)
 kid:∀ (i:Nat) (c:AV),ch[i]?=some c→Gs 1 H c ((kids L m i).map fun j:Nat=>[I j])
 nt:¬ own sl t
 nk:∀ (i:Nat) (c:AV),ch[i]?=some c→¬ own c t
 ns:∀ (i:Nat) (c:AV),ch[i]?=some c→∀ j,own c j→¬ own sl j
 nd:∀ (i i':Nat) (c c':AV),i≠i'→ch[i]?=some c→ch[i']?=some c'→∀ j,own c j→¬ own c' j
theorem J1_sp {L:List Nd} {d:List Nat} {N:Nat} (hB:Built L N d) {m:Nat} (hm:m<N) (hN:N≤4096) {H:Hp} {t x7:Nat} {sl:AV} {ch:List AV} {y6 y7:AV}
  (tlt:t<H.n) (tg:H.get t=some (.cells [sl] true)) (len:ch.length=m) (rows:Gs 9 H sl (rowsE L d ch lowN)) (kid:∀ (i:Nat) (c:AV),ch[i]?=some c→Gs 1 H c ((kids L (m+1) i).map fun j:Nat=>[I j]))
  (nt:¬ own sl t) (nk:∀ (i:Nat) (c:AV),ch[i]?=some c→¬ own c t) (ns:∀ (i:Nat) (c:AV),ch[i]?=some c→∀ j,own c j→¬ own sl j)
  (nd:∀ (i i':Nat) (c c':AV),i≠i'→ch[i]?=some c→ch[i']?=some c'→∀ j,own c j→¬ own c' j)
  (hx7:H.get x7=some (.cells (rowE L d m (.lit (.slice none 0 0)) lowN) true)) {K:AV→Hp→Prop} (h:∀ H' sl' ch',TreeH L d H' t (m+1) sl' ch'→K (I 0) H'):dom_Tree_put.J1 σ K (.ptr t 0) (.ptr x7 0) y6 y7 H:=by
 refine dom_Tree_put.J1_step ?_
 simp [tg,hx7]
 simp only [ldL_all (len_rowE L d m (.lit (.slice none 0 0)) lowN),bnd_some]
 have ht':t≠H.n:=by omega
 refine bnd_app1k (y:=.agg (rowE L d m (.lit (.slice none 0 0)) lowN)) (bytes:=136) (by simp [ht',tg]) rows rfl rfl (by simp [rowE,encNd]) (by rw [rowsE_len]; omega) (by rw [rowsE_len]; omega) fun sl' H' g f=>?_
 have e1:H'.get t=some (.cells [sl] true):=by rw [f.same t tlt nt]; exact tg
 have sown:∀ j,own sl' j→own sl j∨(H.n≤j∧j<H'.n):=f.mine
 have nt':¬ own sl' t:=fun h=>by
  rcases sown t h with h | h
  ·exact nt h
  ·omega
 have kl:∀ (i:Nat) (c:AV),ch[i]?=some c→∀ j,own c j→j<H.n:=fun i c hc j hj=>(kid i c hc).lt hj
 simp [g.st (id:=t) (off:=0) e1 (by simp)]
 have cnew:∀ {i:Nat} {c:AV},(ch++[AV.lit (.slice none 0 0)])[i]?=some c→ch[i]?=some c∨(i=m∧c=.lit (.slice none 0 0)):=by
  intro i c hc
  by_cases hi:i<ch.length
  ·rw [List.getElem?_append_left hi] at hc; exact .inl hc
  ·rw [List.getElem?_append_right (by omega)] at hc
   have hl:=(List.getElem?_eq_some_iff.1 hc).1
   simp at hl
   have:i=m:=by omega
   subst this
   simp [len] at hc
   exact .inr ⟨rfl,hc.symm⟩
 refine h _ sl' (ch++[.lit (.slice none 0 0)]) ⟨?_,?_,?_,?_,?_,nt',?_,?_,?_⟩
 ·simp; have:=f.grow; omega
 ·simp
 ·simp [len]
 ·rw [rowsE_app,len]
  refine g.keep (fun j hj=>?_) (by simp)
  have:j≠t:=fun e=>nt' (e ▸ hj)
  simp [this]
 ·intro i c hc
  rcases cnew hc with hc | ⟨rfl,rfl⟩
  ·refine (kid i c hc).keep (fun j hj=>?_) (by simp; exact f.grow)
   have:j≠t:=fun e=>nk i c hc (e ▸ hj)
   simp [this]
   exact f.same j (kl i c hc j hj) (ns i c hc j hj)
  ·rw [kids_ge hB (by omega) (Nat.le_refl _)]
   exact .nil
 ·intro i c hc
  rcases cnew hc with hc | ⟨rfl,rfl⟩
  ·exact nk i c hc
  ·exact fun h=>h
 ·intro i c hc j hj h
  rcases cnew hc with hc | ⟨rfl,rfl⟩
  ·rcases sown j h with h | h
   ·exact ns i c hc j hj h
   ·have:=kl i c hc j hj; omega
  ·exact hj
 ·intro i i' c c' hne hc hc' j hj hj'
  rcases cnew hc with hc | ⟨rfl,rfl⟩
  ·rcases cnew hc' with hc' | ⟨rfl,rfl⟩
   ·exact nd i i' c c' hne hc hc' j hj hj'
   ·exact hj'
  ·exact hj
theorem J0_sp {L:List Nd} {d:List Nat} {N:Nat} (hB:Built L N d) {m p:Nat} (hm:m<N) (hN:N≤4096) (hm0:0<m) (hp:par L m=p) (hpm:p<m) {H:Hp} {t x7 id:Nat} {ch:List AV}
  (hT:TreeH L d H t m (.sl id 0 9 m none) ch) (hx7:H.get x7=some (.cells (rowE L d m (.lit (.slice none 0 0)) lowN) true)) (hn7:x7<H.n) (h7t:x7≠t) (h7s:x7≠id) (h7c:∀ (i:Nat) (c:AV),ch[i]?=some c→¬ own c x7)
  {K:AV→Hp→Prop} (h:∀ H' sl' ch',TreeH L d H' t (m+1) sl' ch'→K (I 0) H'):dom_Tree_put.J0 σ K (.ptr t 0) (.ptr x7 0) (I m) (.ptr id (p*9)) H:=by
 have hl:=hT.len
 obtain ⟨c,hc⟩:=get_lt (l:=ch) (k:=p) (by omega)
 have hg:∃ ex,H.get id=some (.cells (rowsE L d ch lowN).flatten ex)∧id<H.n:=by
  have:=hT.rows
  have hlen:=rowsE_len L d ch lowN
  generalize rowsE L d ch lowN=rr at this hlen
  cases this with
  | sl hlt hg hsz=>exact ⟨_,hg,hlt⟩
 obtain ⟨ex,hg,hidn⟩:=hg
 obtain ⟨r5,h5⟩:=rowsE_dropJ (L:=L) (d:=d) (low:=lowN) hc 5 (by omega)
 have hgc:=hT.kid p c hc
 have hlast:kids L (m+1) p=kids L m p++[m]:=by rw [kids_succ,if_pos ⟨hm0,hp⟩]
 have hkl:(kids L m p).length≤m:=by
  have:=List.length_filter_le (fun j:Nat=>decide (0<j)&&decide (par L j=(p:Int))) (List.range m)
  simp at this
  unfold kids
  omega
 refine dom_Tree_put.J0_step ?_
 simp [hg,h5,rowE,encNd]
 refine bnd_app1 hgc rfl rfl rfl (by simp; omega) (by simp; omega) fun c' H' g f=>?_
 have cid:¬ own c id:=fun h=>(hT.ns p c hc id h) rfl
 have e1:H'.get id=some (.cells (rowsE L d ch lowN).flatten ex):=by rw [f.same id hidn cid]; exact hg
 have hlen:p*9+5<(rowsE L d ch lowN).flatten.length:=by
  rw [flatten_len rowsE_sz,rowsE_len]; omega
 simp [g.st (id:=id) (off:=p*9+5) e1 hlen]
 have hput:=rowsE_put (L:=L) (d:=d) (low:=lowN) (c':=c') hc
 rw [ovl_set hlen] at hput
 rw [hput]
 have kl:∀ (i:Nat) (c:AV),ch[i]?=some c→∀ j,own c j→j<H.n:=fun i c hc j hj=>(hT.kid i c hc).lt hj
 have cown:∀ j,own c' j→own c j∨(H.n≤j∧j<H'.n):=f.mine
 have cset:∀ {i:Nat} {x:AV},(ch.set p c')[i]?=some x→(i≠p∧ch[i]?=some x)∨(i=p∧x=c'):=by
  intro i x hx
  rw [List.getElem?_set] at hx
  split at hx
  ·rename_i he
   split at hx
   ·cases hx; exact .inr ⟨he.symm,rfl⟩
   ·cases hx
  ·rename_i he; exact .inl ⟨fun e=>he e.symm,hx⟩
 have cid':¬ own c' id:=fun h=>by
  rcases cown id h with h | h
  ·exact cid h
  ·omega
 have ct':¬ own c' t:=fun h=>by
  rcases cown t h with h | h
  ·exact hT.nk p c hc h
  ·have:=hT.tlt; omega
 have idt:id≠t:=fun e=>hT.nt e
 refine J1_sp hB hm hN (sl:=.sl id 0 9 m none) (ch:=ch.set p c') ?_ ?_ (by simpa using hl) ?_ ?_ hT.nt ?_ ?_ ?_ ?_ h
 ·simp; have:=f.grow; have:=hT.tlt; omega
 ·simp [Ne.symm idt]
  rw [f.same t hT.tlt (hT.nk p c hc)]; exact hT.tg
 ·have:m=(rowsE L d (ch.set p c') lowN).length:=by rw [rowsE_len]; simpa using hl.symm
  conv=>arg 3; rw [this]
  exact .sl (ex:=ex) (by simp; have:=f.grow; omega) (by simp) rowsE_sz
 ·intro i x hx
  rcases cset hx with ⟨hne,hx⟩ | ⟨rfl,rfl⟩
  ·rw [kids_succ,if_neg (fun h=>hne (by have:=h.2; rw [hp] at this; omega)),List.append_nil]
   refine (hT.kid i x hx).keep (fun j hj=>?_) (by simp; exact f.grow)
   have:j≠id:=fun e=>hT.ns i x hx j hj e.symm
   simp [this]
   exact f.same j (kl i x hx j hj) (hT.nd i p x c hne hx hc j hj)
  ·rw [hlast,List.map_append]
   refine Gs.keep (H:=H') g (fun j hj=>?_) (by simp)
   have:j≠id:=fun e=>cid' (e ▸ hj)
   simp [this]
 ·intro i x hx
  rcases cset hx with ⟨hne,hx⟩ | ⟨rfl,rfl⟩
  ·exact hT.nk i x hx
  ·exact ct'
 ·intro i x hx j hj h
  rcases cset hx with ⟨hne,hx⟩ | ⟨rfl,rfl⟩
  ·exact hT.ns i x hx j hj h
  ·exact cid' (by have h:id=j:=h; rw [h]; exact hj)
 ·intro i i' x x' hne hx hx' j hj hj'
  rcases cset hx with ⟨h1,hx⟩ | ⟨rfl,rfl⟩
  ·rcases cset hx' with ⟨h2,hx'⟩ | ⟨rfl,rfl⟩
   ·exact hT.nd i i' x x' hne hx hx' j hj hj'
   ·rename_i h3
    rcases cown j hj' with h | h
    ·exact hT.nd i i' x c hne h3 hc j hj h
    ·have:=kl i x h3 j hj; omega
  ·rcases cset hx' with ⟨h2,hx'⟩ | ⟨h3,rfl⟩
   ·rcases cown j hj with h | h
    ·exact hT.nd i i' c x' hne hc hx' j h hj'
    ·have:=kl i' x' hx' j hj'; omega
   ·exact hne h3.symm
 ·simp [h7s]
  rw [f.same x7 hn7 (h7c p c hc)]; exact hx7
theorem TreeH.new {L:List Nd} {d:List Nat} {H:Hp} {t m:Nat} {sl:AV} {ch:List AV} (h:TreeH L d H t m sl ch) {H':Hp} (hs:∀ j,j<H.n→H'.get j=H.get j) (hn:H.n≤H'.n):TreeH L d H' t m sl ch :=
 ⟨Nat.lt_of_lt_of_le h.tlt hn,by rw [hs t h.tlt]; exact h.tg,h.len,h.rows.keep (fun j hj=>hs j (h.rows.lt hj)) hn,fun i c hc=>(h.kid i c hc).keep (fun j hj=>hs j ((h.kid i c hc).lt hj)) hn,h.nt,h.nk,h.ns,h.nd⟩
theorem sibs_last {L:List Nd} {m p:Nat} (hp:par L m=p) {j:Nat} {l:List Nat} (e:kids L m p=l++[j]):before L m=j∧place L m=(l.length:Int)+1+1:=by
 rw [kids_self hp] at e
 unfold before place lastI
 rw [e]
 simp
theorem put_sp {L : List Nd} {d : List Nat} {N : Nat} (hB : Built L N d) (hW : ∀ n ∈ L, NdWf n) {m : Nat} (hm : m < N) (hN : N ≤ 4096) {H : Hp} {t : Nat} {sl : AV} {ch : List AV} (hT : TreeH L d H t m sl ch)
    {K:AV→Hp→Prop} (h:∀ H' sl' ch',TreeH L d H' t (m+1) sl' ch'→K (I 0) H'):callK Tryz.prog σ n_dom_Tree_put [.ptr t 0,.agg (encNd (ndAt L m))] H K:=by
  have hmL:m<L.length:=Nat.lt_of_lt_of_le hm hB.le
  have hnd:ndAt L m ∈ L:=by
    unfold ndAt
    rw [List.getD_eq_getElem?_getD,List.getElem?_eq_getElem hmL]
    exact List.getElem_mem hmL
  have hlow:=dLow_ok (σ:=σ) _ (hW _ hnd)
  have htn:=hT.tlt
  have t1:t≠H.n:=by omega
  have t2:t≠H.n+1:=by omega
  have hlen:=hT.rows.len
  rw [rowsE_len,hT.len] at hlen
  refine dom_Tree_put.run ?_
  simp
  refine callK_of (hlow _) ?_
  have eb:∀ c:AV,bldR [I 0,Sx ⟨#[]⟩,Sx ⟨#[]⟩,.lit (.slice none 0 0),.lit (.slice none 0 0),.lit (.slice none 0 0),I 0,I 0,I 0] [(0,5,.agg (encNd (lowN (ndAt L m)))),(7,1,I 1),(8,1,I (-1))]=some (encNd (lowN (ndAt L m))++[.lit (.slice none 0 0),I 0,I 1,I (-1)]):=by
    intro c
    simp [bldR,beqN,bleN,encNd,overlay]
  rw [eb .any]
  have hnew:∀ (a b:Blk),TreeH L d ((H.new a).new b) t m sl ch:=fun a b=>hT.new (fun j hj=>by
    have:j≠H.n:=by omega
    have:j≠H.n+1:=by omega
    simp [*]) (by simp; omega)
  by_cases h0:m=0
  · subst h0
    have hr:=hB.root (by omega)
    have hpar:(ndAt L 0).parent=-1:=hr.1
    simp [t1,t2,hT.tg,hlen,encNd,hpar,overlay_all]
    have hT2 := hT.new (H' := ((H.new (.cells [I (-1), Sx (ndAt L 0).tag, Sx (ndAt L 0).id, strs (ndAt L 0).classes, .imm 2 (List.map encPr (ndAt L 0).attrs)] true)).new
          (.cells [I 0,Sx ⟨#[]⟩,Sx ⟨#[]⟩,.lit (.slice none 0 0),.lit (.slice none 0 0),.lit (.slice none 0 0),I 0,I 0,I 0] true)).set (H.n+1)
      (some (.cells (encNd (lowN (ndAt L 0))++[.lit (.slice none 0 0),I 0,I 1,I (-1)]) true))) (fun j hj=>by
        have a1:j≠H.n:=by omega
        have a2:j≠H.n+1:=by omega
        simp [a1,a2]) (by simp; omega)
    have hd0:d.getD 0 0=0:=by rw [List.getD_eq_getElem?_getD,hr.2]; rfl
    refine J1_sp hB hm hN hT2.tlt hT2.tg hT2.len hT2.rows (fun i c hc=>?_) hT2.nt hT2.nk hT2.ns hT2.nd ?_ h
    · rw [kids_succ,if_neg (by omega),List.append_nil]; exact hT2.kid i c hc
    · unfold rowE
      rw [hd0]
      simp [place,sibs,before,lastI]
  · obtain ⟨p,x,hp,hpm,hx,hdx,h256⟩:=hB.step m (by omega) hm
    have hpar:(ndAt L m).parent=p:=hp
    have hm0:¬ ((m:Int)=0):=by omega
    have hm1:(0:Int)<m:=by omega
    have hp1:¬ ((p:Int)<0):=by omega
    have hp2:¬ ((m:Int)≤p):=by omega
    have hmn:¬ (m=0):=h0
    have hmp:0<m:=by omega
    obtain ⟨id,ex,rfl,hg,hidn⟩:∃ id ex,sl=.sl id 0 9 m none∧H.get id=some (.cells (rowsE L d ch lowN).flatten ex)∧id<H.n:=by
      have:=hT.rows
      have hl:=rowsE_len L d ch lowN
      rw [hT.len] at hl
      generalize rowsE L d ch lowN=rr at this hl
      cases this with
      | nil=>simp at hl; omega
      | sl hlt hg hsz=>exact ⟨_,_,by rw [hl],hg,hlt⟩
    obtain ⟨c,hc⟩:=get_lt (l:=ch) (k:=p) (by rw [hT.len]; exact hpm)
    obtain ⟨r5,h5⟩:=rowsE_dropJ (L:=L) (d:=d) (low:=lowN) hc 5 (by omega)
    obtain ⟨r6,h6⟩:=rowsE_dropJ (L:=L) (d:=d) (low:=lowN) hc 6 (by omega)
    have hdp:d.getD p 0=x:=by rw [List.getD_eq_getElem?_getD,hx]; rfl
    have hdm:d.getD m 0=x+1:=by rw [List.getD_eq_getElem?_getD,hdx]; rfl
    simp only [rowE,hdp] at h5 h6
    have i1:id≠H.n:=by omega
    have i2:id≠H.n+1:=by omega
    have hpi:(p:Int)<m:=by omega
    have e256:¬ ((256:Int)<(x:Int)+1):=by omega
    simp [t1,t2,hT.tg,hlen,encNd,hpar,overlay_all,hm0,hm1,hp1,hp2,hmn,hmp,ix_sl,hpi,i1,i2,hg,h5,h6]
    have ew:wr .i64 ((x:Int)+1)=((x+1:Nat):Int):=by rw [wr64 (by omega) (by omega)]; rfl
    have e256':¬ ((256:Int)<((x+1:Nat):Int)):=by omega
    rw [ew,if_neg e256']
    have hG : ∃ G : Hp, G = ((((H.new (.cells [I p, Sx (ndAt L m).tag, Sx (ndAt L m).id, strs (ndAt L m).classes, .imm 2 (List.map encPr (ndAt L m).attrs)] true)).new
        (.cells [I 0,Sx ⟨#[]⟩,Sx ⟨#[]⟩,.lit (.slice none 0 0),.lit (.slice none 0 0),.lit (.slice none 0 0),I 0,I 0,I 0] true)).set (H.n+1)
        (some (.cells [I (lowN (ndAt L m)).parent,Sx (lowN (ndAt L m)).tag,Sx (lowN (ndAt L m)).id,strs (lowN (ndAt L m)).classes,.imm 2 (List.map encPr (lowN (ndAt L m)).attrs),.lit (.slice none 0 0),I 0,I 1,I (-1)] true))).set (H.n+1)
        (some (.cells [I (lowN (ndAt L m)).parent,Sx (lowN (ndAt L m)).tag,Sx (lowN (ndAt L m)).id,strs (lowN (ndAt L m)).classes,.imm 2 (List.map encPr (lowN (ndAt L m)).attrs),.lit (.slice none 0 0),I ((x+1:Nat):Int),I 1,I (-1)] true))):=⟨_,rfl⟩
    obtain ⟨G,eG⟩:=hG
    rw [← eG]
    have G1:∀ j,j<H.n→G.get j=H.get j:=fun j hj=>by
      have a1:j≠H.n:=by omega
      have a2:j≠H.n+1:=by omega
      rw [eG]; simp [a1,a2]
    have G2:G.get (H.n+1)=some (.cells [I (lowN (ndAt L m)).parent,Sx (lowN (ndAt L m)).tag,Sx (lowN (ndAt L m)).id,strs (lowN (ndAt L m)).classes,.imm 2 (List.map encPr (lowN (ndAt L m)).attrs),.lit (.slice none 0 0),I ((x+1:Nat):Int),I 1,I (-1)] true):=by rw [eG]; simp
    have G3:G.n=H.n+2:=by rw [eG]; rfl
    clear eG
    have hTG:=hT.new (H':=G) G1 (by omega)
    have hgG:G.get id=some (.cells (rowsE L d ch lowN).flatten ex):=by rw [G1 id hidn]; exact hg
    have hgc:=hTG.kid p c hc
    have hkl:=hgc.len
    rw [List.length_map] at hkl
    have own7:∀ (i:Nat) (c:AV),ch[i]?=some c→¬ own c (H.n+1):=fun i c hc hj=>by
      have:=(hT.kid i c hc).lt hj; omega
    have hpl:(kids L m p).length≤m:=by
      have:=List.length_filter_le (fun j:Nat=>decide (0<j)&&decide (par L j=(p:Int))) (List.range m)
      simp at this
      unfold kids
      omega
    rcases List.eq_nil_or_concat (kids L m p) with hk | ⟨l,j,hk⟩
    · rw [hk] at hkl
      simp [hkl]
      have hs:sibs L m=[]:=by rw [← kids_self hp]; exact hk
      refine J0_sp hB hm hN hmp hp hpm hTG ?_ (by omega) (by omega) (by omega) own7 h
      rw [G2]
      unfold rowE
      rw [hdm]
      simp [place,before,lastI,hs,encNd]
    · rw [List.concat_eq_append] at hk
      rw [hk,List.length_append,List.length_singleton] at hkl
      have hll:l.length+1≤m:=by rw [hk] at hpl; simpa using hpl
      obtain ⟨cid,cex,rfl,hcg⟩:∃ cid cex,c=.sl cid 0 1 (l.length+1) none∧G.get cid=some (.cells (((l++[j]).map fun j:Nat=>[I j]).flatten) cex):=by
        rw [hk] at hgc
        generalize hr:((l++[j]).map fun j:Nat=>[I (j:Int)])=rr at hgc
        have hrl:rr.length=l.length+1:=by rw [← hr]; simp
        cases hgc with
        | nil=>simp at hrl
        | sl hlt hg hsz=>exact ⟨_,_,by rw [hrl],hg⟩
      have hd:((l.map fun j:Nat=>[I (j:Int)]).flatten++[I (j:Int)]).drop l.length=[I (j:Int)]:=by
        have:(l.map fun j:Nat=>[I (j:Int)]).flatten.length=l.length:=by
          rw [flatten_len (sz:=1) (fun row hrow=>by obtain ⟨x,_,rfl⟩:=List.mem_map.1 hrow; rfl)]; simp
        rw [List.drop_append_of_le_length (by omega),List.drop_of_length_le (by omega)]
        rfl
      have e1:wr .i64 (((l.length+1:Nat):Int)+1)=(l.length:Int)+1+1:=by rw [wr64 (by omega) (by omega)]; omega
      have e2:wr .i64 (((l.length+1:Nat):Int) - 1)=(l.length:Int):=by rw [wr64 (by omega) (by omega)]; omega
      have e3:(0:Int)<((l.length+1:Nat):Int):=by omega
      have e4:(l.length:Int)<((l.length+1:Nat):Int):=by omega
      simp only [hkl,bnd_some,b_gtr,ifB_lit,e3,decide_true,if_true,b_add,b_sub,e1,e2]
      rw [ix_sl (by omega) e4]
      have cid7:cid≠H.n+1:=fun e=>own7 p _ hc e
      have id7:id≠H.n+1:=i2
      have hs:=sibs_last hp hk
      simp [hcg,hd,G2,cid7,hgG,h5,encNd,id7]
      refine J0_sp hB hm hN hmp hp hpm (hT.new (fun j hj=>?_) ?_) ?_ ?_ (by omega) (by omega) own7 h
      · have a2:j≠H.n+1:=by omega
        simp [a2,G1 j hj]
      · simp; omega
      · simp [rowE,encNd]
        rw [← List.getD_eq_getElem?_getD,hdm,hs.1,hs.2]
        simp
      · simp; omega
theorem domNew_L0 {L:List Nd} {d:List Nat} (hB:Built L L.length d) (hW:∀ n ∈ L,NdWf n) (hN:L.length≤4096) {t:Nat} {K:AV→Hp→Prop} (h:∀ H sl ch,TreeH L d H t L.length sl ch→K (.tup [.ptr t 0,I 0]) H) :
  ∀ (k m:Nat) (H:Hp) (sl:AV) (ch:List AV),L.length - m=k→m≤L.length→TreeH L d H t m sl ch→dom_New.L0 σ K (.ptr t 0) (nds L) (I L.length) (I m) H:=by
 intro k
 induction k with
 | zero =>
  intro m H sl ch hk hm hT
  have:m=L.length:=by omega
  subst this
  refine dom_New.L0_step ?_
  simp
  exact h H sl ch hT
 | succ k ih =>
  intro m H sl ch hk hm hT
  have hlt:m<L.length:=by omega
  have hget:L[m]?=some (ndAt L m):=by
   unfold ndAt
   rw [List.getD_eq_getElem?_getD,List.getElem?_eq_getElem hlt]; rfl
  refine dom_New.L0_step ?_
  simp [nds,hlt,ix_map hget,overlay_all]
  refine put_sp hB hW hlt hN (hT.new (fun j hj=>?_) ?_) fun H' sl' ch' hT'=>?_
  ·have a1:j≠H.n:=by omega
   simp [a1]
  ·simp
  ·simp
   rw [wr_succ (by omega)]
   exact ih (m+1) H' sl' ch' (by omega) (by omega) hT'
def elC (L:List Nd) (i:Nat):AV:=.imm 1 ((kids L L.length i).map fun j:Nat=>[I j])
def elE (L:List Nd) (d:List Nat) (i:Nat):List AV:=rowE L d i (elC L i) lowN
def domT (L:List Nd) (d:List Nat):AV:=.ip [.imm 9 ((List.range L.length).map (elE L d))]
theorem noId_elC (L:List Nd) (i:Nat):noId (elC L i)=true:=by unfold elC; simp only [noId]; exact noIds_map _ (fun _=>rfl) _
theorem noIds_app:∀ {a b:List AV},noIds a=true→noIds b=true→noIds (a++b)=true
 | [],b,_,h=>h
 | x::a,b,ha,hb=>by
  simp only [noIds,Bool.and_eq_true] at ha
  simp only [List.cons_append,noIds,ha.1,noIds_app ha.2 hb,Bool.and_self]
theorem noId_elE (L:List Nd) (d:List Nat) (i:Nat):noIds (elE L d i)=true:=by
 unfold elE rowE
 exact noIds_app (noId_Nd _) (by simp only [noIds,noId_elC,noId,Bool.and_self])
theorem noId_domT (L:List Nd) (d:List Nat):noId (domT L d)=true:=by
 unfold domT
 simp only [noId,noIds,noIds_map _ (noId_elE L d),Bool.and_self]
theorem rows_fz {L:List Nd} {d:List Nat} {H:Hp} {ch:List AV} (hl:ch.length=L.length) (hk:∀ (i:Nat) (c:AV),ch[i]?=some c→Gs 1 H c ((kids L L.length i).map fun j:Nat=>[I j])) {sl:AV} (hg:Gs 9 H sl (rowsE L d ch lowN)) :
  Fz H sl (.imm 9 ((List.range L.length).map (elE L d))):=by
 generalize hr:rowsE L d ch lowN=rr at hg
 have hrl:rr.length=L.length:=by rw [← hr,rowsE_len,hl]
 cases hg with
 | nil =>
  have:L.length=0:=by simpa using hrl.symm
  rw [this]; exact .nil
 | sl hlt hg hsz =>
  have rowAt:∀ (i:Nat) (row:List AV),((List.range L.length).map (elE L d))[i]?=some row→∃ c,ch[i]?=some c∧row=elE L d i:=by
   intro i row h
   rw [List.getElem?_map,Option.map_eq_some_iff] at h
   obtain ⟨x,hx,rfl⟩:=h
   have hi:=(List.getElem?_eq_some_iff.1 hx).1
   simp at hi
   rw [List.getElem?_range hi] at hx
   cases hx
   obtain ⟨c,hc⟩:=get_lt (l:=ch) (k:=i) (by omega)
   exact ⟨c,hc,rfl⟩
  refine .sl (fun i j=>(rowE L d i (ch.getD i .any) lowN).getD j .any) hg (by simp [hrl]) (fun i row h=>?_) (fun i row j y h hj=>?_) (fun i row j y h hj=>?_)
  ·obtain ⟨c,_,rfl⟩:=rowAt i row h; rfl
  ·obtain ⟨c,hc,rfl⟩:=rowAt i row h
   have hj9:j<9:=by have:=(List.getElem?_eq_some_iff.1 hj).1; simpa [elE] using this
   have e:=rowsE_get (L:=L) (d:=d) (low:=lowN) hc
   rw [hr] at e
   have hcd:ch.getD i .any=c:=by rw [List.getD_eq_getElem?_getD,hc]; rfl
   rw [Nat.zero_add]
   have hz:(rowE L d i c lowN)[j]?=some ((rowE L d i c lowN).getD j .any):=by
    rw [List.getD_eq_getElem?_getD,List.getElem?_eq_getElem (by simpa using hj9)]; rfl
   rw [hcd,rows_flat hsz i _ j _ e hz]
  ·obtain ⟨c,hc,rfl⟩:=rowAt i row h
   have hcd:ch.getD i .any=c:=by rw [List.getD_eq_getElem?_getD,hc]; rfl
   rw [hcd]
   have hcs:=hk i c hc
   have h5:=hcs.fz (noIds_map _ (fun _=>rfl) _)
   have hL:FzL H (rowE L d i c lowN) (elE L d i):=by
    unfold elE rowE encNd
    exact .cons (.refl rfl) (.cons (.refl rfl) (.cons (.refl rfl) (.cons (.refl (noId_strs _)) (.cons (.refl (by simp only [noId]; exact noIds_map _ (fun _=>rfl) _)) (.cons h5 (.cons (.refl rfl) (.cons (.refl rfl) (.cons (.refl rfl) .nil))))))))
   obtain ⟨x,hx,hf⟩:=hL.get.2 j y hj
   rw [List.getD_eq_getElem?_getD,hx]
   exact hf
theorem domNew_ok {L:List Nd} {d:List Nat} (hB:Built L L.length d) (hW:∀ n ∈ L,NdWf n) (hN:L.length≤4096) (H:Hp):Good Tryz.prog σ n_dom_New [nds L] H (.tup [domT L d,I 0]) H:=by
 obtain ⟨Q,hQ⟩:∃ Q:AV→Hp→Prop,∀ r H1,Q r H1 ↔ Fz H1 r (.tup [domT L d,I 0]):=⟨_,fun _ _=>Iff.rfl⟩
 have run:∃ r H1,Good Tryz.prog σ n_dom_New [nds L] Hp.empty r H1∧Q r H1:=by
  refine dom_New.run ?_
  have h1:¬ ((4096:Int)<(L.length:Int)):=by omega
  simp [h1,bldR]
  refine domNew_L0 hB hW hN (fun H sl ch hT=>?_) _ 0 _ (.lit (.slice none 0 0)) [] rfl (Nat.zero_le _) ⟨by simp,by simp,rfl,.nil,fun i c h=>by simp at h,fun h=>h,fun i c h=>by simp at h,fun i c h=>by simp at h,fun i i' c c' _ h=>by simp at h⟩
  rw [hQ]
  have hr:=rows_fz hT.len hT.kid hT.rows
  refine .tup rfl fun j x y hx hy=>?_
  match j with
  | 0 =>
   simp at hx hy
   subst hx; subst hy
   refine .ptr (fun _=>sl) hT.tg (fun j y hj=>?_) (fun j y hj=>?_)
   ·have:j=0:=by have:=(List.getElem?_eq_some_iff.1 hj).1; simp at this; omega
    subst this; simp
   ·have:j=0:=by have:=(List.getElem?_eq_some_iff.1 hj).1; simp at this; omega
    subst this
    simp at hj
    rw [← hj]; exact hr
  | 1=>simp at hx hy; subst hx; subst hy; exact .refl rfl
  | j+2=>simp at hx
 obtain ⟨r,H1,hg,hf⟩:=run
 rw [hQ] at hf
 exact hg.frzR (by simp [noIds]) hf H
end Go.Proofs.YthdcghnjndhecaaGreat.Ev
namespace Go.Proofs.YthdcghnjndhecaaGreat.Ev
set_option linter.unusedVariables false
set_option linter.unusedSimpArgs false
variable {σ:Sig}
def encI (x:Nat):List AV:=[I (x:Int)]
structure RefH (L:List Nd) (H:Hp) (t m:Nat) (d:List Nat) (n e:AV):Prop where
 tlt:t<H.n
 tg:H.get t=some (.cells [n,e] true)
 rn:Gs 5 H n ((L.take m).map fun x=>encNd (lowN x))
 re:Gs 1 H e (d.map encI)
 nt:¬ own n t
 et:¬ own e t
 ne:∀ j,own n j→¬ own e j
theorem Built.uniq {L:List Nd} {m N:Nat} {d d':List Nat} (h:Built L m d) (h':Built L N d') (hm:m≤N):∀ (n i:Nat),i<n→i<m→d[i]?=d'[i]?:=by
 intro n
 induction n with
 | zero=>intro i hi; omega
 | succ n ih =>
  intro i hi him
  by_cases h0:i=0
  ·subst h0
   rw [(h.root (by omega)).2,(h'.root (by omega)).2]
  ·obtain ⟨p,x,e1,e2,e3,e4,_⟩:=h.step i (by omega) him
   obtain ⟨p',x',f1,f2,f3,f4,_⟩:=h'.step i (by omega) (by omega)
   have:p=p':=by omega
   subst this
   have:=ih p (by omega) (by omega)
   rw [e3,f3] at this
   cases this
   rw [e4,f4]
theorem refNew_L0 {L:List Nd} (hW:∀ n ∈ L,NdWf n) (hN:L.length≤4096) {t:Nat} {K:AV→Hp→Prop} (hErr:(∀ d,¬ Built L L.length d)→∀ e:Int,e≠0→∀ H,K (.tup [.lit (.pointer none),I e]) H)
  (h:∀ H d n e,Built L L.length d→RefH L H t L.length d n e→K (.tup [.ptr t 0,I 0]) H) :
  ∀ (k m:Nat) (H:Hp) (d:List Nat) (n e y7:AV),L.length - m=k→m≤L.length→Built L m d→RefH L H t m d n e→ref9_New.L0 σ K (nds L) (.ptr t 0) (I m) y7 H:=by
 intro k
 induction k with
 | zero =>
  intro m H d n e y7 hk hm hB hR
  have:m=L.length:=by omega
  subst this
  refine ref9_New.L0_step ?_
  simp
  exact h H d n e hB hR
 | succ k ih =>
  intro m H d n e y7 hk hm hB hR
  have hlt:m<L.length:=by omega
  have hLm:L[m]=ndAt L m:=by
   unfold ndAt
   rw [List.getD_eq_getElem?_getD,List.getElem?_eq_getElem hlt]; rfl
  have hget:L[m]?=some (ndAt L m):=by rw [List.getElem?_eq_getElem hlt,hLm]
  have hmem:ndAt L m ∈ L:=List.mem_of_getElem? hget
  have hdl:=hB.len
  have next:∀ x:Nat,(x≤256→Built L (m+1) (d++[x]))→(256<x→∀ d,¬ Built L L.length d)→ref9_New.J1 σ K (nds L) (.ptr t 0) (I m) (I (x:Int)) H:=by
   intro x hx hx'
   refine ref9_New.J1_step ?_
   simp
   split
   ·rename_i hx256
    exact hErr (hx' (by omega)) 11 (by decide) H
   ·rename_i hx256
    have hB':=hx (by omega)
    simp [hR.tg,nds,ix_map hget]
    refine callK_of (rLow_ok _ (hW _ hmem) _) ?_
    simp [hR.tg]
    have t1:t≠H.n:=by have:=hR.tlt; omega
    refine bnd_app1k (y:=.agg (encNd (lowN (ndAt L m)))) (by simp [t1,hR.tg]) hR.rn rfl rfl (by simp) (by simp; omega) (by simp; omega) fun n' H' g f=>?_
    have ht':H'.get t=some (.cells [n,e] true):=by rw [f.same t hR.tlt hR.nt]; exact hR.tg
    have nt':¬ own n' t:=fun h=>by
     rcases f.mine t h with h | h
     ·exact hR.nt h
     ·have:=hR.tlt; omega
    have hre:Gs 1 H' e (d.map encI):=hR.re.keep (fun j hj=>f.same j (hR.re.lt hj) (fun h=>hR.ne j h hj)) f.grow
    have hne:∀ j,own n' j→¬ own e j:=fun j h h'=>by
     rcases f.mine j h with h | h
     ·exact hR.ne j h h'
     ·have:=hR.re.lt h'; omega
    simp [g.st (id:=t) (off:=0) ht' (by simp)]
    have hre2:Gs 1 (H'.set t (some (.cells [n',e] true))) e (d.map encI):=hre.keep (fun j hj=>by
     have:j≠t:=fun h=>hR.et (h ▸ hj)
     simp [this]) (by simp)
    refine bnd_app1 hre2 rfl rfl rfl (by simp; omega) (by simp; omega) fun e' H2 g2 f2=>?_
    have tl2:t<(H'.set t (some (.cells [n',e] true))).n:=by simp; have:=f.grow; have:=hR.tlt; omega
    have ht2:H2.get t=some (.cells [n',e] true):=by rw [f2.same t tl2 hR.et]; simp
    have et':¬ own e' t:=fun h=>by
     rcases f2.mine t h with h | h
     ·exact hR.et h
     ·omega
    simp [g2.st (id:=t) (off:=1) ht2 (by simp)]
    rw [wr_succ (by omega)]
    have hg2n:=f2.grow
    simp at hg2n
    refine ih (m+1) _ (d++[x]) n' e' _ (by omega) (by omega) hB' ⟨?_,?_,?_,?_,nt',et',?_⟩
    ·simp; have:=f.grow; have:=hR.tlt; omega
    ·simp
    ·rw [map_take_succ hlt,hLm]
     refine g.keep (fun j hj=>?_) (by simp; omega)
     have a1:j≠t:=fun h=>nt' (h ▸ hj)
     have a2:j<(H'.set t (some (.cells [n',e] true))).n:=by simp; exact g.lt hj
     have:=f2.same j a2 (hne j hj)
     simp [a1] at this ⊢
     exact this
    ·rw [List.map_append]
     refine Gs.keep (H:=H2) g2 (fun j hj=>?_) (by simp)
     have a1:j≠t:=fun h=>et' (h ▸ hj)
     simp [a1]
    ·intro j hj h'
     rcases f2.mine j h' with h | h
     ·exact hne j hj h
     ·have:=g.lt hj; simp at h; omega
  refine ref9_New.L0_step ?_
  simp [nds,hlt,ix_map hget]
  have hpar:(ndAt L m).parent=par L m:=rfl
  rw [hpar]
  by_cases h0:m=0
  ·subst h0
   simp
   split
   ·rename_i hp
    rw [show (AV.imm 5 (L.map encNd))=nds L from rfl]
    refine next 0 (fun _=>?_) (fun h=>by omega)
    have hd:d=[]:=List.length_eq_zero_iff.1 hdl
    subst hd
    exact .first hlt hp
   ·rename_i hp
    exact hErr (fun d' hB'=>hp (hB'.root hlt).1) 10 (by decide) H
  ·have hm1:¬ ((m:Int)=0):=by omega
   have hm2:(0:Int)<m:=by omega
   have hm3:0<m:=by omega
   simp [h0,hm1,hm2,hm3]
   split
   ·rename_i hp
    exact hErr (fun d' hB'=>by obtain ⟨p,x,e1,e2,_⟩:=hB'.step m hm3 hlt; omega) 10 (by decide) H
   split
   ·rename_i _ hp
    exact hErr (fun d' hB'=>by obtain ⟨p,x,e1,e2,_⟩:=hB'.step m hm3 hlt; omega) 10 (by decide) H
   ·rename_i hp1 hp2
    obtain ⟨p,hp⟩:∃ p:Nat,par L m=p:=⟨(par L m).toNat,by omega⟩
    rw [hp] at hp2 ⊢
    have hpm:p<m:=by omega
    obtain ⟨x,hx⟩:=get_lt (l:=d) (k:=p) (by omega)
    obtain ⟨id,ex,he,hg⟩:∃ id ex,e=.sl id 0 1 d.length none∧H.get id=some (.cells (d.map encI).flatten ex):=by
     have:=hR.re
     generalize hr:d.map encI=rr at this
     have hrl:rr.length=d.length:=by rw [← hr]; simp
     cases this with
     | nil=>simp at hrl; omega
     | sl hlt hg hsz=>exact ⟨_,_,by rw [hrl],hg⟩
    have hdrop:∃ r,((d.map encI).flatten).drop p=I (x:Int)::r:=by
     have h1:∀ r ∈ d.map encI,r.length=1:=fun r hr=>by obtain ⟨y,_,rfl⟩:=List.mem_map.1 hr; rfl
     have h2:=flat_drop h1 (w:=p) (by simp; omega)
     rw [Nat.mul_one] at h2
     have h3:(d.map encI)[p]'(by simp; omega)=encI x:=by
      rw [List.getElem_map]
      rw [List.getElem?_eq_getElem (by omega)] at hx
      rw [Option.some.inj hx]
     rw [h3] at h2
     exact ⟨_,h2⟩
    obtain ⟨r,hdrop⟩:=hdrop
    have e1:wr .i64 ((x:Int)+1)=((x+1:Nat):Int):=by
     have:x≤256:=by
      by_cases hp0:p=0
      ·subst hp0
       have:=(hB.root hm3).2
       rw [hx] at this
       cases this
       omega
      ·obtain ⟨_,y,_,_,_,h4,h5⟩:=hB.step p (by omega) hpm
       rw [hx] at h4
       cases h4
       omega
     rw [wr64 (by omega) (by omega)]; rfl
    simp [hR.tg,he]
    rw [ix_sl (by omega) (by omega)]
    simp [hg,hdrop]
    rw [e1,show (AV.imm 5 (L.map encNd))=nds L from rfl]
    have:=next (x+1) (fun h256=>hB.next hm3 hlt hp hpm hx h256) fun h d' hB'=>by
     obtain ⟨p',x',f1,f2,f3,f4,f5⟩:=hB'.step m hm3 hlt
     have e2:p=p':=by omega
     subst e2
     have e3:=hB.uniq hB' (by omega) (p+1) p (by omega) hpm
     rw [hx,f3] at e3
     cases e3
     omega
    exact this
def refT (L:List Nd) (d:List Nat):AV:=.ip [nds (L.map lowN),.imm 1 (d.map encI)]
theorem noId_refT (L:List Nd) (d:List Nat):noId (refT L d)=true:=by
 unfold refT
 simp only [noId,noIds,noId_nds,noIds_map _ (show ∀ x,noIds (encI x)=true from fun _=>rfl),Bool.and_self]
theorem refNew_ok (L:List Nd) (hW:∀ n ∈ L,NdWf n):((L.length≤4096→∀ d,¬ Built L L.length d)∧∃ e:Int,e≠0∧∀ H,Good Tryz.prog σ n_ref9_New [nds L] H (.tup [.lit (.pointer none),I e]) H) ∨
  (∃ d,L.length≤4096∧Built L L.length d∧∀ H,Good Tryz.prog σ n_ref9_New [nds L] H (.tup [refT L d,I 0]) H):=by
 by_cases hN:L.length≤4096
 ·obtain ⟨Q,hQ⟩:∃ Q:AV→Hp→Prop,∀ r H1,Q r H1 ↔ (((∀ d,¬ Built L L.length d)∧∃ e:Int,e≠0∧r=.tup [.lit (.pointer none),I e])∨∃ d,Built L L.length d∧Fz H1 r (.tup [refT L d,I 0])):=⟨_,fun _ _=>Iff.rfl⟩
  have run:∃ r H1,Good Tryz.prog σ n_ref9_New [nds L] Hp.empty r H1∧Q r H1:=by
   refine ref9_New.run ?_
   have h1:¬ ((4096:Int)<(L.length:Int)):=by omega
   simp [h1,bldR]
   refine refNew_L0 hW hN (fun hnb e he H=>by rw [hQ]; exact .inl ⟨hnb,e,he,rfl⟩) (fun H d n e hB hR=>?_) _ 0 _ [] (.lit (.slice none 0 0)) (.lit (.slice none 0 0)) _ rfl (Nat.zero_le _) (Built.nil L)
    ⟨by simp,by simp,by simpa using Gs.nil,.nil,fun h=>h,fun h=>h,fun j h=>h.elim⟩
   rw [hQ]
   refine .inr ⟨d,hB,.tup rfl fun j x y hx hy=>?_⟩
   have rn:=hR.rn
   rw [List.take_length] at rn
   match j with
   | 0 =>
    simp at hx hy
    subst hx; subst hy
    have f1:=rn.fz (noIds_map _ (fun x=>noId_Nd (lowN x)) _)
    have f2:=hR.re.fz (noIds_map _ (fun _=>rfl) _)
    refine .ptr (fun j=>[n,e].getD j .any) hR.tg (fun j y hj=>?_) (fun j y hj=>?_)
    ·have hl:=(List.getElem?_eq_some_iff.1 hj).1
     match j with
     | 0=>simp
     | 1=>simp
     | j+2=>simp at hl; omega
    ·match j with
     | 0=>simp at hj; rw [← hj]; simpa [nds,Function.comp_def] using f1
     | 1=>simp at hj; rw [← hj]; exact f2
     | j+2=>simp at hj
   | 1=>simp at hx hy; subst hx; subst hy; exact .refl rfl
   | j+2=>simp at hx
  obtain ⟨r,H1,hg,hf⟩:=run
  rw [hQ] at hf
  rcases hf with ⟨hnb,e,he,rfl⟩ | ⟨d,hB,hf⟩
  ·exact .inl ⟨fun _=>hnb,e,he,fun H=>hg.over (by simp [noIds]) (by simp [plainV,plainVs]) H⟩
  ·exact .inr ⟨d,hN,hB,fun H=>hg.frzR (by simp [noIds]) hf H⟩
 ·have run:∃ r H1,Good Tryz.prog σ n_ref9_New [nds L] Hp.empty r H1∧r=.tup [.lit (.pointer none),I 3]:=by
   refine ref9_New.run ?_
   have h1:((4096:Int)<(L.length:Int)):=by omega
   simp [h1]
  obtain ⟨r,H1,hg,rfl⟩:=run
  exact .inl ⟨fun h=>absurd h hN,3,by decide,fun H=>hg.over (by simp [noIds]) (by simp [plainV,plainVs]) H⟩
end Go.Proofs.YthdcghnjndhecaaGreat.Ev
namespace Go.Proofs.YthdcghnjndhecaaGreat.Ev
set_option linter.unusedVariables false
set_option linter.unusedSimpArgs false
variable {σ:Sig}
theorem range_get {n k:Nat} (h:k<n):(List.range n)[k]?=some k:=by
 rw [List.getElem?_range h]
theorem at_ok (L:List Nd) (d:List Nat) (hN:L.length≤4096) {e:Nat} (he:e<L.length) (H:Hp):Good Tryz.prog σ n_dom_Tree_at [domT L d,I (e:Int)] H (.agg (elE L d e)) H:=by
 obtain ⟨Q,hQ⟩:∃ Q:AV→Hp→Prop,∀ r H1,Q r H1 ↔ r=.agg (elE L d e):=⟨_,fun _ _=>Iff.rfl⟩
 have run:∃ r H1,Good Tryz.prog σ n_dom_Tree_at [domT L d,I (e:Int)] Hp.empty r H1∧Q r H1:=by
  refine dom_Tree_at.run ?_
  have h1:¬ ((e:Int)<0):=by omega
  have h2:¬ ((L.length:Int)≤e):=by omega
  have h3:¬ (L.length≤e):=by omega
  have hl:(elE L d e).length=9:=rfl
  have ho:(elE L d e).all AV.one=true:=by simp [elE,rowE,encNd,elC]
  have ho':∀ x ∈ elE L d e,AV.one x=true:=List.all_eq_true.1 ho
  simp [domT,h1,h2,h3,ix_map (range_get he)]
  simp only [ldL_all hl,bnd_some]
  simp [hl,overlay_all]
  rw [if_pos ho',bnd_some]
  simp [ldL_all hl,hQ]
 obtain ⟨r,H1,hg,hr⟩:=run
 rw [hQ] at hr
 subst hr
 exact hg.frzR (by simp [noIds,noId_domT,noId]) (.refl (by simp only [noId]; exact noId_elE L d e)) H
theorem View_ok (L:List Nd) (d:List Nat) (hN:L.length≤4096) {e:Nat} (he:e<L.length) (H:Hp):Good Tryz.prog σ n_dom_Tree_View [domT L d,I (e:Int)] H (.agg (encNd (lowN (ndAt L e)))) H:=by
 obtain ⟨Q,hQ⟩:∃ Q:AV→Hp→Prop,∀ r H1,Q r H1 ↔ r=.agg (encNd (lowN (ndAt L e))):=⟨_,fun _ _=>Iff.rfl⟩
 have run:∃ r H1,Good Tryz.prog σ n_dom_Tree_View [domT L d,I (e:Int)] Hp.empty r H1∧Q r H1:=by
  refine dom_Tree_View.run ?_
  simp
  refine callK_of (at_ok L d hN he _) ?_
  have:(elE L d e).take 5=encNd (lowN (ndAt L e)):=rfl
  simp [this,overlay_all,hQ]
  rw [overlay_all (by simp),ldL_nd]
  rfl
 obtain ⟨r,H1,hg,hr⟩:=run
 rw [hQ] at hr
 subst hr
 exact hg.frzR (by simp [noIds,noId_domT,noId]) (.refl (by simp only [noId]; exact noId_Nd _)) H
theorem Parent_ok (L:List Nd) (d:List Nat) (hN:L.length≤4096) {e:Nat} (he:e<L.length) (H:Hp):Good Tryz.prog σ n_dom_Tree_Parent [domT L d,I (e:Int)] H (I (par L e)) H:=by
 refine good_by (fun K hK=>dom_Tree_Parent.run ?_) (by simp [noIds,noId_domT,noId]) rfl H
 have h1:¬ ((e:Int)<0):=by omega
 have h2:¬ ((L.length:Int)≤e):=by omega
 have h3:¬ (L.length≤e):=by omega
 simp [domT,h1,h2,h3,ix_map (range_get he),elE,rowE,encNd]
 exact hK _
theorem Place_ok (L:List Nd) (d:List Nat) (hN:L.length≤4096) {e:Nat} (he:e<L.length) (H:Hp):Good Tryz.prog σ n_dom_Tree_Place [domT L d,I (e:Int)] H (I (place L e)) H:=by
 refine good_by (fun K hK=>dom_Tree_Place.run ?_) (by simp [noIds,noId_domT,noId]) rfl H
 refine callK_of (at_ok L d hN he _) ?_
 simp [elE,rowE,encNd]
 exact hK _
theorem Before_ok (L:List Nd) (d:List Nat) (hN:L.length≤4096) {e:Nat} (he:e<L.length) (H:Hp):Good Tryz.prog σ n_dom_Tree_Before [domT L d,I (e:Int)] H (I (before L e)) H:=by
 refine good_by (fun K hK=>dom_Tree_Before.run ?_) (by simp [noIds,noId_domT,noId]) rfl H
 refine callK_of (at_ok L d hN he _) ?_
 simp [elE,rowE,encNd]
 exact hK _
def childI (L:List Nd) (e k:Nat):Int:=match (kids L L.length e)[k]? with | some j=>j | none=>-1
theorem Child_ok (L:List Nd) (d:List Nat) (hN:L.length≤4096) {e k:Nat} (he:e<L.length) (H:Hp):Good Tryz.prog σ n_dom_Tree_Child [domT L d,I (e:Int),I (k:Int)] H (I (childI L e k)) H:=by
 refine good_by (fun K hK=>dom_Tree_Child.run ?_) (by simp [noIds,noId_domT,noId]) rfl H
 refine callK_of (at_ok L d hN he _) ?_
 simp [elE,rowE,encNd,elC]
 split
 ·rename_i h
  have hget:(kids L L.length e)[k]?=some (kids L L.length e)[k]:=List.getElem?_eq_getElem h
  simp [ix_map hget]
  have:=hK Hp.empty
  simpa [childI,hget] using this
 ·rename_i h
  have hget:(kids L L.length e)[k]?=none:=List.getElem?_eq_none (by omega)
  have:=hK Hp.empty
  simpa [childI,hget] using this
theorem Len_ok (L:List Nd) (d:List Nat) (H:Hp):Good Tryz.prog σ n_dom_Tree_Len [domT L d] H (I (L.length:Int)) H:=by
 refine good_by (fun K hK=>dom_Tree_Len.run ?_) (by simp [noIds,noId_domT]) rfl H
 simp [domT]
 exact hK _
theorem is_ok (L:List Nd) (d:List Nat) (e:Int) (H:Hp):Good Tryz.prog σ n_match_is [domT L d,I e] H (Bo (decide (0≤e)&&decide (e<L.length))) H:=by
 refine good_by (fun K hK=>match_is.run ?_) (by simp [noIds,noId_domT,noId]) rfl H
 have e1:eqPtrR .neq (domT L d) (.lit (.pointer none))=some (Bo true):=rfl
 rw [e1]
 simp
 split
 ·rename_i h
  refine callK_of (Len_ok L d _) ?_
  simp
  simpa [h] using hK Hp.empty
 ·rename_i h
  simpa [h] using hK Hp.empty
def lastB (L:List Nd) (e:Nat):Bool:=decide (par L e<0)||decide (childI L (par L e).toNat (place L e).toNat<0)
theorem par_bd {L:List Nd} {N:Nat} {d:List Nat} (hB:Built L N d) {e:Nat} (he:e<N):par L e=-1∨∃ p:Nat,par L e=p∧p<e:=by
 by_cases h0:e=0
 ·subst h0; exact .inl (hB.root he).1
 ·obtain ⟨p,x,h1,h2,_⟩:=hB.step e (by omega) he
  exact .inr ⟨p,h1,h2⟩
end Go.Proofs.YthdcghnjndhecaaGreat.Ev
namespace Go.Proofs.YthdcghnjndhecaaGreat.Ev
set_option linter.unusedVariables false
set_option linter.unusedSimpArgs false
variable {σ:Sig}
def HasC (σ:Sig):Prop:=∀ (s t:ByteArray) (H:Hp),s.data.size<4294967281→Good Tryz.prog σ n_strings_Contains [Sx s,Sx t] H (Bo (decide (0≤Go.Lib.index (tl s) (tl t)))) H
theorem white_ok (c:UInt8) (H:Hp):Good Tryz.prog σ n_match_white [.lit (.int .u8 c.toNat)] H (Bo (wht c)) H:=by
  refine good_by (fun K hK=>match_white.run ?_) (by simp [noIds,noId]) rfl H
  have hK:=hK Hp.empty
  simp only [b_eql,bnd_some,ifB_lit,decide_eq_true_eq]
  split
  · rename_i h
    rwa [show wht c = true by have : c.toNat = 9 := by omega
                              simp [wht,this]] at hK
  rename_i h9
  split
  · rename_i h
    rwa [show wht c = true by have : c.toNat = 10 := by omega
                              simp [wht,this]] at hK
  rename_i h10
  split
  · rename_i h
    rwa [show wht c = true by have : c.toNat = 12 := by omega
                              simp [wht,this]] at hK
  rename_i h12
  split
  · rename_i h
    rwa [show wht c = true by have : c.toNat = 13 := by omega
                              simp [wht,this]] at hK
  rename_i h13
  have e:wht c=decide ((c.toNat:Int)=32):=by
    have a9:¬ c.toNat=9:=by omega
    have a10:¬ c.toNat=10:=by omega
    have a12:¬ c.toNat=12:=by omega
    have a13:¬ c.toNat=13:=by omega
    by_cases h:c.toNat=32
    · simp [wht,h]
    · have h':¬ ((c.toNat:Int)=32):=by omega
      simp [wht,a9,a10,a12,a13,h,h']
  rwa [e] at hK
theorem preL_ok (s p:ByteArray) (H:Hp):Good Tryz.prog σ n_internal_stringslite_HasPrefix [Sx s,Sx p] H (Bo (preB (tl s) (tl p))) H:=by
 refine good_by (fun K hK=>internal_stringslite_HasPrefix.run ?_) (by simp [noIds,noId]) rfl H
 simp only [len_str,bnd_some,b_geq,ifB_lit,decide_eq_true_eq]
 split
 ·rename_i h
  rw [sl_str0 (by omega),bnd_some]
  simp only [b_seql,bnd_some]
  have:=pre_take (tl s) (tl p) (by rw [tl_len,tl_len]; omega)
  rw [tl_len,mk_tl] at this
  rw [this]
  exact hK _
 ·rename_i h
  have:=pre_long (s:=tl s) (p:=tl p) (by rw [tl_len,tl_len]; omega)
  rw [this] at hK
  exact hK _
theorem pre_ok (s p:ByteArray) (H:Hp):Good Tryz.prog σ n_strings_HasPrefix [Sx s,Sx p] H (Bo (preB (tl s) (tl p))) H :=
 good_by (fun K hK=>strings_HasPrefix.run (callK_of (preL_ok s p _) (hK _))) (by simp [noIds,noId]) rfl H
theorem sufL_ok (s p:ByteArray) (hs:s.data.size<9000000000000000000) (H:Hp):Good Tryz.prog σ n_internal_stringslite_HasSuffix [Sx s,Sx p] H (Bo (sufB (tl s) (tl p))) H:=by
 refine good_by (fun K hK=>internal_stringslite_HasSuffix.run ?_) (by simp [noIds,noId]) rfl H
 simp only [len_str,bnd_some,b_geq,ifB_lit,decide_eq_true_eq]
 split
 ·rename_i h
  simp only [b_sub,bnd_some]
  have e:wr .i64 ((s.data.size:Int) - p.data.size)=((s.data.size - p.data.size:Nat):Int):=by rw [wr64 (by omega) (by omega)]; omega
  rw [e,sl_strE (by omega),bnd_some]
  simp only [b_seql,bnd_some]
  have:=suf_drop (tl s) (tl p) (by rw [tl_len,tl_len]; omega)
  rw [tl_len,tl_len,mk_tl] at this
  rw [this]
  exact hK _
 ·rename_i h
  have:=suf_long (s:=tl s) (p:=tl p) (by rw [tl_len,tl_len]; omega)
  rw [this] at hK
  exact hK _
theorem suf_ok (s p:ByteArray) (hs:s.data.size<9000000000000000000) (H:Hp):Good Tryz.prog σ n_strings_HasSuffix [Sx s,Sx p] H (Bo (sufB (tl s) (tl p))) H :=
 good_by (fun K hK=>strings_HasSuffix.run (callK_of (sufL_ok s p hs _) (hK _))) (by simp [noIds,noId]) rfl H
def hasB (l:List ByteArray) (s:ByteArray):Bool:=l.any fun x=>decide (x=s)
theorem has_L0 {l:List ByteArray} (hl:l.length≤reachBytes) {s:ByteArray} {K:AV→Hp→Prop}:∀ (m k:Nat) (H:Hp),l.length - m=k→m≤l.length→(∀ H,K (Bo (hasB (l.drop m) s)) H)→match_has.L0 σ K (Sx s) (strs l) (I l.length) (I m) H:=by
 intro m k
 revert m
 induction k with
 | zero =>
  intro m H hk hm hK
  have:m=l.length:=by omega
  subst this
  refine match_has.L0_step ?_
  simp
  simpa [hasB] using hK H
 | succ k ih =>
  intro m H hk hm hK
  have hlt:m<l.length:=by omega
  obtain ⟨x,hx⟩:=get_lt hlt
  rw [drop_get hx] at hK
  refine match_has.L0_step ?_
  simp [strs,hlt,ix_map hx]
  split
  ·rename_i h
   have:=hK H
   simpa [hasB,h] using this
  ·rename_i h
   rw [wr_succL hlt hl (by decide)]
   refine ih (m+1) H (by omega) (by omega) fun H'=>?_
   have:=hK H'
   simpa [hasB,h] using this
theorem has_ok (l:List ByteArray) (hl:l.length≤reachBytes) (s:ByteArray) (H:Hp):Good Tryz.prog σ n_match_has [strs l,Sx s] H (Bo (hasB l s)) H:=by
 refine good_by (fun K hK=>match_has.run ?_) (by simp [noIds,noId]) rfl H
 simp
 exact has_L0 hl 0 _ _ rfl (Nat.zero_le _) (by simpa using hK)
section
attribute [local irreducible] match_words_1.L0 match_words_1.L1
theorem word_round {js:Nat→AV} {K:AV→Hp→Prop} {H:Hp} {w t:ByteArray} {b:AV} (g0:H.get 0=some (.cells [Sx t] true)) (g1:H.get 1=some (.cells [b] true)) (g3:H.get 3=some (.loop (match_word.R0 js (.ptr 0 0) (.ptr 1 0)) .ready none))
  (hT:w=t→K (Bo false) (((H.set 3 (some (.loop (match_word.R0 js (.ptr 0 0) (.ptr 1 0)) .busy none))).set 1 (some (.cells [Bo true] true))).set 3 (some (.loop (match_word.R0 js (.ptr 0 0) (.ptr 1 0)) .done (some .ret)))))
  (hF:w≠t→K (Bo true) ((H.set 3 (some (.loop (match_word.R0 js (.ptr 0 0) (.ptr 1 0)) .busy none))).set 3 (some (.loop (match_word.R0 js (.ptr 0 0) (.ptr 1 0)) .ready none)))):callV Tryz.prog σ (.yl 3) [Sx w] H K:=by
 refine match_word.R0_round g3 ⟨g3,?_⟩
 simp only [bnd_some,ld_ptr,hp_get_set]
 simp only [show ¬ ((0:Nat)=3) by decide,if_false,g0,ldO_cells,List.drop_zero,ldL_one,bnd_some,b_seql,ifB_lit,decide_eq_true_eq]
 split
 ·rename_i h
  simp only [st_bool,hp_get_set,show ¬ ((1:Nat)=3) by decide,if_false,g1,stO_cells]
  rw [if_pos (by simp),bnd_some]
  refine ⟨by simp,?_⟩
  simpa using hT h
 ·rename_i h
  exact ⟨by simp,hF h⟩
theorem ld2 {H:Hp} {id:Nat} {x:AV} (g:H.get id=some (.cells [x] true)):ldA false 1 H (.ptr id 0)=some x:=by simp [g]
theorem words_L0 {js:Nat→AV} {K:AV→Hp→Prop} {t:ByteArray} {b:AV} {N:Nat} (hN:N<9000000000000000000):∀ (f:Nat) (l:List UInt8) (H:Hp) (y3:AV),l.length<f→l.length≤N→H.get 0=some (.cells [Sx t] true)→H.get 1=some (.cells [b] true)→H.get 2=some (.cells [Sx (mk l)] true)→H.get 3=some (.loop (match_word.R0 js (.ptr 0 0) (.ptr 1 0)) .ready none) →
  (tl t ∈ wordsB l→∀ H,H.get 1=some (.cells [Bo true] true)→H.get 3=some (.loop (match_word.R0 js (.ptr 0 0) (.ptr 1 0)) .done (some .ret))→K (.tup []) H) →
  (tl t ∉ wordsB l→∀ H,H.get 1=some (.cells [b] true)→H.get 3=some (.loop (match_word.R0 js (.ptr 0 0) (.ptr 1 0)) .ready none)→K (.tup []) H) →
  match_words_1.L0 σ K (.yl 3) (.ptr 2 0) y3 H:=by
 intro f
 induction f with
 | zero=>intro l H y3 h; omega
 | succ f ih =>
  intro l H y3 hf hlN g0 g1 g2 g3 hT hF
  refine match_words_1.L0_step ?_
  simp only [ld2 g2,bnd_some,b_sneq,ifB_lit]
  by_cases hl:l=[]
  ·subst hl
   simp only [show (mk []=(⟨#[]⟩:ByteArray)) from rfl,decide_true,Bool.not_true,Bool.false_eq_true,if_false]
   exact hF (by simp [wordsB_nil]) H g1 g3
  ·have hmk:¬ (mk l=⟨#[]⟩):=fun h=>hl (mk_inj (h.trans (show (⟨#[]⟩:ByteArray)=mk [] from rfl)))
   have hpos:0<l.length:=List.length_pos_iff.2 hl
   simp only [hmk,decide_false,Bool.not_false,if_true]
   have hwl:=wl_le l
   rw [wordsB_eq hl] at hT hF
   have hsz:(mk l).data.size=l.length:=mk_size l
   have rest:∀ (H:Hp),H.get 0=some (.cells [Sx t] true)→H.get 1=some (.cells [b] true)→H.get 2=some (.cells [Sx (mk l)] true)→H.get 3=some (.loop (match_word.R0 js (.ptr 0 0) (.ptr 1 0)) .ready none) →
     (wl l=0∨tl t≠l.take (wl l)) →
     bnd (ldA false 1 H (.ptr 2 0)) fun x23=>bnd (binR .add (I (wl l:Nat)) (I 1)) fun x24=>bnd (ldA false 1 H (.ptr 2 0)) fun x25=>bnd (lenStr x25) fun x26=>bnd (minA [x24,x26]) fun x27=>bnd (slStr x23 (some x27) none) fun x28=>bnd (stA 1 H (.ptr 2 0) x28) fun H29=>match_words_1.L0 σ K (.yl 3) (.ptr 2 0) (I (wl l:Nat)) H29:=by
    intro H g0 g1 g2 g3 hno
    simp only [ld2 g2,bnd_some,b_add,len_str,hsz]
    rw [wr_succ (by omega)]
    have hmin:minA [I ((wl l+1:Nat):Int),I (l.length:Int)]=some (I ((min (wl l+1) l.length:Nat):Int)):=by
     simp only [minA,toI,List.foldl,minStep]
     congr 2
     split
     ·congr 2; omega
     ·congr 2; omega
    rw [hmin,bnd_some,sl_strE (by rw [hsz]; omega),bnd_some]
    simp only [st_str,g2,stO_cells]
    rw [if_pos (by simp),bnd_some,tl_mk]
    have hdrop:l.drop (min (wl l+1) l.length)=l.drop (wl l+1):=by
     by_cases h:wl l+1≤l.length
     ·rw [Nat.min_eq_left h]
     ·rw [Nat.min_eq_right (by omega),List.drop_of_length_le (Nat.le_refl _),List.drop_of_length_le (by omega)]
    rw [hdrop]
    refine ih (l.drop (wl l+1)) _ _ (by simp; omega) (by simp; omega) (by simp [g0]) (by simp [g1]) (by simp) (by simp [g3]) (fun h=>hT ?_) (fun h=>hF ?_)
    ·split
     ·rename_i h0; rw [h0] at h; exact h
     ·exact List.mem_cons_of_mem _ h
    ·split
     ·rename_i h0; rw [h0] at h; exact h
     ·rename_i h0
      rcases hno with h1 | h1
      ·exact absurd h1 h0
      ·intro hm
       rcases List.mem_cons.1 hm with h2 | h2
       ·exact h1 h2
       ·exact h h2
   have stop:∀ (H:Hp),H.get 0=some (.cells [Sx t] true)→H.get 1=some (.cells [b] true)→H.get 2=some (.cells [Sx (mk l)] true)→H.get 3=some (.loop (match_word.R0 js (.ptr 0 0) (.ptr 1 0)) .ready none) →
     bnd (binR .gtr (I (wl l:Nat)) (I 0)) fun x10=>ifB x10 (bnd (ldA false 1 H (.ptr 2 0)) fun x11=>bnd (slStr x11 none (some (I (wl l:Nat)))) fun x12=>callV Tryz.prog σ (.yl 3) [x12] H fun x13 H14=>bnd (unR .not x13) fun x15=>ifB x15 (K (.tup []) H14) (bnd (ldA false 1 H14 (.ptr 2 0)) fun x16=>bnd (binR .add (I (wl l:Nat)) (I 1)) fun x17=>bnd (ldA false 1 H14 (.ptr 2 0)) fun x18=>bnd (lenStr x18) fun x19=>bnd (minA [x17,x19]) fun x20=>bnd (slStr x16 (some x20) none) fun x21=>bnd (stA 1 H14 (.ptr 2 0) x21) fun H22=>match_words_1.L0 σ K (.yl 3) (.ptr 2 0) (I (wl l:Nat)) H22))
      (bnd (ldA false 1 H (.ptr 2 0)) fun x23=>bnd (binR .add (I (wl l:Nat)) (I 1)) fun x24=>bnd (ldA false 1 H (.ptr 2 0)) fun x25=>bnd (lenStr x25) fun x26=>bnd (minA [x24,x26]) fun x27=>bnd (slStr x23 (some x27) none) fun x28=>bnd (stA 1 H (.ptr 2 0) x28) fun H29=>match_words_1.L0 σ K (.yl 3) (.ptr 2 0) (I (wl l:Nat)) H29):=by
    intro H g0 g1 g2 g3
    simp only [b_gtr,bnd_some,ifB_lit,decide_eq_true_eq]
    split
    ·rename_i h0
     have h0':wl l≠0:=by omega
     rw [if_neg h0'] at hT hF
     simp only [ld2 g2,bnd_some]
     rw [sl_str0 (by rw [hsz]; omega),bnd_some,tl_mk]
     refine word_round g0 g1 g3 (fun he=>?_) (fun he=>?_)
     ·simp only [u_not,bnd_some,ifB_lit,Bool.not_false,if_true]
      refine hT ?_ _ (by simp) (by simp)
      rw [← he,tl_mk]; simp
     ·simp only [u_not,bnd_some,ifB_lit,Bool.not_true,Bool.false_eq_true,if_false]
      refine rest _ ?_ ?_ ?_ ?_ (.inr fun h=>he ?_)
      ·simp [g0]
      ·simp [g1]
      ·simp [g2]
      ·simp
      ·rw [← h,mk_tl]
    ·rename_i h0
     exact rest H g0 g1 g2 g3 (.inl (by omega))
   have L1:∀ (m k:Nat) (H:Hp),wl l - k=m→k≤wl l→H.get 0=some (.cells [Sx t] true)→H.get 1=some (.cells [b] true)→H.get 2=some (.cells [Sx (mk l)] true)→H.get 3=some (.loop (match_word.R0 js (.ptr 0 0) (.ptr 1 0)) .ready none)→match_words_1.L1 σ K (.yl 3) (.ptr 2 0) (I (k:Int)) H:=by
    intro m
    induction m with
    | zero =>
     intro k H hm hk g0 g1 g2 g3
     have:k=wl l:=by omega
     subst this
     refine match_words_1.L1_step ?_
     simp only [ld2 g2,bnd_some,len_str,hsz,b_lss,ifB_lit,decide_eq_true_eq]
     split
     ·rename_i hlt
      obtain ⟨c,hc⟩:=get_lt (l:=l) (k:=wl l) (by omega)
      rw [ix_str (by rw [tl_mk]; exact hc),bnd_some]
      refine callK_of (white_ok c H) ?_
      rw [wl_at hc]
      simp only [u_not,bnd_some,ifB_lit,Bool.not_true,Bool.false_eq_true,if_false]
      exact stop H g0 g1 g2 g3
     ·have:=stop H g0 g1 g2 g3
      simp only [ld2 g2,bnd_some] at this
      exact this
    | succ m ihm =>
     intro k H hm hk g0 g1 g2 g3
     obtain ⟨c,hc,hw⟩:=wl_lt (l:=l) (k:=k) (by omega)
     have hkl:=(List.getElem?_eq_some_iff.1 hc).1
     refine match_words_1.L1_step ?_
     have h1:(k:Int)<l.length:=by omega
     simp only [ld2 g2,bnd_some,len_str,hsz,b_lss,ifB_lit,decide_eq_true_eq,h1,if_true]
     rw [ix_str (by rw [tl_mk]; exact hc),bnd_some]
     refine callK_of (white_ok c H) ?_
     rw [hw]
     simp only [u_not,bnd_some,ifB_lit,Bool.not_false,if_true,b_add]
     rw [wr_succ (by omega)]
     exact ihm (k+1) H (by omega) (by omega) g0 g1 g2 g3
   exact L1 _ 0 H rfl (Nat.zero_le _) g0 g1 g2 g3
end
def wordB (s t:ByteArray):Bool:=decide (tl t ∈ wordsB (tl s))
theorem word_ok (s t:ByteArray) (hs:s.data.size<9000000000000000000) (H:Hp):Good Tryz.prog σ n_match_word [Sx s,Sx t] H (Bo (wordB s t)) H:=by
 refine good_by (fun K hK=>match_word.run ?_) (by simp [noIds,noId]) rfl H
 have hbx:∀ (x:ByteArray) (H:Hp) (K:AV→Hp→Prop),boxK (Sx x) H K=K (.ptr H.n 0) (H.new (.cells [Sx x] true)):=fun x H K=>boxK_one rfl rfl H K
 rw [hbx]
 simp only [allocK_eq]
 refine match_words.run ?_
 rw [hbx]
 intro js
 simp only [rangeK_fn]
 refine match_words_1.run ?_
 refine words_L0 (js:=js) (t:=t) (b:=Bo false) (N:=(tl s).length) (by rw [tl_len]; exact hs) ((tl s).length+1) (tl s) _ _ (by omega) (Nat.le_refl _) (by simp [Hp.empty]) (by simp [Hp.empty]) (by simp [Hp.empty]) (by simp [Hp.empty]) (fun hm H g1 g3=>?_) (fun hm H g1 g3=>?_)
 ·have e3:H.get (((Hp.empty.new (Blk.cells [Sx t] true)).new (Blk.cells [AV.lit (Value.bool false)] true)).new (Blk.cells [Sx s] true)).n=some (.loop (match_word.R0 js (.ptr 0 0) (.ptr 1 0)) .done (some .ret)):=g3
  rw [e3,endK_ret]
  have g1':(H.set (((Hp.empty.new (Blk.cells [Sx t] true)).new (Blk.cells [AV.lit (Value.bool false)] true)).new (Blk.cells [Sx s] true)).n none).get (Hp.empty.new (Blk.cells [Sx t] true)).n=some (.cells [Bo true] true):=by
   rw [hp_get_set,if_neg (by simp [Hp.empty])]; exact g1
  rw [ld2 g1',bnd_some]
  have:=hK (H.set (((Hp.empty.new (Blk.cells [Sx t] true)).new (Blk.cells [AV.lit (Value.bool false)] true)).new (Blk.cells [Sx s] true)).n none)
  simpa [wordB,hm] using this
 ·have e3:H.get (((Hp.empty.new (Blk.cells [Sx t] true)).new (Blk.cells [AV.lit (Value.bool false)] true)).new (Blk.cells [Sx s] true)).n=some (.loop (match_word.R0 js (.ptr 0 0) (.ptr 1 0)) .ready none):=g3
  rw [e3,endK_ready]
  have g1':(H.set (((Hp.empty.new (Blk.cells [Sx t] true)).new (Blk.cells [AV.lit (Value.bool false)] true)).new (Blk.cells [Sx s] true)).n none).get (Hp.empty.new (Blk.cells [Sx t] true)).n=some (.cells [Bo false] true):=by
   rw [hp_get_set,if_neg (by simp [Hp.empty])]; exact g1
  rw [st_bool,g1',stO_cells,if_pos (by simp),bnd_some,ld2 (x:=Bo false) (by simp),bnd_some]
  have hw:wordB s t=false:=by simp [wordB,hm]
  rw [hw] at hK
  exact hK _
def emp:ByteArray:=⟨#[]⟩
def soB (s:ByteArray) (a:At):Bool :=
 if a.op=0 then true else if a.op=1 then decide (s=a.text) else if a.op=2 then !decide (a.text=emp)&&wordB s a.text
 else if a.op=3 then decide (s=a.text)||preB (tl s) (tl a.text++[45]) else if a.op=4 then !decide (a.text=emp)&&preB (tl s) (tl a.text)
 else if a.op=5 then !decide (a.text=emp)&&sufB (tl s) (tl a.text) else if a.op=6 then !decide (a.text=emp)&&decide (0≤Go.Lib.index (tl s) (tl a.text)) else false
structure AtWf (a:At):Prop where
 text:a.text.data.size≤reachBytes
theorem so_ok (hC:HasC σ) (s:ByteArray) (hs:s.data.size<4294967281) (a:At) (ha:AtWf a) (H:Hp):Good Tryz.prog σ n_match_so [Sx s,.agg (encAt a)] H (Bo (soB s a)) H:=by
 refine good_by (fun K hK=>match_so.run ?_) (by simp [noIds,noId,noId_At]) rfl H
 have ht:=ha.text
 rw [reach_eq] at ht
 have g:∀ {H:Hp} {j:Nat},True:=fun {_ _}=>trivial
 simp [encAt]
 unfold soB at hK
 split
 ·rename_i h; simp [h] at hK; exact hK _
 rename_i h0
 simp only [h0,if_false] at hK
 split
 ·rename_i h
  have:=hK (Hp.empty.new (.cells (encAt a) true))
  rw [if_pos h] at this
  simpa [encAt] using this
 rename_i h1
 simp only [h1,if_false] at hK
 split
 ·rename_i h
  simp only [h,if_true] at hK
  split
  ·rename_i he
   have he':a.text=emp:=he
   simp [he'] at hK
   exact hK _
  ·rename_i he
   have he':¬ (a.text=emp):=he
   simp [he'] at hK
   exact callK_of (word_ok s a.text (by omega) _) (hK _)
 rename_i h2
 simp only [h2,if_false] at hK
 split
 ·rename_i h
  simp only [h,if_true] at hK
  split
  ·rename_i he
   simp [he] at hK
   exact hK _
  ·rename_i he
   simp [he] at hK
   rw [b_sadd (by show a.text.data.size+1≤_; omega),bnd_some]
   have:=pre_ok (σ:=σ) s (mk (tl a.text++tl ⟨#[45]⟩))
   rw [tl_mk] at this
   exact callK_of (this _) (hK _)
 rename_i h3
 simp only [h3,if_false] at hK
 split
 ·rename_i h
  simp only [h,if_true] at hK
  split
  ·rename_i he
   have he':a.text=emp:=he
   simp [he'] at hK
   exact hK _
  ·rename_i he
   have he':¬ (a.text=emp):=he
   simp [he'] at hK
   exact callK_of (pre_ok s a.text _) (hK _)
 rename_i h4
 simp only [h4,if_false] at hK
 split
 ·rename_i h
  simp only [h,if_true] at hK
  split
  ·rename_i he
   have he':a.text=emp:=he
   simp [he'] at hK
   exact hK _
  ·rename_i he
   have he':¬ (a.text=emp):=he
   simp [he'] at hK
   exact callK_of (suf_ok s a.text (by omega) _) (hK _)
 rename_i h5
 simp only [h5,if_false] at hK
 split
 ·rename_i h
  simp only [h,if_true] at hK
  split
  ·rename_i he
   have he':a.text=emp:=he
   simp [he'] at hK
   exact hK _
  ·rename_i he
   have he':¬ (a.text=emp):=he
   simp [he'] at hK
   exact callK_of (hC s a.text _ hs) (hK _)
 ·rename_i h
  simp [h] at hK
  exact hK _
def attrB (l:List (ByteArray × ByteArray)) (a:At):Bool:=match l.find? fun p=>decide (p.1=a.name) with
 | some p=>soB p.2 a
 | none=>false
theorem attr_L0 (hC:HasC σ) {l:List (ByteArray × ByteArray)} (hl:l.length≤reachBytes) (ht:∀ p ∈ l,p.2.data.size<4294967281) {a:At} (ha:AtWf a) {K:AV→Hp→Prop} {y3:Nat}:∀ (m k:Nat) (H:Hp),l.length - m=k→m≤l.length→y3<H.n→H.get y3=some (.cells (encAt a) true)→(∀ H,K (Bo (attrB (l.drop m) a)) H)→match_attr.L0 σ K (.ptr y3 0) (.imm 2 (l.map encPr)) (I l.length) (I m) H:=by
 intro m k
 revert m
 induction k with
 | zero =>
  intro m H hk hm hn hg hK
  have:m=l.length:=by omega
  subst this
  refine match_attr.L0_step ?_
  simp
  simpa [attrB] using hK H
 | succ k ih =>
  intro m H hk hm hn hg hK
  have hlt:m<l.length:=by omega
  obtain ⟨x,hx⟩:=get_lt hlt
  have hxl:=ht x (List.mem_of_getElem? hx)
  rw [drop_get hx] at hK
  have hny:y3≠H.n:=by omega
  have h1:(m:Int)<l.length:=by omega
  refine match_attr.L0_step ?_
  have hlx:ldL true 2 (encPr x)=some (.agg (encPr x)):=rfl
  simp only [b_lss,h1,decide_true,bnd_some,ifB_lit,if_true,ix_map hx,ld_ip,hlx,allocK_eq]
  simp [encPr,hny,hg,overlay_all]
  simp only [encAt,ldL_one,bnd_some,b_seql,ifB_lit,decide_eq_true_eq]
  split
  ·rename_i h
   refine callK_of (so_ok hC x.2 hxl a ha _) ?_
   have:attrB (x::l.drop (m+1)) a=soB x.2 a:=by simp [attrB,h]
   rw [this] at hK
   exact hK _
  ·rename_i h
   rw [wr_succL hlt hl (by decide)]
   refine ih (m+1) _ (by omega) (by omega) (by simp; omega) (by simp [hny,hg,encAt]) fun H'=>?_
   have:attrB (x::l.drop (m+1)) a=attrB (l.drop (m+1)) a:=by simp [attrB,h]
   rw [this] at hK
   exact hK _
theorem attr_ok (hC:HasC σ) (n:Nd) (hl:n.attrs.length≤reachBytes) (ht:∀ p ∈ n.attrs,p.2.data.size<4294967281) (a:At) (ha:AtWf a) (H:Hp):Good Tryz.prog σ n_match_attr [.agg (encNd n),.agg (encAt a)] H (Bo (attrB n.attrs a)) H:=by
 refine good_by (fun K hK=>match_attr.run ?_) (by simp [noIds,noId,noId_At,noId_Nd]) rfl H
 simp [encNd]
 exact attr_L0 hC hl ht ha 0 _ _ rfl (Nat.zero_le _) (by simp) (by simp) (by simpa using hK)
end Go.Proofs.YthdcghnjndhecaaGreat.Ev
namespace Go.Proofs.YthdcghnjndhecaaGreat.Ev
set_option linter.unusedVariables false
set_option linter.unusedSimpArgs false
variable {σ:Sig}
structure SmN (n:Nd):Prop where
 classes:n.classes.length≤reachBytes
 attrs:n.attrs.length≤reachBytes
 texts:∀ p ∈ n.attrs,p.2.data.size<4294967281
structure CpOk (c:Cp):Prop where
 ids:c.ids.length≤reachBytes
 classes:c.classes.length≤reachBytes
 attrs:c.attrs.length≤reachBytes
 texts:∀ a ∈ c.attrs,AtWf a
 ps:c.pseudos.length≤reachBytes
def tagB (n:Nd) (c:Cp):Bool:=decide (c.tag=emp)||decide (c.tag=n.tag)
def idB (n:Nd) (x:ByteArray):Bool:=!decide (x=emp)&&decide (x=n.id)
def plainB (n:Nd) (c:Cp):Bool:=tagB n c&&(c.ids.all (idB n)&&(c.classes.all (hasB n.classes)&&c.attrs.all (attrB n.attrs)))
section
attribute [local irreducible] match_asked_plain.L0 match_asked_plain.L1 match_asked_plain.L2
theorem plain_L2 (hC:HasC σ) {n:Nd} (hn:SmN n) {c:Cp} (hc:CpOk c) {K:AV→Hp→Prop} {b7:Nat} {y5 y31 y32 y33 y47 y48 y49:AV}:∀ (m k:Nat) (H:Hp),c.attrs.length - m=k→m≤c.attrs.length→b7<H.n→H.get b7=some (.cells (encNd n) true)→(∀ H,K (Bo ((c.attrs.drop m).all (attrB n.attrs))) H) →
  match_asked_plain.L2 σ K y5 (.ptr b7 0) y31 y32 y33 y47 y48 y49 (.imm 3 (c.attrs.map encAt)) (I c.attrs.length) (I m) H:=by
 intro m k
 revert m
 induction k with
 | zero =>
  intro m H hk hm hb hg hK
  have:m=c.attrs.length:=by omega
  subst this
  refine match_asked_plain.L2_step ?_
  simp
  simpa using hK H
 | succ k ih =>
  intro m H hk hm hb hg hK
  have hlt:m<c.attrs.length:=by omega
  obtain ⟨x,hx⟩:=get_lt hlt
  rw [drop_get hx] at hK
  have h1:(m:Int)<c.attrs.length:=by omega
  have hny:b7≠H.n:=by omega
  refine match_asked_plain.L2_step ?_
  simp only [b_lss,h1,decide_true,bnd_some,ifB_lit,if_true,ix_map hx,ld_ip,ldL_at,allocK_eq]
  simp [encAt,hny,hg,overlay_all]
  have e1:ldL true 3 [Sx x.name,I x.op,Sx x.text]=some (.agg (encAt x)):=rfl
  rw [e1,bnd_some]
  refine callK_of (attr_ok hC n hn.attrs hn.texts x (hc.texts x (List.mem_of_getElem? hx)) _) ?_
  simp only [u_not,bnd_some,ifB_lit]
  cases hb2:attrB n.attrs x with
  | false =>
   simp
   simp [hb2] at hK
   exact hK _
  | true =>
   simp
   rw [wr_succL hlt hc.attrs (by decide)]
   refine ih (m+1) _ (by omega) (by omega) (by simp; omega) (by simp [hny,hg]) fun H'=>?_
   simp [hb2] at hK
   simpa using hK H'
theorem plain_L1 (hC:HasC σ) {n:Nd} (hn:SmN n) {c:Cp} (hc:CpOk c) {K:AV→Hp→Prop} {b5 b7:Nat} {y31 y32 y33 y60 y61 y62:AV}:∀ (m k:Nat) (H:Hp),c.classes.length - m=k→m≤c.classes.length→b7<H.n→H.get b7=some (.cells (encNd n) true)→H.get b5=some (.cells (encCp c) true)→(∀ H,K (Bo ((c.classes.drop m).all (hasB n.classes)&&c.attrs.all (attrB n.attrs))) H) →
  match_asked_plain.L1 σ K (.ptr b5 0) (.ptr b7 0) y31 y32 y33 (strs c.classes) (I c.classes.length) (I m) y60 y61 y62 H:=by
 intro m k
 revert m
 induction k with
 | zero =>
  intro m H hk hm hb hg hg5 hK
  have:m=c.classes.length:=by omega
  subst this
  refine match_asked_plain.L1_step ?_
  simp [hg5]
  exact plain_L2 hC hn hc 0 _ H rfl (Nat.zero_le _) hb hg (by simpa using hK)
 | succ k ih =>
  intro m H hk hm hb hg hg5 hK
  have hlt:m<c.classes.length:=by omega
  obtain ⟨x,hx⟩:=get_lt hlt
  rw [drop_get hx] at hK
  refine match_asked_plain.L1_step ?_
  have h1:(m:Int)<c.classes.length:=by omega
  simp [h1,strs,ix_map hx,hg]
  refine callK_of (has_ok n.classes hn.classes x _) ?_
  simp only [u_not,bnd_some,ifB_lit]
  cases hb2:hasB n.classes x with
  | false =>
   simp
   simp [hb2] at hK
   exact hK _
  | true =>
   simp
   rw [wr_succL hlt hc.classes (by decide)]
   refine ih (m+1) _ (by omega) (by omega) hb hg hg5 fun H'=>?_
   simp [hb2] at hK
   simpa using hK H'
theorem plain_L0 (hC:HasC σ) {n:Nd} (hn:SmN n) {c:Cp} (hc:CpOk c) {K:AV→Hp→Prop} {b5 b7:Nat} {y47 y48 y49 y60 y61 y62:AV}:∀ (m k:Nat) (H:Hp),c.ids.length - m=k→m≤c.ids.length→b7<H.n→H.get b7=some (.cells (encNd n) true)→H.get b5=some (.cells (encCp c) true)→(∀ H,K (Bo ((c.ids.drop m).all (idB n)&&(c.classes.all (hasB n.classes)&&c.attrs.all (attrB n.attrs)))) H) →
  match_asked_plain.L0 σ K (.ptr b5 0) (.ptr b7 0) (strs c.ids) (I c.ids.length) (I m) y47 y48 y49 y60 y61 y62 H:=by
 intro m k
 revert m
 induction k with
 | zero =>
  intro m H hk hm hb hg hg5 hK
  have:m=c.ids.length:=by omega
  subst this
  refine match_asked_plain.L0_step ?_
  simp [hg5]
  exact plain_L1 hC hn hc 0 _ H rfl (Nat.zero_le _) hb hg hg5 (by simpa using hK)
 | succ k ih =>
  intro m H hk hm hb hg hg5 hK
  have hlt:m<c.ids.length:=by omega
  obtain ⟨x,hx⟩:=get_lt hlt
  rw [drop_get hx] at hK
  refine match_asked_plain.L0_step ?_
  have h1:(m:Int)<c.ids.length:=by omega
  simp [h1,strs,ix_map hx,hg]
  split
  ·rename_i h
   have h':x=emp:=h
   simp [idB,h'] at hK
   exact hK _
  ·rename_i h
   have h':¬ (x=emp):=h
   split
   ·rename_i h2
    have h3:idB n x=true:=by simp [idB,h',← h2]
    simp [h3] at hK
    rw [wr_succL hlt hc.ids (by decide)]
    exact ih (m+1) _ (by omega) (by omega) hb hg hg5 fun H'=>by simpa using hK H'
   ·rename_i h2
    simp [idB,h',h2] at hK
    exact hK _
end
theorem plain_ok (hC:HasC σ) {L:List Nd} {d:List Nat} (hN:L.length≤4096) {e:Nat} (he:e<L.length) (hn:SmN (lowN (ndAt L e))) {c:Cp} (hc:CpOk c) (r:List AV) (hr:noIds r=true) (H:Hp) :
  Good Tryz.prog σ n_match_asked_plain [.ip (domT L d::r),I (e:Int),.agg (encCp c)] H (Bo (plainB (lowN (ndAt L e)) c)) H:=by
 refine good_by (fun K hK=>match_asked_plain.run ?_) (by simp [noIds,noId,noId_domT,noId_Cp,hr]) rfl H
 simp
 refine callK_of (View_ok L d hN he _) ?_
 have hgo:∀ H b5 b7,b7<H.n→H.get b7=some (.cells (encNd (lowN (ndAt L e))) true)→H.get b5=some (.cells (encCp c) true)→tagB (lowN (ndAt L e)) c=true→match_asked_plain.L0 σ K (.ptr b5 0) (.ptr b7 0) (strs c.ids) (I c.ids.length) (I 0) (.lit undef) (.lit undef) (.lit undef) (.lit undef) (.lit undef) (.lit undef) H:=by
  intro H b5 b7 hb hg hg5 ht
  unfold plainB at hK
  rw [ht,Bool.true_and] at hK
  exact plain_L0 hC hn hc 0 _ H rfl (Nat.zero_le _) hb hg hg5 (by simpa using hK)
 have hov:overlay [I 0,Sx ⟨#[]⟩,Sx ⟨#[]⟩,.lit (.slice none 0 0),.lit (.slice none 0 0)] 0 (encNd (lowN (ndAt L e)))=encNd (lowN (ndAt L e)):=overlay_all (by simp)
 simp [hov]
 split
 ·rename_i h
  exact hgo _ _ _ (by simp) (by simp) (by simp) (by simp [tagB,show c.tag=emp from h])
 ·rename_i h
  have h':¬ (c.tag=emp):=h
  split
  ·rename_i h2
   refine hgo _ _ _ (by simp) (by simp) (by simp) ?_
   simp [tagB,h2]
  ·rename_i h2
   have:tagB (lowN (ndAt L e)) c=false:=by simp [tagB,h',h2]
   unfold plainB at hK
   rw [this,Bool.false_and] at hK
   exact hK _
def nthB (p a b:Int):Bool:=if a=0 then decide (p=b) else if 0<a then decide (b≤p)&&decide ((p - b) % a=0) else decide (p≤b)&&decide ((b - p) % (-a)=0)
theorem wrU (n:Int):wr .u64 n=n % 18446744073709551616:=by
 unfold wr
 simp [IntKind.wrap,IntKind.signed,IntKind.bits]
theorem wrU_in {n:Int} (h0:0≤n) (h1:n<18446744073709551616):wr .u64 n=n:=by rw [wrU]; omega
theorem subU (a b:Int):wr .u64 (wr .u64 a - wr .u64 b)=(a - b) % 18446744073709551616:=by
 rw [wrU,wrU,wrU]
 omega
theorem nth_ok {p a b:Int} (hp:i64 p) (ha:i64 a) (hb:i64 b) (H:Hp):Good Tryz.prog σ n_match_nth [I p,I a,I b] H (Bo (nthB p a b)) H:=by
 refine good_by (fun K hK=>match_nth.run ?_) (by simp [noIds,noId]) rfl H
 unfold i64 at hp ha hb
 unfold nthB at hK
 simp
 split
 ·rename_i h
  rw [if_pos h] at hK
  exact hK _
 rename_i h0
 rw [if_neg h0] at hK
 split
 ·rename_i h1
  rw [if_pos h1] at hK
  split
  ·rename_i h2
   have e1:wr .u64 a=a:=wrU_in (by omega) (by omega)
   have e2:(p - b) % 18446744073709551616=p - b:=by omega
   rw [subU,e1,e2,b_rem _ _ _ h0,bnd_some,b_eql,bnd_some]
   have e3:(p - b).tmod a=(p - b) % a:=Int.tmod_eq_emod_of_nonneg (by omega)
   rw [e3]
   simpa [h2] using hK Hp.empty
  ·rename_i h2
   simpa [h2] using hK Hp.empty
 ·rename_i h1
  rw [if_neg h1] at hK
  split
  ·rename_i h2
   have e1:wr .u64 (-wr .u64 a)=-a:=by rw [wrU,wrU]; omega
   have e2:(b - p) % 18446744073709551616=b - p:=by omega
   have h3:(-a)≠0:=by omega
   rw [subU,e2]
   rw [e1,b_rem _ _ _ h3,bnd_some,b_eql,bnd_some]
   have e3:(b - p).tmod (-a)=(b - p) % (-a):=Int.tmod_eq_emod_of_nonneg (by omega)
   rw [e3]
   simpa [h2] using hK Hp.empty
  ·rename_i h2
   simpa [h2] using hK Hp.empty
theorem sibs_len (L:List Nd) (e:Nat):(sibs L e).length≤e:=by
 have:=List.length_filter_le (fun j:Nat=>decide (0<j)&&decide (par L j=par L e)) (List.range e)
 simp at this
 unfold sibs; omega
theorem place_bd (L:List Nd) (e:Nat):1≤place L e∧place L e≤(e:Int)+1:=by
 have:=sibs_len L e
 unfold place; omega
theorem lastM_ok {L:List Nd} {d:List Nat} (hB:Built L L.length d) (hN:L.length≤4096) {e:Nat} (he:e<L.length) (r:List AV) (hr:noIds r=true) (H:Hp):Good Tryz.prog σ n_match_asked_last [.ip (domT L d::r),I (e:Int)] H (Bo (lastB L e)) H:=by
 refine good_by (fun K hK=>match_asked_last.run ?_) (by simp [noIds,noId,noId_domT,hr]) rfl H
 simp
 refine callK_of (Parent_ok L d hN he _) ?_
 simp
 unfold lastB at hK
 split
 ·rename_i h
  simpa [h] using hK Hp.empty
 ·rename_i h
  refine callK_of (Place_ok L d hN he _) ?_
  rcases par_bd hB he with h1 | ⟨p,h1,h2⟩
  ·omega
  ·have hpl:=place_bd L e
   obtain ⟨k,hk⟩:∃ k:Nat,place L e=k:=⟨(place L e).toNat,by omega⟩
   rw [h1,hk] at hK ⊢
   refine callK_of (Child_ok L d hN (by omega) _) ?_
   have h3:¬ ((p:Int)<0):=by omega
   simp
   simpa [h3] using hK Hp.empty
def standI (L:List Nd) (e:Nat) (k:Int):Int:=if k=1∨k=2 then par L e else if k=3∨k=4 then before L e else -1
def farB (k:Int):Bool:=decide (k=1)||decide (k=4)
theorem stands_ok {L:List Nd} {d:List Nat} (hN:L.length≤4096) {e:Nat} (he:e<L.length) (k:Int) (r:List AV) (hr:noIds r=true) (H:Hp):Good Tryz.prog σ n_match_asked_stands [.ip (domT L d::r),I (e:Int),I k] H (.tup [I (standI L e k),Bo (farB k)]) H:=by
 refine good_by (fun K hK=>match_asked_stands.run ?_) (by simp [noIds,noId,noId_domT,hr]) (by simp [plainV,plainVs]) H
 have j0:∀ (b:Bool) (H:Hp),(b=true→k=1∨k=2)→(b=false→¬ (k=1∨k=2))→match_asked_stands.J0 σ K (.ip (domT L d::r)) (I (e:Int)) (I k) (I k) (Bo b) (.lit undef) H:=by
  intro b H h1 h2
  refine match_asked_stands.J0_step ?_
  cases b with
  | true =>
   have h:=h1 rfl
   simp
   refine callK_of (Parent_ok L d hN he _) ?_
   have h4:¬ (k=4):=by omega
   simpa [standI,farB,h,h4] using hK H
  | false =>
   have h:=h2 rfl
   have j1:∀ (c:Bool),(c=true→k=3∨k=4)→(c=false→¬ (k=3∨k=4))→match_asked_stands.J1 σ K (.ip (domT L d::r)) (I (e:Int)) (I k) (I k) (Bo false) (Bo c) H:=by
    intro c h3 h4
    refine match_asked_stands.J1_step ?_
    have h5:¬ (k=1):=by omega
    cases c with
    | true =>
     have h6:=h3 rfl
     simp
     refine callK_of (Before_ok L d hN he _) ?_
     have h7:standI L e k=before L e:=by unfold standI; rw [if_neg h,if_pos h6]
     have h8:farB k=decide (k=4):=by unfold farB; simp [h5]
     rw [h7,h8] at hK
     exact hK H
    | false =>
     have h6:=h4 rfl
     have h7:standI L e k=-1:=by unfold standI; rw [if_neg h,if_neg h6]
     have h8:farB k=false:=by unfold farB; simp; omega
     rw [h7,h8] at hK
     exact hK H
   simp
   split
   ·rename_i h3
    exact j1 (decide (k=3)) (fun _=>.inl h3) (fun h=>by simp [h3] at h)
   ·rename_i h3
    refine j1 _ (fun h=>.inr (by simpa using h)) (fun h=>?_)
    simp at h
    omega
 simp
 split
 ·rename_i h
  exact j0 (decide (k=1)) _ (fun _=>.inl h) (fun h'=>by simp [h] at h')
 ·rename_i h
  refine j0 _ _ (fun h=>.inr (by simpa using h)) (fun h'=>?_)
  simp at h'
  omega
end Go.Proofs.YthdcghnjndhecaaGreat.Ev
namespace Go.Proofs.YthdcghnjndhecaaGreat.Ev
set_option linter.unusedVariables false
set_option linter.unusedSimpArgs false
variable {σ:Sig}
structure Lk where
 part:Pt
 lists:List (List Nat)
def encN (n:Nat):List AV:=[I (n:Int)]
def ints (l:List Nat):AV:=.imm 1 (l.map encN)
def encLk (x:Lk):List AV:=encPt x.part++[.imm 1 (x.lists.map fun l=>[ints l])]
def chainV (c:List Lk):AV:=.imm 7 (c.map encLk)
theorem noId_ints (l:List Nat):noId (ints l)=true:=by unfold ints; simp only [noId]; exact noIds_map _ (fun _=>rfl) _
theorem noId_lk (x:Lk):noIds (encLk x)=true:=by
 unfold encLk
 exact noIds_app (noId_Pt _) (by simp only [noIds,noId,noIds_map _ (show ∀ l,noIds [ints l]=true from fun l=>by simp [noIds,noId_ints]),Bool.and_self])
@[simp] theorem len_lk (x:Lk):(encLk x).length=7:=by simp [encLk]
def encQ (n i e:Nat) (a:Bool):List AV:=[I (n:Int),I (i:Int),I (e:Int),Bo a]
abbrev qKK:List KK:=[.int .i64,.int .i64,.int .i64,.bool]
theorem encQ_inj {n i e n' i' e':Nat} {a a':Bool} (h:encQ n i e a=encQ n' i' e' a'):n=n'∧i=i'∧e=e'∧a=a':=by
 simp only [encQ,List.cons.injEq,AV.lit.injEq,Value.int.injEq,Value.bool.injEq,true_and,and_true] at h
 exact ⟨by omega,by omega,by omega,h.2.2.2⟩
def MemoOk (N:Nat) (T:Nat→Nat→Nat→Bool→Bool) (es:List (AV × AV)):Prop:=∀ p ∈ es,∃ n i e a,n<N∧p=(.agg (encQ n i e a),Bo (T n i e a))∧kOk true qKK p.1=true
theorem memo_find {N:Nat} {T:Nat→Nat→Nat→Bool→Bool}:∀ {es:List (AV × AV)},MemoOk N T es→∀ n i e a,mfind (.agg (encQ n i e a)) es=none∨mfind (.agg (encQ n i e a)) es=some (Bo (T n i e a))
 | [],_,n,i,e,a=>.inl rfl
 | (x,y)::r,h,n,i,e,a=>by
  obtain ⟨n',i',e',a',_,hp,_⟩:=h (x,y) (by simp)
  cases hp
  unfold mfind
  by_cases he:AV.agg (encQ n' i' e' a')=.agg (encQ n i e a)
  ·rw [if_pos he]
   obtain ⟨rfl,rfl,rfl,rfl⟩:=encQ_inj (AV.agg.inj he)
   exact .inr rfl
  ·rw [if_neg he]
   exact memo_find (fun p hp=>h p (by simp [hp])) n i e a
theorem memo_put {N:Nat} {T:Nat→Nat→Nat→Bool→Bool} {n i e:Nat} {a:Bool} (hnN:n<N) (hk:kOk true qKK (.agg (encQ n i e a))=true):∀ {es:List (AV × AV)},MemoOk N T es→MemoOk N T (mput (.agg (encQ n i e a)) (Bo (T n i e a)) es)
 | [],_=>fun p hp=>by
  simp [mput] at hp
  subst hp
  exact ⟨n,i,e,a,hnN,rfl,hk⟩
 | (x,y)::r,h=>by
  obtain ⟨n',i',e',a',hn',hp,hk'⟩:=h (x,y) (by simp)
  cases hp
  unfold mput
  by_cases he:AV.agg (encQ n' i' e' a')=.agg (encQ n i e a)
  ·rw [if_pos he]
   intro p hp
   rcases List.mem_cons.1 hp with rfl | hp
   ·exact ⟨n,i,e,a,hnN,by rw [he],by rw [he]; exact hk⟩
   ·exact h p (by simp [hp])
  ·rw [if_neg he]
   intro p hp
   rcases List.mem_cons.1 hp with rfl | hp
   ·exact ⟨n',i',e',a',hn',rfl,hk'⟩
   ·exact memo_put hnN hk (fun p hp=>h p (by simp [hp])) p hp
theorem memo_all {N:Nat} {T:Nat→Nat→Nat→Bool→Bool} {es:List (AV × AV)} (h:MemoOk N T es):es.all (fun p=>kOk true qKK p.1)=true:=by
 rw [List.all_eq_true]
 intro p hp
 obtain ⟨n,i,e,a,_,_,hk⟩:=h p hp
 exact hk
structure Asks (t:AV) (C:List (List Lk)) (T:Nat→Nat→Nat→Bool→Bool) (ab mb:Nat) (cs:AV) (H:Hp):Prop where
 gab:H.get ab=some (.cells [t,cs,.mp mb] true)
 nab:ab<H.n
 nmb:mb<H.n
 ne:ab≠mb
 gcs:Gs 1 H cs (C.map fun c=>[chainV c])
 csm:¬ own cs mb
 memo:∃ es,H.get mb=some (.map es)∧MemoOk C.length T es
structure Kp (mb:Nat) (H H':Hp):Prop where
 up:H.n≤H'.n
 get:∀ (j:Nat),j<H.n→j≠mb→H'.get j=H.get j
theorem Kp.refl (mb:Nat) (H:Hp):Kp mb H H:=⟨Nat.le_refl _,fun _ _ _=>rfl⟩
theorem Kp.trans {mb:Nat} {H H1 H2:Hp} (h:Kp mb H H1) (k:Kp mb H1 H2):Kp mb H H2:=⟨Nat.le_trans h.up k.up,fun j hj hne=>by rw [k.get j (Nat.lt_of_lt_of_le hj h.up) hne,h.get j hj hne]⟩
theorem Kp.new (mb:Nat) (H:Hp) (b:Blk):Kp mb H (H.new b):=by
 refine ⟨by simp,fun j hj _=>?_⟩
 have:j≠H.n:=by omega
 simp [this]
theorem Kp.setN {mb:Nat} {H H':Hp} (h:Kp mb H H') {j:Nat} (hj:H.n≤j) (b:Option Blk):Kp mb H (H'.set j b):=by
 refine ⟨by simpa using h.up,fun i hi hne=>?_⟩
 have:i≠j:=by omega
 simp [this]; exact h.get i hi hne
theorem Asks.keep {t:AV} {C:List (List Lk)} {T:Nat→Nat→Nat→Bool→Bool} {ab mb:Nat} {cs:AV} {H H':Hp} (h:Asks t C T ab mb cs H) (hn:H.n≤H'.n) (hg:∀ j,j<H.n→H'.get j=H.get j):Asks t C T ab mb cs H':=by
 obtain ⟨es,he,hm⟩:=h.memo
 exact ⟨by rw [hg _ h.nab]; exact h.gab,Nat.lt_of_lt_of_le h.nab hn,Nat.lt_of_lt_of_le h.nmb hn,h.ne,h.gcs.keep (fun j hj=>hg j (h.gcs.lt hj)) hn,h.csm,es,by rw [hg _ h.nmb]; exact he,hm⟩
theorem Asks.new {t:AV} {C:List (List Lk)} {T:Nat→Nat→Nat→Bool→Bool} {ab mb:Nat} {cs:AV} {H:Hp} (h:Asks t C T ab mb cs H) (b:Blk):Asks t C T ab mb cs (H.new b):=by
 refine h.keep (by simp) fun j hj=>?_
 have:j≠H.n:=by omega
 simp [this]
theorem Asks.setN {t:AV} {C:List (List Lk)} {T:Nat→Nat→Nat→Bool→Bool} {ab mb:Nat} {cs:AV} {H0 H:Hp} (h0:Asks t C T ab mb cs H0) (h:Asks t C T ab mb cs H) {j:Nat} (hj:H0.n≤j) (b:Option Blk):Asks t C T ab mb cs (H.set j b):=by
 obtain ⟨es,he,hm⟩:=h.memo
 have a1:=h0.nab
 have a2:=h0.nmb
 have e1:ab≠j:=by omega
 have e2:mb≠j:=by omega
 refine ⟨by simp [e1,h.gab],by simpa using h.nab,by simpa using h.nmb,h.ne,h.gcs.keep (fun i hi=>?_) (by simp),h.csm,es,by simp [e2,he],hm⟩
 have:=h0.gcs.lt hi
 have:i≠j:=by omega
 simp [this]
theorem Asks.pure {L:List Nd} {d:List Nat} {C:List (List Lk)} {T:Nat→Nat→Nat→Bool→Bool} {ab mb:Nat} {cs:AV} {H:Hp} (h:Asks (domT L d) C T ab mb cs H) {f:Nat} {xs:List AV} {r:AV}
  (hg:Good Tryz.prog σ f (.ip (domT L d::[])::xs) Hp.empty r Hp.empty) (hx:noIds xs=true) (hr:plainV r=true):Good Tryz.prog σ f (.ptr ab 0::xs) H r H:=by
 refine hg.frzA (.cons (.ptr (fun _=>domT L d) h.gab (fun j y hj=>?_) (fun j y hj=>?_)) (FzL.refl hx)) hr
 ·have:j=0:=by have:=(List.getElem?_eq_some_iff.1 hj).1; simp at this; omega
  subst this; simp
 ·have:j=0:=by have:=(List.getElem?_eq_some_iff.1 hj).1; simp at this; omega
  subst this
  simp at hj; subst hj
  exact .refl (noId_domT L d)
theorem once_sp {t:AV} {C:List (List Lk)} {T:Nat→Nat→Nat→Bool→Bool} {ab mb:Nat} {cs:AV} {H:Hp} (h:Asks t C T ab mb cs H) {n i e:Nat} {a:Bool} (hnN:n<C.length) (hk:kOk true qKK (.agg (encQ n i e a))=true) {fv:AV} {K:AV→Hp→Prop}
  (how:∀ H1 (K1:AV→Hp→Prop),Asks t C T ab mb cs H1→Kp mb H H1→(∀ H2,Asks t C T ab mb cs H2→Kp mb H1 H2→K1 (Bo (T n i e a)) H2)→callV Tryz.prog σ fv [] H1 K1)
  (hK:∀ H',Asks t C T ab mb cs H'→Kp mb H H'→K (Bo (T n i e a)) H'):callK Tryz.prog σ n_match_asked_once [.ptr ab 0,.agg (encQ n i e a),fv] H K:=by
 obtain ⟨es,hes,hm⟩:=h.memo
 have e1:ab≠H.n:=by have:=h.nab; omega
 have e2:mb≠H.n:=by have:=h.nmb; omega
 refine match_asked_once.run ?_
 have hl:ldL true 4 (encQ n i e a)=some (.agg (encQ n i e a)):=rfl
 simp only [boxK_agg,n_ptr,bnd_some,sh_ptr,Nat.zero_add,ld_ptr,hp_get_new,e1,if_false,if_true,h.gab,ldO_cells,List.drop_zero,hl]
 simp only [List.drop,ldL_one,bnd_some,lookR,hp_get_new,e2,if_false,hes,hk,memo_all hm,Bool.and_self,cond_true]
 rcases memo_find hm n i e a with hf | hf
 ·rw [hf]
  simp [mres]
  refine how _ _ (h.new _) (Kp.new _ _ _) fun H2 h2 k2=>?_
  obtain ⟨es2,hes2,hm2⟩:=h2.memo
  have hbox:H2.get H.n=some (.cells (encQ n i e a) true):=by rw [k2.get H.n (by simp) (Ne.symm e2)]; simp
  simp only [h2.gab,ldO_cells,List.drop_succ_cons,List.drop_zero,ldL_one,bnd_some,hbox,hl,putR,hes2,hk,memo_all hm2,isAny_lit,Bool.not_false,Bool.and_self,cond_true]
  refine hK _ ?_ ?_
  ·refine ⟨by simp [h2.ne,h2.gab],by simpa using h2.nab,by simpa using h2.nmb,h2.ne,h2.gcs.keep (fun j hj=>?_) (by simp),h2.csm,_,by simp,memo_put hnN hk hm2⟩
   have:j≠mb:=fun e=>h2.csm (e ▸ hj)
   simp [this]
  ·have:=(Kp.new mb H (.cells (encQ n i e a) true)).trans k2
   exact ⟨by simpa using this.up,fun j hj hne=>by simp [hne]; exact this.get j hj hne⟩
 ·rw [hf]
  simp [mres]
  exact hK _ (h.new _) (Kp.new _ _ _)
end Go.Proofs.YthdcghnjndhecaaGreat.Ev
namespace Go.Proofs.YthdcghnjndhecaaGreat.Ev
set_option linter.unusedVariables false
set_option linter.unusedSimpArgs false
variable {σ:Sig}
def FitC (c:Cp):Prop:=c.ids.length≤5∧c.classes.length≤5∧c.attrs.length≤5∧c.pseudos.length≤5
def FitL:Nat→List Sl→Prop
 | 0,_=>False
 | f+1,l=>∀ s ∈ l,s.length≤60∧∀ p ∈ s,FitC p.c∧∀ q ∈ p.c.pseudos,FitL f q.list
def FitS (f:Nat) (s:Sl):Prop:=s.length≤60∧∀ p ∈ s,FitC p.c∧∀ q ∈ p.c.pseudos,FitL f q.list
def FitP (f:Nat) (p:Pt):Prop:=FitC p.c∧∀ q ∈ p.c.pseudos,FitL f q.list
def DearP (f:Nat) (l:List Sl) (n:Int):Prop:=0≤n∧n≤200*4 ^ f∧(n≤40→FitL f l)
theorem dear_step (f:Nat) (hf:f≤10) (ih:∀ l,slsWf Lmax l→∃ n,(∀ H,Good Tryz.prog σ n_law10_dear [sls l,I ((11 - f:Nat):Int)] H (I n) H)∧DearP f l n) (l:List Sl) (hl:slsWf Lmax l) :
  ∃ n,(∀ H,Good Tryz.prog σ n_law10_dear [sls l,I ((10 - f:Nat):Int)] H (I n) H)∧DearP (f+1) l n:=by
 have h4:4 ^ f ≥ 1:=Nat.one_le_pow _ _ (by omega)
 have h4b:4 ^ f≤1048576:=by
  calc 4 ^ f≤4 ^ 10:=Nat.pow_le_pow_right (by omega) hf
   _=1048576:=by decide
 have hpow:(200*4 ^ (f+1):Int)=800*4 ^ f:=by rw [Int.pow_succ]; omega
 have cast4:((4 ^ f:Nat):Int)=(4:Int) ^ f:=by simp
 let K:AV→Hp→Prop:=fun r _=>∃ n,r=I n∧DearP (f+1) l n
 have stop:∀ H,K (I 100) H:=fun H=>⟨100,rfl,by omega,by rw [hpow]; omega,fun h=>by omega⟩
 have L0:∀ (d k:Nat) (H:Hp) (n:Int) (y7 y8 y9 y10:AV),l.length - k=d→k≤l.length→0≤n→n≤200*4 ^ (f+1)→(n≤40→∀ s ∈ l.take k,FitS f s) →
   law10_dear.L0 σ K (sls l) (I ((10 - f:Nat):Int)) (I n) (I k) y7 y8 y9 y10 H:=by
  intro d
  induction d with
  | zero =>
   intro k H n y7 y8 y9 y10 hd hk hn hn2 hfit
   have e:k=l.length:=by omega
   subst e
   refine law10_dear.L0_step ?_
   simp [sls]
   exact ⟨n,rfl,hn,hn2,fun h=>by simpa [FitL,FitS] using hfit h⟩
  | succ d ihd =>
   intro k H n y7 y8 y9 y10 hd hk hn hn2 hfit
   have hlt:k<l.length:=by omega
   obtain ⟨s,hs⟩:=get_lt hlt
   have hsw:=hl.2 s (List.mem_of_getElem? hs)
   have htake:∀ (P:Sl→Prop),(∀ x ∈ l.take k,P x)→P s→∀ x ∈ l.take (k+1),P x:=by
    intro P h1 h2 x hx
    rw [List.take_add_one,hs] at hx
    simp only [Option.toList_some,List.mem_append,List.mem_singleton] at hx
    rcases hx with hx | rfl
    ·exact h1 x hx
    ·exact h2
   have L1:∀ (d2 j:Nat) (H:Hp) (n:Int) (y9 y10:AV),s.length - j=d2→j≤s.length→s.length≤60→0≤n→n≤200*4 ^ (f+1)→(n≤40→(∀ s ∈ l.take k,FitS f s)∧∀ p ∈ s.take j,FitP f p) →
     law10_dear.L1 σ K (sls l) (I ((10 - f:Nat):Int)) (I n) (I k) (.imm 6 (s.map encPt)) (I j) y9 y10 H:=by
    intro d2
    induction d2 with
    | zero =>
     intro j H n y9 y10 hd2 hj h60 hn hn2 hfit2
     have e:j=s.length:=by omega
     subst e
     refine law10_dear.L1_step ?_
     simp
     rw [wr_succL hlt hl.1]
     exact ihd (k+1) H n _ _ _ _ (by omega) (by omega) hn hn2 fun h=>htake _ (hfit2 h).1 ⟨h60,by simpa [FitP] using (hfit2 h).2⟩
    | succ d2 ihd2 =>
     intro j H n y9 y10 hd2 hj h60 hn hn2 hfit2
     have hjlt:j<s.length:=by omega
     obtain ⟨p,hp⟩:=get_lt hjlt
     have hpw:=(Pt.wf_iff.1 (hsw.2 p (List.mem_of_getElem? hp))).2
     have htake2:∀ (P:Pt→Prop),(∀ x ∈ s.take j,P x)→P p→∀ x ∈ s.take (j+1),P x:=by
      intro P h1 h2 x hx
      rw [List.take_add_one,hp] at hx
      simp only [Option.toList_some,List.mem_append,List.mem_singleton] at hx
      rcases hx with hx | rfl
      ·exact h1 x hx
      ·exact h2
     have L2:∀ (d3 i:Nat) (H:Hp) (n:Int) (id:Nat),H.get id=some (.cells (encCp p.c) true)→p.c.pseudos.length - i=d3→i≤p.c.pseudos.length→FitC p.c→0≤n→n≤200*4 ^ (f+1) →
       (n≤40→(∀ s ∈ l.take k,FitS f s)∧(∀ p ∈ s.take j,FitP f p)∧∀ q ∈ p.c.pseudos.take i,FitL f q.list) →
       law10_dear.L2 σ K (sls l) (I ((10 - f:Nat):Int)) (I n) (I k) (.imm 6 (s.map encPt)) (I j) (.ptr id 0) (I i) H:=by
      intro d3
      induction d3 with
      | zero =>
       intro i H n id hid hd3 hi hc hn hn2 hfit3
       have e:i=p.c.pseudos.length:=by omega
       subst e
       refine law10_dear.L2_step ?_
       simp [hid,encCp_eq]
       rw [wr_succL hjlt hsw.1]
       exact ihd2 (j+1) H n _ _ (by omega) (by omega) h60 hn hn2 fun h=>⟨(hfit3 h).1,htake2 _ (hfit3 h).2.1 ⟨hc,by simpa using (hfit3 h).2.2⟩⟩
      | succ d3 ihd3 =>
       intro i H n id hid hd3 hi hc hn hn2 hfit3
       have hilt:i<p.c.pseudos.length:=by omega
       obtain ⟨q,hq⟩:=get_lt hilt
       have hqw:=(Ps.wf_iff.1 (hpw.ps q (List.mem_of_getElem? hq))).2.2.2
       obtain ⟨m,hm,hm0,hm1,hm2⟩:=ih q.list hqw
       refine law10_dear.L2_step ?_
       have e1:wr .i64 (((10 - f:Nat):Int)+1)=((11 - f:Nat):Int):=by rw [wr64 (by omega) (by omega)]; omega
       simp [hid,encCp_eq,ix_map hq,encPs_eq,hilt]
       split
       ·rename_i hlt100
        refine callK_of (by rw [e1]; exact hm H) ?_
        simp only [b_mul,bnd_some,b_add]
        have e2:wr .i64 (3*m)=3*m:=wr64 (by omega) (by omega)
        have e3:wr .i64 (n+3*m)=n+3*m:=wr64 (by omega) (by omega)
        rw [e2,e3,wr_succL hilt hpw.psL]
        refine ihd3 (i+1) H (n+3*m) id hid (by omega) (by omega) hc (by omega) (by rw [hpow]; omega) fun h=>?_
        have:=hfit3 (by omega)
        refine ⟨this.1,this.2.1,fun x hx=>?_⟩
        rw [List.take_add_one,hq] at hx
        simp only [Option.toList_some,List.mem_append,List.mem_singleton] at hx
        rcases hx with hx | rfl
        ·exact this.2.2 x hx
        ·exact hm2 (by omega)
       ·rw [wr_succL hjlt hsw.1]
        refine ihd2 (j+1) H n _ _ (by omega) (by omega) h60 hn hn2 fun h=>by omega
     refine law10_dear.L1_step ?_
     simp [ix_map hp,ldL_all,overlay_all,encPt_eq,encCp_eq,hjlt]
     split
     ·rename_i hlt100
      have e1:wr .i64 (n+1)=n+1:=wr64 (by omega) (by omega)
      have e2:wr .i64 (n+1+((10 - f:Nat):Int))=n+1+((10 - f:Nat):Int):=wr64 (by omega) (by omega)
      simp only [e1,e2]
      split
      ·exact stop Hp.empty
      split
      ·exact stop Hp.empty
      split
      ·exact stop Hp.empty
      split
      ·exact stop Hp.empty
      ·refine L2 _ 0 _ _ H.n ?_ rfl (Nat.zero_le _) ⟨by omega,by omega,by omega,by omega⟩ (by omega) (by rw [hpow]; omega) fun h=>?_
       ·simp [encCp_eq]
       ·have:=hfit2 (by omega)
        exact ⟨this.1,this.2,fun x hx=>by simp at hx⟩
     ·rw [wr_succL hlt hl.1]
      exact ihd (k+1) H n _ _ _ _ (by omega) (by omega) hn hn2 fun h=>by omega
   refine law10_dear.L0_step ?_
   simp only [sls]
   simp [ix_map hs,encSl,hlt]
   have go:s.length≤60→∀ H,law10_dear.L1 σ K (.imm 1 (l.map encSl)) (I ((10 - f:Nat):Int)) (I n) (I k) (.imm 6 (s.map encPt)) (I 0) y9 y10 H :=
    fun h60 H=>L1 _ 0 H n y9 y10 rfl (Nat.zero_le _) h60 hn hn2 fun h=>⟨hfit h,fun x hx=>by simp at hx⟩
   split
   ·split
    ·split
     ·exact stop Hp.empty
     ·split
      ·exact stop Hp.empty
      ·exact go (by omega) _
    ·split
     ·exact stop Hp.empty
     ·exact go (by omega) _
   ·exact ⟨n,rfl,hn,hn2,fun h=>by omega⟩
 have run:∃ r H1,Good Tryz.prog σ n_law10_dear [sls l,I ((10 - f:Nat):Int)] Hp.empty r H1∧K r H1:=by
  refine law10_dear.run ?_
  simp
  rw [if_neg (by omega)]
  exact L0 _ 0 _ 0 _ _ _ _ rfl (Nat.zero_le _) (by omega) (by rw [hpow]; omega) fun _ x hx=>by simp at hx
 obtain ⟨r,H1,hg,n,rfl,hd⟩:=run
 exact ⟨n,fun H=>hg.over (by simp [noIds,noId]) rfl H,hd⟩
theorem dear_ok:∀ (f:Nat),f≤11→∀ (l:List Sl),slsWf Lmax l→∃ n,(∀ H,Good Tryz.prog σ n_law10_dear [sls l,I ((11 - f:Nat):Int)] H (I n) H)∧DearP f l n
 | 0,_,l,hl=>by
  have run:∃ r H1,Good Tryz.prog σ n_law10_dear [sls l,I ((11 - 0:Nat):Int)] Hp.empty r H1∧r=I 100:=law10_dear.run (by simp)
  obtain ⟨r,H1,hg,rfl⟩:=run
  exact ⟨100,fun H=>hg.over (by simp [noIds,noId]) rfl H,by omega,by simp,fun h=>by omega⟩
 | f+1,hf,l,hl=>by
  have:=dear_step f (by omega) (dear_ok f (by omega)) l hl
  rwa [show 10 - f=11 - (f+1) by omega] at this
theorem Dear_ok (l:List Sl) (hl:slsWf Lmax l):∃ b,(∀ H,Good Tryz.prog σ n_law10_Dear [sls l] H (Bo b) H)∧(b=false→FitL 11 l):=by
 obtain ⟨n,hn,h0,h1,h2⟩:=dear_ok (σ:=σ) 11 (by omega) l hl
 have run:∃ r H1,Good Tryz.prog σ n_law10_Dear [sls l] Hp.empty r H1∧r=Bo (decide (40<n)):=by
  refine law10_Dear.run (callK_of (hn _) ?_)
  simp
 obtain ⟨r,H1,hg,rfl⟩:=run
 exact ⟨_,fun H=>hg.over (by simp [noIds,noId]) rfl H,fun h=>h2 (by simpa using h)⟩
end Go.Proofs.YthdcghnjndhecaaGreat.Ev
namespace Go.Proofs.YthdcghnjndhecaaGreat.Ev
set_option linter.unusedVariables false
set_option linter.unusedSimpArgs false
variable {σ:Sig}
def aheadF (g:Nat→Bool) (L:List Nd) (k:Int):Nat→Nat→Bool
 | 0,_=>false
 | f+1,e=>decide (0≤standI L e k)&&(g (standI L e k).toNat||(farB k&&aheadF g L k f (standI L e k).toNat))
def pseudoB (any:List Sl→Nat→Bool) (L:List Nd) (e:Nat) (q:Ps):Bool :=
 if q.kind=1 then decide (par L e<0) else if q.kind=2 then decide (place L e=1) else if q.kind=3 then lastB L e else if q.kind=4 then decide (place L e=1)&&lastB L e
 else if q.kind=5 then decide (childI L e 0<0) else if q.kind=6 then nthB (place L e) q.a q.b else if q.kind=7 then !any q.list e else if q.kind=8 then any q.list e else false
def compB (any:List Sl→Nat→Bool) (L:List Nd) (e:Nat) (c:Cp):Bool:=plainB (lowN (ndAt L e)) c&&c.pseudos.all (pseudoB any L e)
def frontB (any:List Sl→Nat→Bool) (L:List Nd) (s:Sl):Nat→Nat→Bool
 | 0,e=>match s[0]? with
  | some p=>compB any L e p.c
  | none=>false
 | i+1,e=>match s[i+1]? with
  | some p=>compB any L e p.c&&aheadF (frontB any L s i) L p.comb (e+1) e
  | none=>false
def anyS (any:List Sl→Nat→Bool) (L:List Nd) (l:List Sl) (e:Nat):Bool:=l.any fun s=>!decide (s.length=0)&&frontB any L s (s.length - 1) e
def anyB (L:List Nd):Nat→List Sl→Nat→Bool
 | 0,_,_=>false
 | f+1,l,e=>anyS (anyB L f) L l e
def Nest:Nat→List Sl→Prop
 | 0,_=>False
 | f+1,l=>∀ s ∈ l,∀ p ∈ s,∀ q ∈ p.c.pseudos,Nest f q.list
theorem FitL.nest:∀ {f:Nat} {l:List Sl},FitL f l→Nest f l
 | 0,l,h=>h
 | f+1,l,h=>fun s hs p hp q hq=>(((h s hs).2 p hp).2 q hq).nest
theorem compB_congr {any any':List Sl→Nat→Bool} {L:List Nd} {c:Cp} (h:∀ q ∈ c.pseudos,∀ e,any q.list e=any' q.list e) (e:Nat):compB any L e c=compB any' L e c:=by
 unfold compB
 congr 1
 rw [Bool.eq_iff_iff,List.all_eq_true,List.all_eq_true]
 have:∀ q ∈ c.pseudos,pseudoB any L e q=pseudoB any' L e q:=fun q hq=>by unfold pseudoB; rw [h q hq]
 exact ⟨fun h q hq=>by rw [← this q hq]; exact h q hq,fun h q hq=>by rw [this q hq]; exact h q hq⟩
theorem aheadF_congr {g g':Nat→Bool} {L:List Nd} {k:Int} (h:∀ e,g e=g' e):∀ (f e:Nat),aheadF g L k f e=aheadF g' L k f e
 | 0,e=>rfl
 | f+1,e=>by unfold aheadF; rw [h,aheadF_congr h f]
theorem frontB_congr {any any':List Sl→Nat→Bool} {L:List Nd} {s:Sl} (h:∀ p ∈ s,∀ q ∈ p.c.pseudos,∀ e,any q.list e=any' q.list e):∀ (i e:Nat),frontB any L s i e=frontB any' L s i e
 | 0,e=>by
  unfold frontB
  cases hs:s[0]? with
  | none=>rfl
  | some p=>exact compB_congr (h p (List.mem_of_getElem? hs)) e
 | i+1,e=>by
  unfold frontB
  cases hs:s[i+1]? with
  | none=>rfl
  | some p =>
   simp only
   rw [compB_congr (h p (List.mem_of_getElem? hs)) e,aheadF_congr (frontB_congr h i)]
theorem anyS_congr {any any':List Sl→Nat→Bool} {L:List Nd} {l:List Sl} (h:∀ s ∈ l,∀ p ∈ s,∀ q ∈ p.c.pseudos,∀ e,any q.list e=any' q.list e) (e:Nat):anyS any L l e=anyS any' L l e:=by
 unfold anyS
 rw [Bool.eq_iff_iff,List.any_eq_true,List.any_eq_true]
 have:∀ s ∈ l,(!decide (s.length=0)&&frontB any L s (s.length - 1) e)=(!decide (s.length=0)&&frontB any' L s (s.length - 1) e):=fun s hs=>by rw [frontB_congr (h s hs)]
 exact ⟨fun ⟨s,hs,h⟩=>⟨s,hs,by rw [← this s hs]; exact h⟩,fun ⟨s,hs,h⟩=>⟨s,hs,by rw [this s hs]; exact h⟩⟩
theorem anyB_nest {L:List Nd}:∀ (f g:Nat) (l:List Sl) (e:Nat),Nest f l→f≤g→anyB L g l e=anyB L f l e
 | 0,g,l,e,h,_=>h.elim
 | f+1,0,l,e,h,hfg=>by omega
 | f+1,g+1,l,e,h,hfg=>by
  unfold anyB
  exact anyS_congr (fun s hs p hp q hq e=>anyB_nest f g q.list e (h s hs p hp q hq) (by omega)) e
def AA (L:List Nd):List Sl→Nat→Bool:=anyB L 12
theorem AA_eq {L:List Nd} {f:Nat} {l:List Sl} (h:Nest f l) (hf:f≤12) (e:Nat):anyS (AA L) L l e=AA L l e:=by
 show anyB L 13 l e=anyB L 12 l e
 rw [anyB_nest f 13 l e h (by omega),anyB_nest f 12 l e h hf]
def selC (C:List (List Lk)) (n:Nat):Sl:=(C.getD n []).map (·.part)
def Tru (L:List Nd) (C:List (List Lk)) (n i e:Nat):Bool→Bool
 | false=>frontB (AA L) L (selC C n) i e
 | true=>match (selC C n)[i]? with
  | some p=>aheadF (frontB (AA L) L (selC C n) (i - 1)) L p.comb (e+1) e
  | none=>false
def RepC (R:List Sl→List Nat→Prop) (C:List (List Lk)) (s:Sl) (n:Nat):Prop :=
 ∃ c,C[n]?=some c∧c.map (·.part)=s∧∀ (k:Nat) (x:Lk),c[k]?=some x→x.lists.length=x.part.c.pseudos.length∧∀ (j:Nat) (q:Ps) (ns:List Nat),x.part.c.pseudos[j]?=some q→x.lists[j]?=some ns→R q.list ns
def Rep (C:List (List Lk)):Nat→List Sl→List Nat→Prop
 | 0,_,_=>False
 | f+1,l,ns=>ns.length=l.length∧∀ (i:Nat) (s:Sl) (n:Nat),l[i]?=some s→ns[i]?=some n→RepC (Rep C f) C s n
theorem RepC.sel {R:List Sl→List Nat→Prop} {C:List (List Lk)} {s:Sl} {n:Nat} (h:RepC R C s n):selC C n=s:=by
 obtain ⟨c,hc,hs,_⟩:=h
 unfold selC
 rw [List.getD_eq_getElem?_getD,hc]
 exact hs
structure LkOk (x:Lk):Prop where
 c:CpOk x.part.c
 ps:∀ q ∈ x.part.c.pseudos,i64 q.a∧i64 q.b
 ls:∀ l ∈ x.lists,l.length≤reachBytes
structure Mc (σ:Sig) (L:List Nd) (d:List Nat) (C:List (List Lk)):Prop where
 hC:HasC σ
 hB:Built L L.length d
 hN:L.length≤4096
 sm:∀ e,e<L.length→SmN (lowN (ndAt L e))
 cl:C.length≤reachBytes
 ll:∀ c ∈ C,c.length≤reachBytes
 lk:∀ c ∈ C,∀ x ∈ c,LkOk x
theorem Gs.ld1 {H:Hp} {x v:AV} {rows:List (List AV)} {n:Nat} (h:Gs 1 H x rows) (hn:rows[n]?=some [v]):∃ p,ixaSl 1 x (I (n:Int))=some p∧ldA false 1 H p=some v:=by
 have hlt:=(List.getElem?_eq_some_iff.1 hn).1
 cases h with
 | nil=>simp at hlt
 | sl hl hg hsz =>
  rename_i id ex
  refine ⟨.ptr id (0+(n:Int).toNat*1),ix_sl (by omega) (by omega),?_⟩
  have:=flat_drop hsz hlt
  rw [List.getElem?_eq_getElem hlt] at hn
  rw [Option.some.inj hn] at this
  simp [hg]
  rw [Nat.mul_one] at this
  rw [this]
  simp
section
variable {L:List Nd} {d:List Nat} {C:List (List Lk)}
def AskK (σ:Sig) (L:List Nd) (d:List Nat) (C:List (List Lk)) (f:Nat) (xs:List AV) (b:Bool):Prop :=
 ∀ (ab mb:Nat) (cs:AV) (H:Hp) (K:AV→Hp→Prop),Asks (domT L d) C (Tru L C) ab mb cs H→(∀ H',Asks (domT L d) C (Tru L C) ab mb cs H'→Kp mb H H'→K (Bo b) H')→callK Tryz.prog σ f (.ptr ab 0::xs) H K
theorem AskK.pure {f:Nat} {xs:List AV} {b:Bool} (h:∀ H,Good Tryz.prog σ f (.ip (domT L d::[])::xs) H (Bo b) H) (hx:noIds xs=true):AskK σ L d C f xs b :=
 fun ab mb cs H K hA hK=>callK_of (hA.pure (h Hp.empty) hx rfl) (hK H hA (.refl _ _))
def AnyOk (σ:Sig) (L:List Nd) (d:List Nat) (C:List (List Lk)) (f:Nat):Prop:=∀ (l:List Sl) (ns:List Nat),Rep C f l ns→Nest f l→f≤12→ns.length≤reachBytes→∀ e,e<L.length→AskK σ L d C n_match_asked_any [I (e:Int),ints ns] (AA L l e)
theorem pseudo_sp (M:Mc σ L d C) {f:Nat} (hA:AnyOk σ L d C f) (hf:f≤12) {q:Ps} (hq:i64 q.a∧i64 q.b) {ns:List Nat} (hr:(q.kind=7∨q.kind=8)→Rep C f q.list ns) (hnest:(q.kind=7∨q.kind=8)→Nest f q.list) (hns:ns.length≤reachBytes) {e:Nat} (he:e<L.length) :
  AskK σ L d C n_match_asked_pseudo [I (e:Int),.agg (encPs q),ints ns] (pseudoB (AA L) L e q):=by
 intro ab mb cs H K hA0 hK
 have hpar:=par_bd M.hB he
 have hpl:=place_bd L e
 have e1:ab≠H.n:=by have:=hA0.nab; omega
 have a1:=hA0.new (.cells (encPs q) true)
 have k1:=Kp.new mb H (.cells (encPs q) true)
 refine match_asked_pseudo.run ?_
 simp [encPs_eq,e1,hA0.gab]
 have e2:∀ Ks:AV→Hp→Prop,Ks=Ks:=fun _=>rfl
 unfold pseudoB at hK
 have hH:Hp.new H (.cells [I q.kind,I q.a,I q.b,.imm 1 (q.list.map encSl)] true)=Hp.new H (.cells (encPs q) true):=by rw [encPs_eq]
 rw [hH]
 obtain ⟨H1,hH1⟩:∃ H1,H1=H.new (.cells (encPs q) true):=⟨_,rfl⟩
 have gq:H1.get H.n=some (.cells [I q.kind,I q.a,I q.b,.imm 1 (q.list.map encSl)] true):=by rw [hH1,← encPs_eq]; simp
 rw [← hH1] at a1 k1 ⊢
 have pur:∀ {g:Nat} {xs:List AV} {b:Bool},(∀ H,Good Tryz.prog σ g (.ip (domT L d::[])::xs) H (Bo b) H)→noIds xs=true→Good Tryz.prog σ g (.ptr ab 0::xs) H1 (Bo b) H1:=fun h hx=>a1.pure (h Hp.empty) hx rfl
 split
 ·rename_i h
  rw [if_pos h] at hK
  refine callK_of (Parent_ok L d M.hN he _) ?_
  simpa using hK H1 a1 k1
 rename_i h1
 rw [if_neg h1] at hK
 split
 ·rename_i h
  rw [if_pos h] at hK
  refine callK_of (Place_ok L d M.hN he _) ?_
  simpa using hK H1 a1 k1
 rename_i h2
 rw [if_neg h2] at hK
 split
 ·rename_i h
  rw [if_pos h] at hK
  exact callK_of (pur (fun H=>lastM_ok M.hB M.hN he [] rfl H) rfl) (hK H1 a1 k1)
 rename_i h3
 rw [if_neg h3] at hK
 split
 ·rename_i h
  rw [if_pos h] at hK
  refine callK_of (Place_ok L d M.hN he _) ?_
  simp
  split
  ·rename_i hp
   simp [hp] at hK
   exact callK_of (pur (fun H=>lastM_ok M.hB M.hN he [] rfl H) rfl) (hK H1 a1 k1)
  ·rename_i hp
   simp [hp] at hK
   exact hK H1 a1 k1
 rename_i h4
 rw [if_neg h4] at hK
 split
 ·rename_i h
  rw [if_pos h] at hK
  have:=Child_ok (σ:=σ) L d M.hN (k:=0) he
  refine callK_of (this _) ?_
  simpa using hK H1 a1 k1
 rename_i h5
 rw [if_neg h5] at hK
 split
 ·rename_i h
  rw [if_pos h] at hK
  refine callK_of (Place_ok L d M.hN he _) ?_
  simp [gq]
  refine callK_of (nth_ok ?_ hq.1 hq.2 _) (hK H1 a1 k1)
  have:=M.hN
  unfold i64
  omega
 rename_i h6
 rw [if_neg h6] at hK
 split
 ·rename_i h
  rw [if_pos h] at hK
  refine hA q.list ns (hr (.inl h)) (hnest (.inl h)) hf hns e he ab mb cs H1 _ a1 fun H2 a2 k2=>?_
  simp
  exact hK H2 a2 (k1.trans k2)
 rename_i h7
 rw [if_neg h7] at hK
 split
 ·rename_i h
  rw [if_pos h] at hK
  exact hA q.list ns (hr (.inr h)) (hnest (.inr h)) hf hns e he ab mb cs H1 _ a1 fun H2 a2 k2=>hK H2 a2 (k1.trans k2)
 ·rename_i h
  rw [if_neg h] at hK
  exact hK H1 a1 k1
theorem lk_c (x:Lk):ldL true 5 ((encLk x).drop 1)=some (.agg (encCp x.part.c)):=by
 have e:(encLk x).drop 1=encCp x.part.c++[.imm 1 (x.lists.map fun l=>[ints l])]:=by
  unfold encLk; rw [encPt_eq]; rfl
 rw [e,ldL_agg (by simp)]
 rw [List.take_append_of_le_length (by simp),List.take_of_length_le (by simp)]
theorem lk_ps (x:Lk):ldL false 1 ((encLk x).drop 5)=some (.imm 4 (x.part.c.pseudos.map encPs)):=by
 unfold encLk; rw [encPt_eq,encCp_eq]; rfl
theorem lk_ls (x:Lk):ldL false 1 ((encLk x).drop 6)=some (.imm 1 (x.lists.map fun l=>[ints l])):=by
 unfold encLk; rw [encPt_eq,encCp_eq]; rfl
theorem lk_comb (x:Lk):ldL false 1 (encLk x)=some (I x.part.comb):=by
 unfold encLk; rw [encPt_eq]; rfl
section
attribute [local irreducible] match_asked_compound.L0
theorem compound_sp (M:Mc σ L d C) {f:Nat} (hA:AnyOk σ L d C f) (hf:f≤12) {x:Lk} (hx:LkOk x) (hl:x.lists.length=x.part.c.pseudos.length) (hr:∀ (j:Nat) (q:Ps) (ns:List Nat),x.part.c.pseudos[j]?=some q→x.lists[j]?=some ns→Rep C f q.list ns) (hn:∀ q ∈ x.part.c.pseudos,Nest f q.list) {e:Nat} (he:e<L.length) :
  AskK σ L d C n_match_asked_compound [I (e:Int),.agg (encLk x)] (compB (AA L) L e x.part.c):=by
 intro ab mb cs H K hA0 hK
 have a1:=hA0.new (.cells (encLk x) true)
 have k1:=Kp.new mb H (.cells (encLk x) true)
 have hml:mb≠H.n:=by have:=hA0.nmb; omega
 have hm1:mb<H.n:=hA0.nmb
 have hps:=hx.c.ps
 have L0:∀ (m k:Nat) (H1:Hp),x.part.c.pseudos.length - m=k→m≤x.part.c.pseudos.length→Asks (domT L d) C (Tru L C) ab mb cs H1→Kp mb (H.new (.cells (encLk x) true)) H1 →
   (∀ H',Asks (domT L d) C (Tru L C) ab mb cs H'→Kp mb H H'→K (Bo ((x.part.c.pseudos.drop m).all (pseudoB (AA L) L e))) H')→match_asked_compound.L0 σ K (.ptr ab 0) (I (e:Int)) (.ptr H.n 0) (.imm 4 (x.part.c.pseudos.map encPs)) (I x.part.c.pseudos.length) (I m) H1:=by
  intro m k
  revert m
  induction k with
  | zero =>
   intro m H1 hk hm h1 kp hK
   have:m=x.part.c.pseudos.length:=by omega
   subst this
   refine match_asked_compound.L0_step ?_
   simp
   simpa using hK H1 h1 (k1.trans kp)
  | succ k ih =>
   intro m H1 hk hm h1 kp hK
   have hlt:m<x.part.c.pseudos.length:=by omega
   obtain ⟨q,hq⟩:=get_lt hlt
   obtain ⟨ns,hns⟩:=get_lt (l:=x.lists) (k:=m) (by omega)
   have hqm:=List.mem_of_getElem? hq
   rw [drop_get hq] at hK
   have hlt':(m:Int)<x.part.c.pseudos.length:=by omega
   have gx:H1.get H.n=some (.cells (encLk x) true):=by rw [kp.get H.n (by simp) (Ne.symm hml)]; simp
   have hup:=kp.up
   simp at hup
   have n1:H.n≠H1.n:=by omega
   refine match_asked_compound.L0_step ?_
   have hls:ixaSl 1 (.imm 1 (x.lists.map fun l=>[ints l])) (I (m:Int))=some (.ip [ints ns]):=by
    have:=ix_map (f:=fun l:List Nat=>[ints l]) (sz:=1) hns
    exact this
   simp only [b_lss,hlt',decide_true,bnd_some,ifB_lit,if_true,ix_map hq,ld_ip,ldL_ps,allocK_eq]
   have hst:stA 4 (H1.new (.cells [I 0,I 0,I 0,.lit (.slice none 0 0)] true)) (.ptr H1.n 0) (.agg (encPs q))=some ((H1.new (.cells [I 0,I 0,I 0,.lit (.slice none 0 0)] true)).set H1.n (some (.cells (encPs q) true))):=by
    simp
    rw [ov_Ps q (by simp)]
   rw [hst,bnd_some]
   simp only [ld_ptr,hp_get_set,if_true,ldO_cells,List.drop_zero,ldL_ps,bnd_some,sh_ptr,Nat.zero_add,n1,if_false,hp_get_new,gx,lk_ls]
   rw [hls,bnd_some]
   simp only [ld_ip,ldL_one,bnd_some]
   have a2:=h1.setN (h1.new (.cells [I 0,I 0,I 0,.lit (.slice none 0 0)] true)) (Nat.le_refl H1.n) (some (.cells (encPs q) true))
   have k2:=(Kp.new mb H1 (.cells [I 0,I 0,I 0,.lit (.slice none 0 0)] true)).setN (Nat.le_refl H1.n) (some (.cells (encPs q) true))
   refine pseudo_sp M hA hf (hx.ps q hqm) (fun _=>hr m q ns hq hns) (fun _=>hn q hqm) (hx.ls ns (List.mem_of_getElem? hns)) he ab mb cs _ _ a2 fun H2 a3 k3=>?_
   simp only [u_not,bnd_some,ifB_lit]
   cases hb:pseudoB (AA L) L e q with
   | false =>
    simp [hb] at hK
    simp
    exact hK H2 a3 (k1.trans (kp.trans (k2.trans k3)))
   | true =>
    simp [hb] at hK
    simp
    rw [wr_succL hlt hps (by decide)]
    exact ih (m+1) H2 (by omega) (by omega) a3 (kp.trans (k2.trans k3)) (by simpa using hK)
 refine match_asked_compound.run ?_
 simp only [boxK_agg,sh_ptr,Nat.zero_add,ld_ptr,hp_get_new,if_true,ldO_cells,lk_c,bnd_some]
 refine callK_of (a1.pure (plain_ok M.hC M.hN he (M.sm e he) hx.c [] rfl Hp.empty) (by simp [noIds,noId,noId_Cp]) rfl) ?_
 simp only [u_not,bnd_some,ifB_lit]
 unfold compB at hK
 cases hb:plainB (lowN (ndAt L e)) x.part.c with
 | false =>
  simp [hb] at hK
  simp
  exact hK _ a1 k1
 | true =>
  simp [hb] at hK
  simp [lk_ps]
  exact L0 0 _ _ rfl (Nat.zero_le _) a1 (.refl _ _) (by simpa using hK)
end
theorem standI_lt (M:Mc σ L d C) {e:Nat} (he:e<L.length) (k:Int):standI L e k<e:=by
 unfold standI
 split
 ·rcases par_bd M.hB he with h | ⟨p,h,hp⟩
  ·omega
  ·omega
 ·split
  ·unfold before lastI
   cases h:(sibs L e).getLast? with
   | none=>simp<;>omega
   | some j =>
    have:=List.mem_of_getLast? h
    unfold sibs at this
    simp only [List.mem_filter,List.mem_range] at this
    simp; omega
  ·omega
theorem standI_ge (M:Mc σ L d C) {e:Nat} (he:e<L.length) (k:Int):-1≤standI L e k:=by
 unfold standI
 split
 ·rcases par_bd M.hB he with h | ⟨p,h,hp⟩
  ·omega
  ·omega
 ·split
  ·unfold before lastI
   cases h:(sibs L e).getLast? with
   | none=>simp
   | some j=>simp<;>omega
  ·omega
theorem aheadF_fuel (M:Mc σ L d C) (g:Nat→Bool) (k:Int):∀ (f f' e:Nat),e<L.length→e<f→e<f'→aheadF g L k f e=aheadF g L k f' e
 | 0,f',e,_,h,_=>by omega
 | f+1,0,e,_,_,h=>by omega
 | f+1,f'+1,e,he,h1,h2=>by
  unfold aheadF
  have:=standI_lt M he k
  by_cases h:0≤standI L e k
  ·rw [aheadF_fuel M g k f f' _ (by omega) (by omega) (by omega)]
  ·simp [h]
theorem chain_at (M:Mc σ L d C) {ab mb:Nat} {cs:AV} {H:Hp} (hA:Asks (domT L d) C (Tru L C) ab mb cs H) {n i:Nat} {c:List Lk} {x:Lk} (hc:C[n]?=some c) (hx:c[i]?=some x) :
  ∃ p,ixaSl 1 cs (I (n:Int))=some p∧ldA false 1 H p=some (chainV c)∧ixaSl 7 (chainV c) (I (i:Int))=some (.ip (encLk x)):=by
 obtain ⟨p,h1,h2⟩:=hA.gcs.ld1 (n:=n) (v:=chainV c) (by rw [List.getElem?_map,hc]; rfl)
 exact ⟨p,h1,h2,ix_map hx⟩
theorem is_step (M:Mc σ L d C) {f:Nat} (hA:AnyOk σ L d C f) (hf:f≤12) {n:Nat} {s:Sl} (hr:RepC (Rep C f) C s n) (hn:∀ p ∈ s,∀ q ∈ p.c.pseudos,Nest f q.list) (hn9:n<9000000000000000000) (i:Nat) (hi:i<s.length) (hi9:i<9000000000000000000)
  (hah:i≠0→∀ e,e<L.length→AskK σ L d C n_match_asked_ahead [I (n:Int),I (i:Int),I (e:Int)] (Tru L C n i e true)) (e:Nat) (he:e<L.length) :
  AskK σ L d C n_match_asked_is [I (n:Int),I (i:Int),I (e:Int)] (Tru L C n i e false):=by
 intro ab mb cs H K hA0 hK
 obtain ⟨c,hc,hcs,hcl⟩:=hr
 have hsel:selC C n=s:=RepC.sel ⟨c,hc,hcs,hcl⟩
 obtain ⟨x,hx⟩:=get_lt (l:=c) (k:=i) (by rw [← List.length_map (f:=(·.part)),hcs]; exact hi)
 have hcm:=List.mem_of_getElem? hc
 have hxm:=List.mem_of_getElem? hx
 have hlk:=M.lk c hcm x hxm
 obtain ⟨hl1,hl2⟩:=hcl i x hx
 have hsx:s[i]?=some x.part:=by rw [← hcs,List.getElem?_map,hx]; rfl
 have hbx:∀ (v:AV) (H:Hp) (K:AV→Hp→Prop),v.isAny=false→v.cells=[v]→boxK v H K=K (.ptr H.n 0) (H.new (.cells [v] true)):=fun v H K h1 h2=>boxK_one h1 h2 H K
 have tr:Tru L C n i e false=(compB (AA L) L e x.part.c&&(decide (i=0)||Tru L C n i e true)):=by
  unfold Tru
  simp only [hsel]
  cases i with
  | zero=>unfold frontB; simp [hsx]
  | succ i=>rw [frontB]; simp [hsx]
 refine match_asked_is.run ?_
 rw [hbx _ _ _ rfl rfl,hbx _ _ _ rfl rfl,hbx _ _ _ rfl rfl,hbx _ _ _ rfl rfl]
 obtain ⟨H4,hH4⟩:∃ H4,H4=(((H.new (.cells [.ptr ab 0] true)).new (.cells [I (n:Int)] true)).new (.cells [I (i:Int)] true)).new (.cells [I (e:Int)] true):=⟨_,rfl⟩
 have a4:Asks (domT L d) C (Tru L C) ab mb cs H4:=by rw [hH4]; exact (((hA0.new _).new _).new _).new _
 have k4:Kp mb H H4:=by rw [hH4]; exact (((Kp.new mb H _).trans (Kp.new mb _ _)).trans (Kp.new mb _ _)).trans (Kp.new mb _ _)
 have q1:¬ (H.n=H.n+1+1+1):=by omega
 have q2:¬ (H.n=H.n+1+1):=by omega
 have q3:¬ (H.n+1=H.n+1+1+1):=by omega
 have g0:H4.get H.n=some (.cells [.ptr ab 0] true):=by rw [hH4]; simp [q1,q2]
 have g1:H4.get (H.n+1)=some (.cells [I (n:Int)] true):=by rw [hH4]; simp [q3]
 have g2:H4.get (H.n+1+1)=some (.cells [I (i:Int)] true):=by rw [hH4]; simp
 have g3:H4.get (H.n+1+1+1)=some (.cells [I (e:Int)] true):=by rw [hH4]; simp
 have n4:H4.n=H.n+4:=by rw [hH4]; rfl
 rw [← hH4]
 simp only [Hp.n_new]
 rw [ld2 g0,bnd_some,ld2 g1,bnd_some,ld2 g2,bnd_some,ld2 g3,bnd_some]
 have hb:bldR [I 0,I 0,I 0,.lit (.bool false)] [(0,1,I (n:Int)),(1,1,I (i:Int)),(2,1,I (e:Int)),(3,1,Bo false)]=some (encQ n i e false):=rfl
 rw [hb,bnd_some]
 have mbl:=hA0.nmb
 refine once_sp (n:=n) (i:=i) (e:=e) (a:=false) a4 (List.getElem?_eq_some_iff.1 hc).1 rfl (fun H1 K1 h1 kp1 hK1=>?_) (fun H' h' kp'=>hK H' h' (k4.trans kp'))
 have keep:∀ {H2:Hp},Kp mb H4 H2→∀ {j:Nat} {v:AV},H.n≤j→j<H.n+4→H4.get j=some (.cells [v] true)→H2.get j=some (.cells [v] true):=fun kp j v h1 h2 hg=>by rw [kp.get j (by omega) (by omega)]; exact hg
 rw [callV_fn',List.nil_append]
 refine match_asked_is_1.run ?_
 obtain ⟨p,c1,c2,c3⟩:=chain_at M h1 hc hx
 have hlx:ldL true 7 (encLk x)=some (.agg (encLk x)):=ldL_all (len_lk x)
 have hcab:ldA false 1 H1 (.ptr ab 1)=some cs:=by simp [h1.gab]
 rw [ld2 (keep kp1 (by omega) (by omega) g0),bnd_some,ld2 (keep kp1 (by omega) (by omega) g3),bnd_some,bnd_some,n_ptr,bnd_some,sh_ptr,bnd_some,hcab,bnd_some,ld2 (keep kp1 (by omega) (by omega) g1),bnd_some,c1,bnd_some,c2,bnd_some,ld2 (keep kp1 (by omega) (by omega) g2),bnd_some,c3,bnd_some,ld_ip,hlx,bnd_some]
 refine compound_sp M hA hf hlk hl1 hl2 (hn x.part (List.mem_of_getElem? hsx)) he ab mb cs H1 _ h1 fun H2 h2 kp2=>?_
 simp only [ifB_lit]
 rw [tr] at hK1
 cases hcb:compB (AA L) L e x.part.c with
 | false =>
  simp [hcb] at hK1
  simp
  exact hK1 H2 h2 kp2
 | true =>
  simp [hcb] at hK1
  simp only [if_true]
  have kp12:=kp1.trans kp2
  rw [ld2 (keep kp12 (by omega) (by omega) g2),bnd_some,b_eql,bnd_some]
  simp only [ifB_lit,decide_eq_true_eq]
  split
  ·rename_i h0
   have h0':i=0:=by omega
   simp [h0'] at hK1
   exact hK1 H2 h2 kp2
  ·rename_i h0
   have h0':i≠0:=by omega
   simp [h0'] at hK1
   rw [ld2 (keep kp12 (by omega) (by omega) g0),bnd_some,ld2 (keep kp12 (by omega) (by omega) g1),bnd_some,bnd_some,ld2 (keep kp12 (by omega) (by omega) g3),bnd_some]
   exact hah h0' e he ab mb cs H2 _ h2 fun H3 h3 kp3=>hK1 H3 h3 (kp2.trans kp3)
theorem ahead_step (M:Mc σ L d C) {n:Nat} {c:List Lk} (hc:C[n]?=some c) (hn9:n<9000000000000000000) {i:Nat} {x:Lk} (hx:c[i+1]?=some x) (hi9:i+1<9000000000000000000)
  (hsx:(selC C n)[i+1]?=some x.part) (his:∀ e,e<L.length→AskK σ L d C n_match_asked_is [I (n:Int),I (i:Int),I (e:Int)] (Tru L C n i e false)) :
  ∀ (m e:Nat),e<m→e<L.length→AskK σ L d C n_match_asked_ahead [I (n:Int),I ((i+1:Nat):Int),I (e:Int)] (Tru L C n (i+1) e true):=by
 intro m
 induction m with
 | zero=>intro e h; omega
 | succ m ih =>
  intro e hem he ab mb cs H K hA0 hK
  have hlt:=standI_lt M he x.part.comb
  have hge:=standI_ge M he x.part.comb
  have trE:∀ e,e<L.length→Tru L C n (i+1) e true=aheadF (frontB (AA L) L (selC C n) i) L x.part.comb (e+1) e:=fun e he=>by
   unfold Tru
   simp only [hsx,Nat.add_sub_cancel]
  have tr:Tru L C n (i+1) e true=(decide (0≤standI L e x.part.comb)&&(Tru L C n i (standI L e x.part.comb).toNat false||(farB x.part.comb&&Tru L C n (i+1) (standI L e x.part.comb).toNat true))):=by
   rw [trE e he]
   by_cases h:0≤standI L e x.part.comb
   ·rw [trE _ (by omega),aheadF]
    rw [aheadF_fuel M (frontB (AA L) L (selC C n) i) x.part.comb e ((standI L e x.part.comb).toNat+1) (standI L e x.part.comb).toNat (by omega) (by omega) (by omega)]
    rfl
   ·rw [aheadF]; simp [h]
  have hbx:∀ (v:AV) (H:Hp) (K:AV→Hp→Prop),v.isAny=false→v.cells=[v]→boxK v H K=K (.ptr H.n 0) (H.new (.cells [v] true)):=fun v H K h1 h2=>boxK_one h1 h2 H K
  refine match_asked_ahead.run ?_
  rw [hbx _ _ _ rfl rfl,hbx _ _ _ rfl rfl,hbx _ _ _ rfl rfl]
  obtain ⟨H3,hH3⟩:∃ H3,H3=((H.new (.cells [.ptr ab 0] true)).new (.cells [I (n:Int)] true)).new (.cells [I ((i+1:Nat):Int)] true):=⟨_,rfl⟩
  have a3:Asks (domT L d) C (Tru L C) ab mb cs H3:=by rw [hH3]; exact ((hA0.new _).new _).new _
  have k3:Kp mb H H3:=by rw [hH3]; exact ((Kp.new mb H _).trans (Kp.new mb _ _)).trans (Kp.new mb _ _)
  have q2:¬ (H.n=H.n+1+1):=by omega
  have g0:H3.get H.n=some (.cells [.ptr ab 0] true):=by rw [hH3]; simp [q2]
  have g1:H3.get (H.n+1)=some (.cells [I (n:Int)] true):=by rw [hH3]; simp
  have g2:H3.get (H.n+1+1)=some (.cells [I ((i+1:Nat):Int)] true):=by rw [hH3]; simp
  have n3:H3.n=H.n+1+1+1:=by rw [hH3]; rfl
  rw [← hH3]
  simp only [Hp.n_new]
  obtain ⟨p,c1,c2,c3⟩:=chain_at M a3 hc hx
  have hcab:ldA false 1 H3 (.ptr ab 1)=some cs:=by simp [a3.gab]
  rw [ld2 g0,bnd_some,bnd_some,n_ptr,bnd_some,sh_ptr,bnd_some,hcab,bnd_some,ld2 g1,bnd_some,c1,bnd_some,c2,bnd_some,ld2 g2,bnd_some,c3,bnd_some,sh_ip,bnd_some,List.drop_zero,sh_ip,bnd_some,List.drop_zero,ld_ip,lk_comb,bnd_some]
  refine callK_of (a3.pure (stands_ok M.hN he x.part.comb [] rfl Hp.empty) rfl (by simp [plainV,plainVs])) ?_
  simp only [x_tup,List.getElem?_cons_zero,List.getElem?_cons_succ,bnd_some,allocK_eq,Hp.n_new]
  obtain ⟨H5,hH5⟩:∃ H5,H5=(((H3.new (.cells [I 0] true)).new (.cells [Bo false] true)).set H3.n (some (.cells [I (standI L e x.part.comb)] true))).set (H3.n+1) (some (.cells [Bo (farB x.part.comb)] true)):=⟨_,rfl⟩
  have s1:stA 1 ((H3.new (.cells [I 0] true)).new (.cells [Bo false] true)) (.ptr H3.n 0) (I (standI L e x.part.comb))=some (((H3.new (.cells [I 0] true)).new (.cells [Bo false] true)).set H3.n (some (.cells [I (standI L e x.part.comb)] true))):=by simp
  have s2:stA 1 (((H3.new (.cells [I 0] true)).new (.cells [Bo false] true)).set H3.n (some (.cells [I (standI L e x.part.comb)] true))) (.ptr (H3.n+1) 0) (Bo (farB x.part.comb))=some H5:=by rw [hH5]; simp
  rw [s1,bnd_some,s2,bnd_some]
  have a5:Asks (domT L d) C (Tru L C) ab mb cs H5:=by
   rw [hH5]
   exact a3.setN (a3.setN ((a3.new _).new _) (Nat.le_refl _) _) (by omega) _
  have k5:Kp mb H3 H5:=by
   rw [hH5]
   exact ((((Kp.new mb H3 _).trans (Kp.new mb _ _))).setN (Nat.le_refl _) _).setN (by omega) _
  have mbl:=hA0.nmb
  have n5:H5.n=H.n+1+1+1+1+1:=by rw [hH5]; simp [n3]
  have r0:H5.get H.n=some (.cells [.ptr ab 0] true):=by rw [k5.get _ (by omega) (by omega)]; exact g0
  have r1:H5.get (H.n+1)=some (.cells [I (n:Int)] true):=by rw [k5.get _ (by omega) (by omega)]; exact g1
  have r2:H5.get (H.n+1+1)=some (.cells [I ((i+1:Nat):Int)] true):=by rw [k5.get _ (by omega) (by omega)]; exact g2
  have r3:H5.get H3.n=some (.cells [I (standI L e x.part.comb)] true):=by rw [hH5]; simp
  have r4:H5.get (H3.n+1)=some (.cells [Bo (farB x.part.comb)] true):=by rw [hH5]; simp
  clear hH5 s1 s2
  rw [ld2 r3,bnd_some,b_geq,bnd_some]
  simp only [ifB_lit,decide_eq_true_eq]
  rw [tr] at hK
  split
  ·rename_i h0
   rw [ld2 r0,bnd_some,ld2 r1,bnd_some,ld2 r2,bnd_some]
   have hb:bldR [I 0,I 0,I 0,.lit (.bool false)] [(0,1,I (n:Int)),(1,1,I ((i+1:Nat):Int)),(2,1,I (e:Int)),(3,1,Bo true)]=some (encQ n (i+1) e true):=rfl
   rw [hb,bnd_some]
   refine once_sp (n:=n) (i:=i+1) (e:=e) (a:=true) a5 (List.getElem?_eq_some_iff.1 hc).1 rfl (fun H1 K1 h1 kp1 hK1=>?_) (fun H' h' kp'=>?_)
   ·have keep:∀ {H2:Hp},Kp mb H5 H2→∀ {j:Nat} {v:AV},H.n≤j→j<H.n+5→H5.get j=some (.cells [v] true)→H2.get j=some (.cells [v] true):=fun kp j v h1 h2 hg=>by rw [kp.get j (by omega) (by omega)]; exact hg
    obtain ⟨x',hx'⟩:∃ k:Nat,standI L e x.part.comb=k:=⟨(standI L e x.part.comb).toNat,by omega⟩
    rw [tr,hx'] at hK1
    rw [hx'] at r3 hlt
    simp only [Int.toNat_natCast] at hK1
    rw [callV_fn',List.nil_append]
    refine match_asked_ahead_1.run ?_
    have e1:wr .i64 (((i+1:Nat):Int) - 1)=(i:Int):=by rw [wr64 (by omega) (by omega)]; omega
    rw [ld2 (keep kp1 (by omega) (by omega) r0),bnd_some,ld2 (keep kp1 (by omega) (by omega) r1),bnd_some,ld2 (keep kp1 (by omega) (by omega) r2),bnd_some,b_sub,bnd_some,e1,ld2 (keep kp1 (by omega) (by omega) r3),bnd_some]
    refine his x' (by omega) ab mb cs H1 _ h1 fun H2 h2 kp2=>?_
    simp only [ifB_lit]
    have kp12:=kp1.trans kp2
    have h0':(0:Int)≤(x':Int):=by omega
    cases hf:Tru L C n i x' false with
    | true =>
     simp [hf,h0'] at hK1
     simp
     exact hK1 H2 h2 kp2
    | false =>
     simp [hf,h0'] at hK1
     simp only [Bool.false_eq_true,if_false]
     rw [ld2 (keep kp12 (by omega) (by omega) r4),bnd_some]
     simp only [ifB_lit]
     cases hfar:farB x.part.comb with
     | false =>
      simp [hfar] at hK1
      simp
      exact hK1 H2 h2 kp2
     | true =>
      simp [hfar] at hK1
      simp only [if_true]
      rw [ld2 (keep kp12 (by omega) (by omega) r0),bnd_some,ld2 (keep kp12 (by omega) (by omega) r1),bnd_some,ld2 (keep kp12 (by omega) (by omega) r2),bnd_some,ld2 (keep kp12 (by omega) (by omega) r3),bnd_some]
      exact ih x' (by omega) (by omega) ab mb cs H2 _ h2 fun H3' h3 kp3=>hK1 H3' h3 (kp2.trans kp3)
   ·rw [← tr] at hK
    exact hK H' h' (k3.trans (k5.trans kp'))
  ·rename_i h0
   have:decide (0≤standI L e x.part.comb)=false:=by simpa using h0
   rw [this,Bool.false_and] at hK
   exact hK H5 a5 (k3.trans k5)
theorem is_sp (M:Mc σ L d C) {f:Nat} (hA:AnyOk σ L d C f) (hf:f≤12) {n:Nat} {s:Sl} (hr:RepC (Rep C f) C s n) (hn:∀ p ∈ s,∀ q ∈ p.c.pseudos,Nest f q.list) (hn9:n<9000000000000000000):∀ (i:Nat),i<s.length→i<9000000000000000000→∀ e,e<L.length →
  AskK σ L d C n_match_asked_is [I (n:Int),I (i:Int),I (e:Int)] (Tru L C n i e false)
 | 0,hi,hi9,e,he=>is_step M hA hf hr hn hn9 0 hi hi9 (fun h=>absurd rfl h) e he
 | i+1,hi,hi9,e,he=>by
  refine is_step M hA hf hr hn hn9 (i+1) hi hi9 (fun _ e he=>?_) e he
  obtain ⟨c,hc,hcs,hcl⟩:=hr
  obtain ⟨x,hx⟩:=get_lt (l:=c) (k:=i+1) (by rw [← List.length_map (f:=(·.part)),hcs]; exact hi)
  have hsel:selC C n=s:=RepC.sel ⟨c,hc,hcs,hcl⟩
  have hsx:(selC C n)[i+1]?=some x.part:=by rw [hsel,← hcs,List.getElem?_map,hx]; rfl
  exact ahead_step M hc hn9 hx hi9 hsx (fun e he=>is_sp M hA hf ⟨c,hc,hcs,hcl⟩ hn hn9 i (by omega) (by omega) e he) (e+1) e (by omega) he
section
attribute [local irreducible] match_asked_any.L0
theorem any_step (M:Mc σ L d C) {f:Nat} (hA:AnyOk σ L d C f) (hf:f+1≤12):AnyOk σ L d C (f+1):=by
 intro l ns hr hn _ hns e he ab mb cs H K hA0 hK
 rw [← AA_eq hn hf] at hK
 obtain ⟨hlen,hrep⟩:=hr
 have L0:∀ (m k:Nat) (H1:Hp),ns.length - m=k→m≤ns.length→Asks (domT L d) C (Tru L C) ab mb cs H1→Kp mb H H1→(∀ H',Asks (domT L d) C (Tru L C) ab mb cs H'→Kp mb H H'→K (Bo (anyS (AA L) L (l.drop m) e)) H') →
   match_asked_any.L0 σ K (.ptr ab 0) (I (e:Int)) (ints ns) (I ns.length) (I m) H1:=by
  intro m k
  revert m
  induction k with
  | zero =>
   intro m H1 hk hm h1 kp hK
   have:m=ns.length:=by omega
   subst this
   refine match_asked_any.L0_step ?_
   simp
   have:=hK H1 h1 kp
   rw [hlen,List.drop_length] at this
   exact this
  | succ k ih =>
   intro m H1 hk hm h1 kp hK
   have hlt:m<ns.length:=by omega
   obtain ⟨n,hnn⟩:=get_lt hlt
   obtain ⟨s,hs⟩:=get_lt (l:=l) (k:=m) (by omega)
   have hrc:=hrep m s n hs hnn
   rw [drop_get hs] at hK
   have hlt':(m:Int)<ns.length:=by omega
   obtain ⟨c,hc,hcs,hcl⟩:=hrc
   have hcm:=List.mem_of_getElem? hc
   have hcl2:c.length=s.length:=by rw [← hcs,List.length_map]
   obtain ⟨p,c1,c2⟩:=h1.gcs.ld1 (n:=n) (v:=chainV c) (by rw [List.getElem?_map,hc]; rfl)
   have hcab:ldA false 1 H1 (.ptr ab 1)=some cs:=by simp [h1.gab]
   have hix:ixaSl 1 (ints ns) (I (m:Int))=some (.ip (encN n)):=ix_map hnn
   have hllen:lenSl (chainV c)=some (I (s.length:Int)):=by unfold chainV; simp [hcl2]
   have hl9:=M.ll c hcm
   rw [reach_eq] at hl9 hns
   have hn9:n<9000000000000000000:=by
    have:=(List.getElem?_eq_some_iff.1 hc).1
    have:=M.cl
    rw [reach_eq] at this
    omega
   have hsel:selC C n=s:=RepC.sel ⟨c,hc,hcs,hcl⟩
   refine match_asked_any.L0_step ?_
   have hle:ldL false 1 (encN n)=some (I (n:Int)):=rfl
   simp only [b_lss,hlt',decide_true,bnd_some,ifB_lit,if_true,hix,ld_ip,hle,n_ptr,sh_ptr,hcab,c1,c2,hllen,b_gtr,decide_eq_true_eq]
   have hcons:anyS (AA L) L (s::l.drop (m+1)) e=((!decide (s.length=0)&&frontB (AA L) L s (s.length - 1) e)||anyS (AA L) L (l.drop (m+1)) e):=by simp [anyS]
   rw [hcons] at hK
   split
   ·rename_i h0
    have e1:wr .i64 ((s.length:Int) - 1)=((s.length - 1:Nat):Int):=by rw [wr64 (by omega) (by omega)]; omega
    simp only [b_sub,bnd_some,e1]
    refine is_sp M hA (by omega) ⟨c,hc,hcs,hcl⟩ (fun p hp q hq=>hn s (List.mem_of_getElem? hs) p hp q hq) hn9 (s.length - 1) (by omega) (by omega) e he ab mb cs H1 _ h1 fun H2 h2 kp2=>?_
    have htr:Tru L C n (s.length - 1) e false=frontB (AA L) L s (s.length - 1) e:=by unfold Tru; simp only [hsel]
    rw [htr]
    have h0':¬ (s.length=0):=by omega
    simp only [ifB_lit]
    cases hfr:frontB (AA L) L s (s.length - 1) e with
    | true =>
     rw [hfr] at hK
     simp [h0'] at hK
     simp
     exact hK H2 h2 (kp.trans kp2)
    | false =>
     rw [hfr] at hK
     simp at hK
     simp
     rw [wr_succ (by omega)]
     exact ih (m+1) H2 (by omega) (by omega) h2 (kp.trans kp2) hK
   ·rename_i h0
    have h0':s.length=0:=by omega
    simp [h0'] at hK
    simp only [b_add,bnd_some]
    rw [wr_succ (by omega)]
    exact ih (m+1) H1 (by omega) (by omega) h1 kp hK
 refine match_asked_any.run ?_
 have:lenSl (ints ns)=some (I (ns.length:Int)):=by unfold ints; simp
 rw [this,bnd_some]
 exact L0 0 _ H rfl (Nat.zero_le _) hA0 (.refl _ _) (by simpa using hK)
theorem any_ok (M:Mc σ L d C):∀ (f:Nat),f≤12→AnyOk σ L d C f
 | 0,_=>fun l ns hr=>hr.elim
 | f+1,hf=>any_step M (any_ok M f (by omega)) hf
end
end
end Go.Proofs.YthdcghnjndhecaaGreat.Ev
namespace Go.Proofs.YthdcghnjndhecaaGreat.Ev
set_option linter.unusedVariables false
set_option linter.unusedSimpArgs false
variable {σ:Sig}
def mayQ (g:List Sl→Nat→Bool) (dp:Nat) (q:Ps):Bool:=if q.kind=7∨q.kind=8 then !decide (dp=0)&&g q.list (dp - 1) else true
def mayC (g:List Sl→Nat→Bool) (dp:Nat) (c:Cp):Bool:=c.pseudos.all (mayQ g dp)
def mayS (g:List Sl→Nat→Bool) (dp:Nat) (s:Sl):Bool:=decide (s.length≤50)&&s.all fun p=>mayC g dp p.c
def mayF:Nat→List Sl→Nat→Bool
 | 0,_,_=>false
 | f+1,l,dp=>l.all (mayS (mayF f) dp)
section
attribute [local irreducible] match_may.L0 match_may.L1 match_mayCompound.L0 match_mayCompound.J1
def MayOk (σ:Sig) (f:Nat):Prop:=∀ (l:List Sl) (dp:Nat) (H:Hp),slsWf Lmax l→Nest f l→dp≤8→Good Tryz.prog σ n_match_may [sls l,I (dp:Int)] H (Bo (mayF f l dp)) H
theorem mayC_ok {f:Nat} (ih:MayOk σ f) (c:Cp) (hc:CpWf Lmax c) (hn:∀ q ∈ c.pseudos,Nest f q.list) (dp:Nat) (hd:dp≤8) (H:Hp):Good Tryz.prog σ n_match_mayCompound [.agg (encCp c),I (dp:Int)] H (Bo (mayC (mayF f) dp c)) H:=by
 refine good_by (fun K hK=>match_mayCompound.run ?_) (by simp [noIds,noId,noId_Cp]) rfl H
 have L0:∀ (m k:Nat) (H:Hp),c.pseudos.length - m=k→m≤c.pseudos.length→(∀ H,K (Bo ((c.pseudos.drop m).all (mayQ (mayF f) dp))) H)→match_mayCompound.L0 σ K (I (dp:Int)) (.imm 4 (c.pseudos.map encPs)) (I c.pseudos.length) (I m) H:=by
  intro m k
  revert m
  induction k with
  | zero =>
   intro m H hk hm hK
   have:m=c.pseudos.length:=by omega
   subst this
   refine match_mayCompound.L0_step ?_
   simp
   simpa using hK H
  | succ k ihk =>
   intro m H hk hm hK
   have hlt:m<c.pseudos.length:=by omega
   obtain ⟨q,hq⟩:=get_lt hlt
   have hqm:=List.mem_of_getElem? hq
   have hqw:=(Ps.wf_iff.1 (hc.ps q hqm)).2.2.2
   rw [drop_get hq,List.all_cons] at hK
   have hlt':(m:Int)<c.pseudos.length:=by omega
   have next:∀ H,mayQ (mayF f) dp q=true→match_mayCompound.J1 σ K (I (dp:Int)) (.imm 4 (c.pseudos.map encPs)) (I c.pseudos.length) (I m) H:=by
    intro H ht
    refine match_mayCompound.J1_step ?_
    simp
    rw [wr_succL hlt hc.psL]
    refine ihk (m+1) H (by omega) (by omega) fun H'=>?_
    have:=hK H'
    rwa [ht,Bool.true_and] at this
   have ask:∀ (H:Hp),(q.kind=7∨q.kind=8)→H.get (H.n - 1)=some (.cells (encPs q) true)→ifB (Bo (decide ((dp:Int)=0))) (K (Bo false) H) (bnd (ldA false 1 H (.ptr (H.n - 1) 3)) fun x22=>bnd (binR .sub (I (dp:Int)) (I 1)) fun x23=>callK Tryz.prog σ n_match_may [x22,x23] H fun x24 H25=>bnd (unR .not x24) fun x26=>ifB x26 (K (Bo false) H25) (match_mayCompound.J1 σ K (I (dp:Int)) (.imm 4 (c.pseudos.map encPs)) (I c.pseudos.length) (I m) H25)):=by
    intro H hkq hg
    simp only [ifB_lit,decide_eq_true_eq]
    have hQ:mayQ (mayF f) dp q=(!decide (dp=0)&&mayF f q.list (dp - 1)):=by unfold mayQ; rw [if_pos hkq]
    split
    ·rename_i h0
     have h0':dp=0:=by omega
     have:=hK H
     rw [hQ] at this
     simpa [h0'] using this
    ·rename_i h0
     have h0':¬ (dp=0):=by omega
     have e1:wr .i64 ((dp:Int) - 1)=((dp - 1:Nat):Int):=by rw [wr64 (by omega) (by omega)]; omega
     simp only [ld_ptr,hg,ldO_cells,f_encPs3,bnd_some,b_sub,e1]
     refine callK_of (ih q.list (dp - 1) H hqw (hn q hqm) (by omega)) ?_
     simp only [u_not,bnd_some,ifB_lit]
     cases hb:mayF f q.list (dp - 1) with
     | false =>
      have:=hK H
      rw [hQ] at this
      simpa [h0',hb] using this
     | true =>
      simp
      exact next H (by rw [hQ]; simp [h0',hb])
   refine match_mayCompound.L0_step ?_
   have hst:stA 4 (H.new (.cells [I 0,I 0,I 0,.lit (.slice none 0 0)] true)) (.ptr H.n 0) (.agg (encPs q))=some ((H.new (.cells [I 0,I 0,I 0,.lit (.slice none 0 0)] true)).set H.n (some (.cells (encPs q) true))):=by
    simp
    rw [ov_Ps q (by simp)]
   simp only [b_lss,hlt',decide_true,bnd_some,ifB_lit,if_true,ix_map hq,ld_ip,ldL_ps,allocK_eq,hst,sh_ptr,Nat.zero_add,ld_ptr,hp_get_set,ldO_cells,List.drop_zero,f_encPs0,b_neq]
   have hask:=ask ((H.new (.cells [I 0,I 0,I 0,.lit (.slice none 0 0)] true)).set H.n (some (.cells (encPs q) true)))
   simp only [Hp.n_set,Hp.n_new,Nat.add_sub_cancel,ld_ptr,hp_get_set,if_true,ldO_cells] at hask
   by_cases h7:q.kind=7
   ·simp only [h7,decide_true,Bool.not_true,Bool.false_eq_true,if_false,b_eql,bnd_some]
    exact hask (.inl h7) trivial
   ·simp only [h7,decide_false,Bool.not_false,if_true]
    by_cases h8:q.kind=8
    ·simp only [h8,decide_true,Bool.not_true,Bool.false_eq_true,if_false,b_eql,bnd_some]
     exact hask (.inr h8) trivial
    ·simp only [h8,decide_false,Bool.not_false,if_true]
     exact next _ (by unfold mayQ; rw [if_neg (by omega)])
 simp only [boxK_agg,sh_ptr,bnd_some,Nat.zero_add,ld_ptr,hp_get_new,if_true,ldO_cells,f_encCp4,len_imm,List.length_map]
 exact L0 0 _ _ rfl (Nat.zero_le _) (by simpa [mayC] using hK)
theorem may_step {f:Nat} (ih:MayOk σ f):MayOk σ (f+1):=by
 intro l dp H hl hn hd
 refine good_by (fun K hK=>match_may.run ?_) (by simp [noIds,noId]) rfl H
 have L0:∀ (m k:Nat) (H:Hp) (y20 y21 y22:AV),l.length - m=k→m≤l.length→(∀ H,K (Bo ((l.drop m).all (mayS (mayF f) dp))) H)→match_may.L0 σ K (I (dp:Int)) (sls l) (I l.length) (I m) y20 y21 y22 H:=by
  intro m k
  revert m
  induction k with
  | zero =>
   intro m H y20 y21 y22 hk hm hK
   have:m=l.length:=by omega
   subst this
   refine match_may.L0_step ?_
   simp
   simpa using hK H
  | succ k ihk =>
   intro m H y20 y21 y22 hk hm hK
   have hlt:m<l.length:=by omega
   obtain ⟨s,hs⟩:=get_lt hlt
   have hsm:=List.mem_of_getElem? hs
   have hsw:=hl.2 s hsm
   rw [drop_get hs,List.all_cons] at hK
   have hlt':(m:Int)<l.length:=by omega
   have L1:∀ (j k2:Nat) (H:Hp),s.length - j=k2→j≤s.length→(∀ H,K (Bo ((s.drop j).all (fun p=>mayC (mayF f) dp p.c)&&(l.drop (m+1)).all (mayS (mayF f) dp))) H) →
     match_may.L1 σ K (I (dp:Int)) (sls l) (I l.length) (I m) (.imm 6 (s.map encPt)) (I s.length) (I j) H:=by
    intro j k2
    revert j
    induction k2 with
    | zero =>
     intro j H hk2 hj hK
     have:j=s.length:=by omega
     subst this
     refine match_may.L1_step ?_
     simp
     rw [wr_succL hlt hl.1]
     exact ihk (m+1) H _ _ _ (by omega) (by omega) (by simpa using hK)
    | succ k2 ih2 =>
     intro j H hk2 hj hK
     have hjlt:j<s.length:=by omega
     obtain ⟨p,hp⟩:=get_lt hjlt
     have hpm:=List.mem_of_getElem? hp
     have hpw:=(Pt.wf_iff.1 (hsw.2 p hpm)).2
     rw [drop_get hp,List.all_cons] at hK
     have hjlt':(j:Int)<s.length:=by omega
     have hst:stA 6 (H.new (.cells [I 0,Sx ⟨#[]⟩,.lit (.slice none 0 0),.lit (.slice none 0 0),.lit (.slice none 0 0),.lit (.slice none 0 0)] true)) (.ptr H.n 0) (.agg (encPt p))=some ((H.new (.cells [I 0,Sx ⟨#[]⟩,.lit (.slice none 0 0),.lit (.slice none 0 0),.lit (.slice none 0 0),.lit (.slice none 0 0)] true)).set H.n (some (.cells (encPt p) true))):=by
      simp
      rw [ov_Pt p (by simp)]
     refine match_may.L1_step ?_
     have hd1:(encPt p).drop 1=encCp p.c:=by rw [encPt_eq]; rfl
     simp only [b_lss,hjlt',decide_true,bnd_some,ifB_lit,if_true,ix_map hp,ld_ip,ldL_pt,allocK_eq,hst,sh_ptr,Nat.zero_add,ld_ptr,hp_get_set,ldO_cells,hd1,ldL_cp]
     refine callK_of (mayC_ok ih p.c hpw (fun q hq=>hn s hsm p hpm q hq) dp hd _) ?_
     simp only [u_not,bnd_some,ifB_lit]
     cases hb:mayC (mayF f) dp p.c with
     | false =>
      rw [hb] at hK
      simpa using hK _
     | true =>
      rw [hb] at hK
      simp
      rw [wr_succL hjlt hsw.1]
      exact ih2 (j+1) _ (by omega) (by omega) (by simpa using hK)
   refine match_may.L0_step ?_
   have hst:stA 1 (H.new (.cells [.lit (.slice none 0 0)] true)) (.ptr H.n 0) (.agg (encSl s))=some ((H.new (.cells [.lit (.slice none 0 0)] true)).set H.n (some (.cells (encSl s) true))):=by
    simp [encSl]
   have hix:ixaSl 1 (sls l) (I (m:Int))=some (.ip (encSl s)):=ix_map hs
   simp only [b_lss,hlt',decide_true,bnd_some,ifB_lit,if_true,hix,ld_ip,ldL_sl,allocK_eq,hst,sh_ptr,Nat.zero_add,ld_ptr,hp_get_set,ldO_cells,List.drop_zero,f_encSl0,len_imm,List.length_map,b_gtr,decide_eq_true_eq]
   have hS:mayS (mayF f) dp s=(decide (s.length≤50)&&s.all fun p=>mayC (mayF f) dp p.c):=rfl
   rw [hS] at hK
   split
   ·rename_i h50
    have:¬ (s.length≤50):=by omega
    simpa [this] using hK _
   ·rename_i h50
    have:s.length≤50:=by omega
    refine L1 0 _ _ rfl (Nat.zero_le _) ?_
    simpa [this] using hK
 simp
 exact L0 0 _ _ _ _ _ rfl (Nat.zero_le _) (by simpa [mayF] using hK)
theorem may_ok:∀ (f:Nat),MayOk σ f
 | 0=>fun l dp H hl hn=>hn.elim
 | f+1=>may_step (may_ok f)
end
end Go.Proofs.YthdcghnjndhecaaGreat.Ev
namespace Go.Proofs.YthdcghnjndhecaaGreat.Ev
set_option linter.unusedVariables false
set_option linter.unusedSimpArgs false
variable {σ:Sig}
def HFz (H H2:Hp):Prop:=∃ Hd:Hp,H2.n=H.n∧Hd.n=H.n∧(∀ id k,Hd.get id=some k→H.get id=some k∧H2.get id=none)∧(∀ id k2,H2.get id=some k2→∃ k1,H.get id=some k1∧FzB Hd k1 k2)
theorem FzT.refl {Hd:Hp}:∀ (T:List AV),FzT Hd T T
 | []=>.nil
 | x::T=>.same (.refl T)
theorem HFz.wk {H H2:Hp} (h:HFz H H2) (T:List AV):Wk σ T H T H2:=by
 obtain ⟨Hd,h1,h2,h3,h4⟩:=h
 exact Wk.frz h1 h2 h3 h4 (.refl T)
theorem HFz.loop {P:Program} {C:Ctx P} {c:Code} {T:List AV} {H H2:Hp} {Q:Exit→List AV→Hp→Prop} (k:HFz H H2) (h:LoopP C c T H2 Q):LoopP C c T H Q:=LoopP.conv (k.wk T) h
theorem frz_in {szc sz:Nat} {H:Hp} {y x:AV} {rows:List (List AV)} {row:List AV} {rs:List (List AV)} (hy:Gs szc H y (rows++[row])) (hx:Gs sz H x rs) (hn:noIdss rs=true) {j:Nat} (hj:row[j]?=some x) (hd:∀ i,own y i→¬ own x i) :
  ∃ H2,HFz H H2∧H2.n=H.n∧Gs szc H2 y (rows++[row.set j (.imm sz rs)])∧∀ i,¬ own y i→¬ own x i→H2.get i=H.get i:=by
 have hjl:=(List.getElem?_eq_some_iff.1 hj).1
 generalize hr:rows++[row]=rr at hy
 cases hy with
 | nil=>simp at hr
 | sl hlt hg hsz =>
  rename_i id ex
  have hrow:row.length=szc:=hsz row (by rw [← hr]; simp)
  have hrr:rr.length=rows.length+1:=by rw [← hr]; simp
  have hget:rr[rows.length]?=some row:=by rw [← hr]; simp
  have hk:=rows_flat hsz rows.length row j x hget hj
  obtain ⟨Hd,H2,h1,h2,h3,h4,h5,h6,h7⟩:=frz_one hx hn hg hk (hd id rfl)
  have hflat:rr.flatten.set (rows.length*szc+j) (.imm sz rs)=(rows++[row.set j (.imm sz rs)]).flatten:=by
   have hkl:=(List.getElem?_eq_some_iff.1 hk).1
   rw [← ovl_set hkl,flat_overlay (by simp; omega) hsz (by omega)]
   have e1:rr[rows.length]=row:=by
    rw [List.getElem?_eq_getElem (by omega)] at hget
    exact Option.some.inj hget
   have e2:overlay row j [AV.imm sz rs]=row.set j (.imm sz rs):=ovl_set hjl
   simp only [e1,e2]
   rw [← hr]
   simp
  rw [hflat] at h6
  have hl:rr.length=(rows++[row.set j (.imm sz rs)]).length:=by rw [hrr]; simp
  refine ⟨H2,⟨Hd,h2,h1,h3,h4⟩,h2,?_,fun i hi hi2=>h7 i (fun e=>hi e.symm) hi2⟩
  rw [hl]
  exact .sl (by omega) h6 (fun r hr'=>by
   rcases List.mem_append.1 hr' with h | h
   ·exact hsz r (by rw [← hr]; simp [h])
   ·simp at h; subst h; simpa using hrow)
abbrev NB:Nat:=1048576
def cntF:Nat→List Sl→Nat
 | 0,_=>0
 | f+1,l=>(l.map fun s=>1+(s.map fun p=>(p.c.pseudos.map fun q=>cntF f q.list).sum).sum).sum
def SlsOk:Nat→List Sl→Prop
 | 0,_=>False
 | f+1,l=>l.length≤NB∧∀ s ∈ l,s.length≤NB∧∀ p ∈ s,CpOk p.c∧p.c.pseudos.length≤NB∧∀ q ∈ p.c.pseudos,(i64 q.a∧i64 q.b)∧SlsOk f q.list
structure ChOk (c:List Lk):Prop where
 len:c.length≤NB
 lk:∀ x ∈ c,LkOk x
theorem Rep.mono {C D:List (List Lk)}:∀ {f:Nat} {l:List Sl} {ns:List Nat},Rep C f l ns→Rep (C++D) f l ns
 | 0,l,ns,h=>h
 | f+1,l,ns,h=>⟨h.1,fun i s n hs hn=>by
  obtain ⟨c,h1,h2,h3⟩:=h.2 i s n hs hn
  refine ⟨c,by rw [List.getElem?_append_left (List.getElem?_eq_some_iff.1 h1).1]; exact h1,h2,fun k x hx=>⟨(h3 k x hx).1,fun j q ns' hq hns=>((h3 k x hx).2 j q ns' hq hns).mono⟩⟩⟩
structure AddH (t:AV) (C:List (List Lk)) (ab mb:Nat) (cs:AV) (H:Hp):Prop where
 gab:H.get ab=some (.cells [t,cs,.mp mb] true)
 nab:ab<H.n
 gcs:Gs 1 H cs (C.map fun c=>[chainV c])
 csab:¬ own cs ab
structure AFr (H:Hp) (cs:AV) (ab:Nat) (H':Hp) (cs':AV):Prop where
 up:H.n≤H'.n
 get:∀ (j:Nat),j<H.n→j≠ab→¬ own cs j→H'.get j=H.get j
 mine:∀ j,own cs' j→own cs j∨H.n≤j
theorem AFr.refl (H:Hp) (cs:AV) (ab:Nat):AFr H cs ab H cs:=⟨Nat.le_refl _,fun _ _ _ _=>rfl,fun j h=>.inl h⟩
theorem AFr.trans {H H1 H2:Hp} {cs cs1 cs2:AV} {ab:Nat} (h:AFr H cs ab H1 cs1) (k:AFr H1 cs1 ab H2 cs2):AFr H cs ab H2 cs2:=by
 refine ⟨Nat.le_trans h.up k.up,fun j hj hne ho=>?_,fun j hj=>?_⟩
 ·rw [k.get j (Nat.lt_of_lt_of_le hj h.up) hne (fun hc=>by
   rcases h.mine j hc with h | h
   ·exact ho h
   ·omega),h.get j hj hne ho]
 ·rcases k.mine j hj with h1 | h1
  ·exact h.mine j h1
  ·have:=h.up; exact .inr (by omega)
theorem AFr.loc {H H1 H2:Hp} {cs cs1:AV} {ab:Nat} (h:AFr H cs ab H1 cs1) (hn:H1.n≤H2.n) (hg:∀ j,j<H.n→H2.get j=H1.get j):AFr H cs ab H2 cs1 :=
 ⟨Nat.le_trans h.up hn,fun j hj hne ho=>by rw [hg j hj,h.get j hj hne ho],h.mine⟩
theorem AddH.loc {t:AV} {C:List (List Lk)} {ab mb:Nat} {cs:AV} {H H':Hp} (h:AddH t C ab mb cs H) (hn:H.n≤H'.n) (h1:H'.get ab=H.get ab) (h2:∀ j,own cs j→H'.get j=H.get j):AddH t C ab mb cs H' :=
 ⟨by rw [h1]; exact h.gab,Nat.lt_of_lt_of_le h.nab hn,h.gcs.keep h2 hn,h.csab⟩
def AddOk (σ:Sig) (f:Nat):Prop:=∀ (l:List Sl),SlsOk f l→∀ (t:AV) (C:List (List Lk)) (ab mb:Nat) (cs:AV) (H:Hp) (K:AV→Hp→Prop),AddH t C ab mb cs H→C.length+cntF f l≤NB →
 (∀ (H':Hp) (cs':AV) (C2:List (List Lk)) (r:AV) (ns:List Nat),AddH t (C++C2) ab mb cs' H'→Rep (C++C2) f l ns→C2.length=cntF f l→(∀ c ∈ C2,ChOk c)→Gs 1 H' r (ns.map encN)→(∀ j,own r j→H.n≤j∧¬ own cs' j)→AFr H cs ab H' cs'→K r H') →
 callK Tryz.prog σ n_match_asked_add [.ptr ab 0,sls l] H K
structure AS (t:AV) (C0:List (List Lk)) (ab mb:Nat) (H0:Hp) (cs0:AV) (C2:List (List Lk)) (cs:AV) (H:Hp) (y5:AV) (ns:List Nat):Prop where
 add:AddH t (C0++C2) ab mb cs H
 fr:AFr H0 cs0 ab H cs
 ok:∀ c ∈ C2,ChOk c
 out:Gs 1 H y5 (ns.map encN)
 o5:∀ j,own y5 j→H0.n≤j∧¬ own cs j
structure Mine (H0:Hp) (cs y5:AV) (sz:Nat) (H:Hp) (x:AV) (rows:List (List AV)):Prop where
 gs:Gs sz H x rows
 o:∀ j,own x j→H0.n≤j∧¬ own cs j∧¬ own y5 j
theorem AS.loc {t:AV} {C0 C2:List (List Lk)} {ab mb:Nat} {H0 H H':Hp} {cs0 cs y5:AV} {ns:List Nat} (h:AS t C0 ab mb H0 cs0 C2 cs H y5 ns) (hab:ab<H0.n) (hn:H.n≤H'.n) (hg:∀ j,j<H0.n→H'.get j=H.get j) (h1:∀ j,own cs j→H'.get j=H.get j) (h5:∀ j,own y5 j→H'.get j=H.get j):AS t C0 ab mb H0 cs0 C2 cs H' y5 ns :=
 ⟨h.add.loc hn (hg _ hab) h1,h.fr.loc hn hg,h.ok,h.out.keep h5 hn,h.o5⟩
theorem Mine.loc {H0 H H':Hp} {cs y5 x:AV} {sz:Nat} {rows:List (List AV)} (h:Mine H0 cs y5 sz H x rows) (hn:H.n≤H'.n) (h1:∀ j,own x j→H'.get j=H.get j):Mine H0 cs y5 sz H' x rows:=⟨h.gs.keep h1 hn,h.o⟩
theorem L0_fz {K:AV→Hp→Prop} {y0 y5 y8 y11 y14 y15 y16 y21 y22 y23 y31 y32 y33:AV} {H H2:Hp} (k:HFz H H2) (h:match_asked_add.L0 σ K y0 y5 y8 y11 y14 y15 y16 y21 y22 y23 y31 y32 y33 H2):match_asked_add.L0 σ K y0 y5 y8 y11 y14 y15 y16 y21 y22 y23 y31 y32 y33 H:=fun js=>k.loop (h js)
theorem L1_fz {K:AV→Hp→Prop} {y0 y5 y8 y11 y14 y15 y16 y21 y22 y23 y31 y32 y33:AV} {H H2:Hp} (k:HFz H H2) (h:match_asked_add.L1 σ K y0 y5 y8 y11 y14 y15 y16 y21 y22 y23 y31 y32 y33 H2):match_asked_add.L1 σ K y0 y5 y8 y11 y14 y15 y16 y21 y22 y23 y31 y32 y33 H:=fun js=>k.loop (h js)
theorem L2_fz {K:AV→Hp→Prop} {y0 y5 y8 y11 y14 y15 y16 y21 y22 y23 y31 y32 y33:AV} {H H2:Hp} (k:HFz H H2) (h:match_asked_add.L2 σ K y0 y5 y8 y11 y14 y15 y16 y21 y22 y23 y31 y32 y33 H2):match_asked_add.L2 σ K y0 y5 y8 y11 y14 y15 y16 y21 y22 y23 y31 y32 y33 H:=fun js=>k.loop (h js)
def lsRow (l:List Nat):List AV:=[ints l]
section
attribute [local irreducible] match_asked_add.L0 match_asked_add.L1 match_asked_add.L2
theorem noId_lsRows (l:List (List Nat)):noIdss (l.map lsRow)=true:=noIds_map _ (fun l=>by simp [lsRow,noIds,noId_ints]) l
theorem encLk_eq (p:Pt) (lsl:List (List Nat)):encLk ⟨p,lsl⟩=encPt p++[.imm 1 (lsl.map lsRow)]:=rfl
theorem add_L2 {f:Nat} (ih:AddOk σ f) {t:AV} {C0:List (List Lk)} {ab mb:Nat} {H0:Hp} {cs0:AV} (hab:ab<H0.n) {K:AV→Hp→Prop} {y5:AV} {ns:List Nat} {cl:List Lk} {p:Pt} (hpl:p.c.pseudos.length≤NB) (hp:∀ q ∈ p.c.pseudos,(i64 q.a∧i64 q.b)∧SlsOk f q.list)
  {y14 y15 y16 y21 y22:AV} {j:Nat} (hj:j<NB) (hcl:cl.length≤j) {R:Nat} {P:List (List Lk)→Prop}
  (hK:∀ (H:Hp) (cs:AV) (C2:List (List Lk)) (y8 y11:AV) (lsl:List (List Nat)) (y31 y32 y33:AV),AS t C0 ab mb H0 cs0 C2 cs H y5 ns→P C2→Mine H0 cs y5 7 H y8 ((cl++[Lk.mk p lsl]).map encLk)→lsl.length=p.c.pseudos.length→(∀ (j:Nat) (q:Ps) (ns':List Nat),p.c.pseudos[j]?=some q→lsl[j]?=some ns'→Rep (C0++C2) f q.list ns')→(∀ l ∈ lsl,l.length≤NB) →
   (C0++C2).length+R≤NB→match_asked_add.L1 σ K (.ptr ab 0) y5 y8 y11 y14 y15 y16 y21 y22 (I ((j+1:Nat):Int)) y31 y32 y33 H) :
  ∀ (m k:Nat) (H:Hp) (cs:AV) (C2:List (List Lk)) (y8:AV) (xb:Nat) (lv:AV) (lsl:List (List Nat)),p.c.pseudos.length - k=m→k≤p.c.pseudos.length→AS t C0 ab mb H0 cs0 C2 cs H y5 ns→(∀ D,C2 <+: D→D.length=C2.length+((p.c.pseudos.drop k).map fun q=>cntF f q.list).sum→P D)→Mine H0 cs y5 7 H y8 (cl.map encLk)→H.get xb=some (.cells (encPt p++[lv]) true)→H0.n≤xb→xb<H.n→¬ own cs xb→¬ own y5 xb→¬ own y8 xb →
   Mine H0 cs y5 1 H lv (lsl.map lsRow)→¬ own lv xb→(∀ i,own lv i→¬ own y8 i)→lsl.length=k→(∀ (j:Nat) (q:Ps) (ns':List Nat),p.c.pseudos[j]?=some q→lsl[j]?=some ns'→Rep (C0++C2) f q.list ns')→(∀ l ∈ lsl,l.length≤NB) →
   (C0++C2).length+(((p.c.pseudos.drop k).map fun q=>cntF f q.list).sum+R)≤NB →
   match_asked_add.L2 σ K (.ptr ab 0) y5 y8 (.ptr xb 0) y14 y15 y16 y21 y22 (I (j:Int)) (.imm 4 (p.c.pseudos.map encPs)) (I p.c.pseudos.length) (I (k:Int)) H:=by
 have hNB:NB=1048576:=rfl
 intro m
 induction m with
 | zero =>
  intro k H cs C2 y8 xb lv lsl hm hk hA hP h8 gx hx0 hxn hxc hx5 hx8 hl hlx hl8 hlk hrep hlen hcnt
  have:k=p.c.pseudos.length:=by omega
  subst this
  refine match_asked_add.L2_step ?_
  have hl7:ldL true 7 (encPt p++[lv])=some (.agg (encPt p++[lv])):=ldL_all (by simp)
  simp only [b_lss,Int.lt_irrefl,decide_false,bnd_some,ifB_lit,Bool.false_eq_true,if_false,ld_ptr,gx,ldO_cells,List.drop_zero,hl7]
  have hone:(encPt p++[lv]).all AV.one=true:=by simp [hl.gs.one]
  refine bnd_app1 (y:=.agg (encPt p++[lv])) h8.gs (by simp) rfl hone (by simp; omega) (by simp; omega) fun y8' H2 g8 f8=>?_
  simp only [b_add,bnd_some]
  rw [wr_succ (by omega)]
  have own8:∀ i,own y8' i→H0.n≤i∧¬ own cs i∧¬ own y5 i∧¬ own lv i:=fun i hi=>by
   rcases f8.mine i hi with h | h
   ·exact ⟨(h8.o i h).1,(h8.o i h).2.1,(h8.o i h).2.2,fun h'=>hl8 i h' h⟩
   ·have h0:=hA.fr.up
    exact ⟨by omega,fun h'=>by have:=hA.add.gcs.lt h'; omega,fun h'=>by have:=hA.out.lt h'; omega,fun h'=>by have:=hl.gs.lt h'; omega⟩
  have keep:∀ i,i<H.n→¬ own y8 i→H2.get i=H.get i:=fun i hi ho=>f8.same i hi ho
  have hA2:AS t C0 ab mb H0 cs0 C2 cs H2 y5 ns:=hA.loc hab f8.grow (fun i hi=>keep i (by have:=hA.fr.up; omega) (fun h=>by have:=(h8.o i h).1; omega)) (fun i hi=>keep i (hA.add.gcs.lt hi) (fun h=>(h8.o i h).2.1 hi)) (fun i hi=>keep i (hA.out.lt hi) (fun h=>(h8.o i h).2.2 hi))
  have hl2:Gs 1 H2 lv (lsl.map lsRow):=hl.gs.keep (fun i hi=>keep i (hl.gs.lt hi) (hl8 i hi)) f8.grow
  have hcells:(AV.agg (encPt p++[lv])).cells=encPt p++[lv]:=rfl
  rw [hcells] at g8
  obtain ⟨H3,z1,z2,z3,z4⟩:=frz_in (j:=6) g8 hl2 (noId_lsRows lsl) (by rw [List.getElem?_append_right (by simp)]; simp) (fun i hi=>(own8 i hi).2.2.2)
  have hrow:(encPt p++[lv]).set 6 (.imm 1 (lsl.map lsRow))=encLk ⟨p,lsl⟩:=by
   rw [encLk_eq,List.set_append_right _ _ (by simp)]
   simp
  rw [hrow] at z3
  have z3':Gs 7 H3 y8' ((cl++[Lk.mk p lsl]).map encLk):=by simpa using z3
  have fin:match_asked_add.L1 σ K (.ptr ab 0) y5 y8' (.ptr xb 0) y14 y15 y16 y21 y22 (I ((j+1:Nat):Int)) (.imm 4 (p.c.pseudos.map encPs)) (I p.c.pseudos.length) (I (p.c.pseudos.length:Int)) H3:=by
   refine hK H3 cs C2 y8' (.ptr xb 0) lsl _ _ _ ?_ (hP C2 (List.prefix_refl _) (by simp)) ⟨z3',fun i hi=>⟨(own8 i hi).1,(own8 i hi).2.1,(own8 i hi).2.2.1⟩⟩ hlk hrep hlen (by simp at hcnt ⊢; omega)
   refine hA2.loc hab (by omega) (fun i hi=>z4 i (fun h=>by have:=(own8 i h).1; omega) (fun h=>by have:=(hl.o i h).1; omega)) (fun i hi=>z4 i (fun h=>(own8 i h).2.1 hi) (fun h=>(hl.o i h).2.1 hi)) (fun i hi=>z4 i (fun h=>(own8 i h).2.2.1 hi) (fun h=>(hl.o i h).2.2 hi))
  exact L1_fz z1 fin
 | succ m ihm =>
  intro k H cs C2 y8 xb lv lsl hm hk hA hP h8 gx hx0 hxn hxc hx5 hx8 hl hlx hl8 hlk hrep hlen hcnt
  have hlt:k<p.c.pseudos.length:=by omega
  obtain ⟨q,hq⟩:=get_lt hlt
  have hqm:=List.mem_of_getElem? hq
  have hlt':(k:Int)<p.c.pseudos.length:=by omega
  rw [drop_get hq,List.map_cons,List.sum_cons] at hcnt
  have hdq:p.c.pseudos.drop k=q::p.c.pseudos.drop (k+1):=drop_get hq
  refine match_asked_add.L2_step ?_
  obtain ⟨H6,hH6⟩:∃ H6,H6=(H.new (.cells [I 0,I 0,I 0,.lit (.slice none 0 0)] true)).set H.n (some (.cells (encPs q) true)):=⟨_,rfl⟩
  have hst:stA 4 (H.new (.cells [I 0,I 0,I 0,.lit (.slice none 0 0)] true)) (.ptr H.n 0) (.agg (encPs q))=some H6:=by
   rw [hH6]
   simp
   rw [ov_Ps q (by simp)]
  have k6:∀ i,i<H.n→H6.get i=H.get i:=fun i hi=>by
   have:i≠H.n:=by omega
   rw [hH6]; simp [this]
  have n6:H6.n=H.n+1:=by rw [hH6]; rfl
  have g6:H6.get H.n=some (.cells (encPs q) true):=by rw [hH6]; simp
  clear hH6
  have gx6:H6.get xb=some (.cells (encPt p++[lv]) true):=by rw [k6 xb hxn]; exact gx
  have hd6:ldL false 1 ((encPt p++[lv]).drop 6)=some lv:=by rw [List.drop_append_of_le_length (by simp),List.drop_of_length_le (by simp)]; simp
  simp only [b_lss,hlt',decide_true,bnd_some,ifB_lit,if_true,ix_map hq,ld_ip,ldL_ps,allocK_eq,hst,sh_ptr,Nat.zero_add,ld_ptr,gx6,ldO_cells,hd6,g6,f_encPs3]
  have hA6:AS t C0 ab mb H0 cs0 C2 cs H6 y5 ns:=hA.loc hab (by omega) (fun i hi=>k6 i (by have:=hA.fr.up; omega)) (fun i hi=>k6 i (hA.add.gcs.lt hi)) (fun i hi=>k6 i (hA.out.lt hi))
  refine ih q.list (hp q hqm).2 t (C0++C2) ab mb cs H6 _ hA6.add (by omega) fun H' cs' D r ns' a1 a2 a3 a4 a5 a6 a7=>?_
  have hxab:xb≠ab:=by omega
  have k7:∀ i,H0.n≤i→i<H6.n→¬ own cs i→H'.get i=H6.get i:=fun i h1 h2 h3=>a7.get i h2 (by omega) h3
  have gx7:H'.get xb=some (.cells (encPt p++[lv]) true):=by rw [k7 xb hx0 (by omega) hxc]; exact gx6
  have up7:=a7.up
  have cs7:∀ i,own cs' i→own cs i∨H6.n≤i:=a7.mine
  have hl7:Mine H0 cs' y5 1 H' lv (lsl.map lsRow):=by
   refine ⟨hl.gs.keep (fun i hi=>?_) (by omega),fun i hi=>⟨(hl.o i hi).1,fun h=>?_,(hl.o i hi).2.2⟩⟩
   ·have:=hl.gs.lt hi
    rw [k7 i (hl.o i hi).1 (by omega) (hl.o i hi).2.1,k6 i this]
   ·rcases cs7 i h with h | h
    ·exact (hl.o i hi).2.1 h
    ·have:=hl.gs.lt hi; omega
  have h87:Mine H0 cs' y5 7 H' y8 (cl.map encLk):=by
   refine ⟨h8.gs.keep (fun i hi=>?_) (by omega),fun i hi=>⟨(h8.o i hi).1,fun h=>?_,(h8.o i hi).2.2⟩⟩
   ·have:=h8.gs.lt hi
    rw [k7 i (h8.o i hi).1 (by omega) (h8.o i hi).2.1,k6 i this]
   ·rcases cs7 i h with h | h
    ·exact (h8.o i hi).2.1 h
    ·have:=h8.gs.lt hi; omega
  have hA7:AS t C0 ab mb H0 cs0 (C2++D) cs' H' y5 ns:=by
   refine ⟨by rw [← List.append_assoc]; exact a1,hA6.fr.trans a7,fun c hc=>?_,hA6.out.keep (fun i hi=>?_) a7.up,fun i hi=>⟨(hA.o5 i hi).1,fun h=>?_⟩⟩
   ·rcases List.mem_append.1 hc with h | h
    ·exact hA.ok c h
    ·exact a4 c h
   ·exact k7 i (hA.o5 i hi).1 (hA6.out.lt hi) (hA.o5 i hi).2
   ·rcases cs7 i h with h | h
    ·exact (hA.o5 i hi).2 h
    ·have:=hA.out.lt hi; omega
  have hxc7:¬ own cs' xb:=fun h=>by
   rcases cs7 xb h with h | h
   ·exact hxc h
   ·omega
  have hl7':∀ i,own lv i→i<H'.n:=fun i hi=>hl7.gs.lt hi
  have one7:AV.one r=true:=a5.one
  have cel7:=a5.cells
  have hxn7:xb≠H'.n:=by omega
  simp only [kp_ptr,gx7]
  refine ⟨by rw [gx6],?_⟩
  have hlenN:lsl.length<NB:=by omega
  refine bnd_app1k (y:=r) (rows:=lsl.map lsRow) (by simp [hxn7,gx7]) hl7.gs (by rw [cel7.1]; rfl) cel7.2 (by rw [cel7.1]; simpa using one7) (by simp; omega) (by simp; omega) fun lv' H2 g2 f2=>?_
  rw [cel7.1] at g2
  have ownl:∀ i,own lv' i→own lv i∨(H'.n≤i∧i<H2.n):=f2.mine
  have k8:∀ i,i<H'.n→¬ own lv i→H2.get i=H'.get i:=fun i h1 h2=>f2.same i h1 h2
  have gx8:H2.get xb=some (.cells (encPt p++[lv]) true):=by rw [k8 xb (by omega) hlx]; exact gx7
  have hst2:=g2.st (id:=xb) (off:=6) gx8 (by simp)
  have hset:(encPt p++[lv]).set 6 lv'=encPt p++[lv']:=by
   rw [List.set_append_right _ _ (by simp)]
   simp
  rw [hset] at hst2
  simp only [hst2,bnd_some,b_add]
  rw [wr_succ (by omega)]
  obtain ⟨H3,hH3⟩:∃ H3,H3=H2.set xb (some (.cells (encPt p++[lv']) true)):=⟨_,rfl⟩
  rw [← hH3]
  have k9:∀ i,i≠xb→H3.get i=H2.get i:=fun i hi=>by rw [hH3]; simp [hi]
  have gx9:H3.get xb=some (.cells (encPt p++[lv']) true):=by rw [hH3]; simp
  have n9:H3.n=H2.n:=by rw [hH3]; rfl
  clear hH3
  have grow2:=f2.grow
  have lvx:¬ own lv' xb:=fun h=>by
   rcases ownl xb h with h | h
   ·exact hlx h
   ·omega
  have rx:¬ own r xb:=fun h=>by have:=(a6 xb h).1; omega
  have rlv:∀ i,own lv' i→¬ own r i:=fun i hi h=>by
   rcases ownl i hi with h1 | h1
   ·have:=(a6 i h).1; have:=hl.gs.lt h1; omega
   ·have:=a5.lt h; omega
  have g9:Gs 1 H3 lv' (lsl.map lsRow++[[r]]):=g2.keep (fun i hi=>k9 i (fun e=>lvx (e ▸ hi))) (by omega)
  have gr9:Gs 1 H3 r (ns'.map encN):=a5.keep (fun i hi=>by
   rw [k9 i (fun e=>rx (e ▸ hi)),k8 i (a5.lt hi) (fun h=>by have:=(a6 i hi).1; have:=hl.gs.lt h; omega)]) (by omega)
  obtain ⟨H4,z1,z2,z3,z4⟩:=frz_in (j:=0) g9 gr9 (noIds_map _ (fun _=>rfl) _) rfl rlv
  have hrow:([r]:List AV).set 0 (.imm 1 (ns'.map encN))=lsRow ns':=rfl
  rw [hrow] at z3
  have z3':Gs 1 H4 lv' ((lsl++[ns']).map lsRow):=by simpa using z3
  have same:∀ i,i<H'.n→i≠xb→¬ own lv i→¬ own r i→H4.get i=H'.get i:=fun i h1 h2 h3 h4=>by
   rw [z4 i (fun h=>by
    rcases ownl i h with h | h
    ·exact h3 h
    ·omega) h4,k9 i h2,k8 i h1 h3]
  have hA4:AS t C0 ab mb H0 cs0 (C2++D) cs' H4 y5 ns:=by
   refine hA7.loc hab (by omega) (fun i hi=>same i (by have:=hA7.fr.up; omega) (by omega) (fun h=>by have:=(hl.o i h).1; omega) (fun h=>by have:=(a6 i h).1; have:=hA.fr.up; omega)) (fun i hi=>same i (a1.gcs.lt hi) (fun e=>hxc7 (e ▸ hi)) (fun h=>(hl7.o i h).2.1 hi) (fun h=>(a6 i h).2 hi)) (fun i hi=>same i (hA7.out.lt hi) (fun e=>hx5 (e ▸ hi)) (fun h=>(hl.o i h).2.2 hi) (fun h=>by have:=(a6 i h).1; have:=hA.out.lt hi; omega))
  refine L2_fz z1 ?_
  refine ihm (k+1) H4 cs' (C2++D) y8 xb lv' (lsl++[ns']) (by omega) (by omega) hA4 (fun D2 hpre hD2=>?_) (h87.loc (by omega) fun i hi=>?_) ?_ hx0 (by omega) hxc7 hx5 hx8 ⟨z3',fun i hi=>?_⟩ lvx (fun i hi h=>?_) (by simp [hlk]) (fun j q' ns2 hq' hns2=>?_) (fun l hl=>?_) ?_
  ·refine hP D2 ((List.prefix_append C2 D).trans hpre) ?_
   rw [hD2,hdq,List.map_cons,List.sum_cons,List.length_append,a3]
   omega
  ·exact same i (by have:=h8.gs.lt hi; omega) (fun e=>hx8 (e ▸ hi)) (fun h=>hl8 i h hi) (fun h=>by have:=(a6 i h).1; have:=h8.gs.lt hi; omega)
  ·rw [z4 xb lvx rx]; exact gx9
  ·rcases ownl i hi with h | h
   ·exact hl7.o i h
   ·exact ⟨by omega,fun h'=>by have:=a1.gcs.lt h'; omega,fun h'=>by have:=hA7.out.lt h'; omega⟩
  ·rcases ownl i hi with h1 | h1
   ·exact hl8 i h1 h
   ·have:=h8.gs.lt h; omega
  ·rw [← List.append_assoc]
   by_cases hjk:j<lsl.length
   ·rw [List.getElem?_append_left hjk] at hns2
    exact (hrep j q' ns2 hq' hns2).mono
   ·rw [List.getElem?_append_right (by omega)] at hns2
    have h1:=(List.getElem?_eq_some_iff.1 hns2).1
    simp at h1
    have:j=k:=by omega
    subst this
    rw [hq] at hq'
    cases hq'
    simp [hlk] at hns2
    subst hns2
    exact a2
  ·rcases List.mem_append.1 hl with h | h
   ·exact hlen l h
   ·simp at h
    subst h
    have hsl:=(hp q hqm).2
    cases f with
    | zero=>exact hsl.elim
    | succ f =>
     have:=a2.1
     have:=hsl.1
     omega
  ·rw [← List.append_assoc,List.length_append,a3]
   omega
def LinkRep (C:List (List Lk)) (f:Nat) (cl:List Lk):Prop:=∀ (k:Nat) (x:Lk),cl[k]?=some x→x.lists.length=x.part.c.pseudos.length∧∀ (j:Nat) (q:Ps) (ns:List Nat),x.part.c.pseudos[j]?=some q→x.lists[j]?=some ns→Rep C f q.list ns
def cntP (f:Nat) (p:Pt):Nat:=(p.c.pseudos.map fun q=>cntF f q.list).sum
def SlOk (f:Nat) (s:Sl):Prop:=s.length≤NB∧∀ p ∈ s,CpOk p.c∧p.c.pseudos.length≤NB∧∀ q ∈ p.c.pseudos,(i64 q.a∧i64 q.b)∧SlsOk f q.list
theorem add_L1 {f:Nat} (ih:AddOk σ f) {t:AV} {C0:List (List Lk)} {ab mb:Nat} {H0:Hp} {cs0:AV} (hab:ab<H0.n) {K:AV→Hp→Prop} {y5:AV} {ns:List Nat} (hns:ns.length<NB) {s:Sl} (hs:SlOk f s) {y14 y15:AV} {m0:Nat} (hm0:m0<NB) {R:Nat} {Q:List (List Lk)→Prop}
  (hK:∀ (H:Hp) (cs:AV) (C2:List (List Lk)) (y5' y8 y11 y21 y22 y23 y31 y32 y33:AV) (cl:List Lk),AS t C0 ab mb H0 cs0 (C2++[cl]) cs H y5' (ns++[(C0++C2).length])→Q C2→cl.map (·.part)=s→LinkRep (C0++C2) f cl→(C0++C2).length+1+R≤NB →
   match_asked_add.L0 σ K (.ptr ab 0) y5' y8 y11 y14 y15 (I ((m0+1:Nat):Int)) y21 y22 y23 y31 y32 y33 H) :
  ∀ (n2 j:Nat) (H:Hp) (cs:AV) (C2:List (List Lk)) (y8 y11 y31 y32 y33:AV) (cl:List Lk),s.length - j=n2→j≤s.length→AS t C0 ab mb H0 cs0 C2 cs H y5 ns→(∀ D,C2 <+: D→D.length=C2.length+((s.drop j).map (cntP f)).sum→Q D)→Mine H0 cs y5 7 H y8 (cl.map encLk)→cl.map (·.part)=s.take j→LinkRep (C0++C2) f cl→(∀ x ∈ cl,LkOk x) →
   (C0++C2).length+(((s.drop j).map (cntP f)).sum+(1+R))≤NB →
   match_asked_add.L1 σ K (.ptr ab 0) y5 y8 y11 y14 y15 (I (m0:Int)) (.imm 6 (s.map encPt)) (I s.length) (I (j:Int)) y31 y32 y33 H:=by
 have hNB:NB=1048576:=rfl
 intro n2
 induction n2 with
 | zero =>
  intro j H cs C2 y8 y11 y31 y32 y33 cl hn hj hA hQ h8 hparts hrep hlk hcnt
  have:j=s.length:=by omega
  subst this
  rw [List.take_length] at hparts
  have hcl:cl.length=s.length:=by rw [← hparts,List.length_map]
  refine match_asked_add.L1_step ?_
  have hcs1:ldA false 1 H (.ptr ab 1)=some cs:=by simp [hA.add.gab]
  have hlenC:lenSl cs=some (I ((C0++C2).length:Int)):=by rw [hA.add.gcs.len,List.length_map]
  simp only [b_lss,Int.lt_irrefl,decide_false,bnd_some,ifB_lit,Bool.false_eq_true,if_false,n_ptr,sh_ptr,Nat.zero_add,hcs1,hlenC]
  have habn:=hA.add.nab
  have up0:=hA.fr.up
  have cslt:∀ i,own cs i→i<H.n:=fun i hi=>hA.add.gcs.lt hi
  refine bnd_app1 (y:=I ((C0++C2).length:Int)) hA.out rfl rfl rfl (by simp; omega) (by simp; omega) fun y5' H1 g1 f1=>?_
  have grow1:=f1.grow
  have k1:∀ i,i<H.n→¬ own y5 i→H1.get i=H.get i:=fun i h1 h2=>f1.same i h1 h2
  have h5ab:¬ own y5 ab:=fun h=>by have:=(hA.o5 ab h).1; omega
  have gab1:H1.get ab=some (.cells [t,cs,.mp mb] true):=by rw [k1 ab habn h5ab]; exact hA.add.gab
  have gcs1:Gs 1 H1 cs ((C0++C2).map fun c=>[chainV c]):=hA.add.gcs.keep (fun i hi=>k1 i (cslt i hi) (fun h=>(hA.o5 i h).2 hi)) f1.grow
  have g81:Gs 7 H1 y8 (cl.map encLk):=h8.gs.keep (fun i hi=>k1 i (h8.gs.lt hi) (fun h=>(h8.o i hi).2.2 h)) f1.grow
  have hcs2:ldA false 1 H1 (.ptr ab 1)=some cs:=by simp [gab1]
  simp only [n_ptr,bnd_some,sh_ptr,Nat.zero_add,hcs2]
  have cel8:=h8.gs.cells
  have own5:∀ i,own y5' i→own y5 i∨(H.n≤i∧i<H1.n):=f1.mine
  refine bnd_app1 (y:=y8) gcs1 (by rw [cel8.1]; rfl) cel8.2 (by rw [cel8.1]; simpa using h8.gs.one) (by simp at hcnt ⊢; omega) (by simp at hcnt ⊢; omega) fun cs' H2 g2 f2=>?_
  rw [cel8.1] at g2
  have grow2:=f2.grow
  have csab:¬ own cs ab:=hA.add.csab
  have k2:∀ i,i<H1.n→¬ own cs i→H2.get i=H1.get i:=fun i h1 h2=>f2.same i h1 h2
  have gab2:H2.get ab=some (.cells [t,cs,.mp mb] true):=by rw [k2 ab (by omega) csab]; exact gab1
  have ownc:∀ i,own cs' i→own cs i∨(H1.n≤i∧i<H2.n):=f2.mine
  have cs'ab:¬ own cs' ab:=fun h=>by
   rcases ownc ab h with h | h
   ·exact csab h
   ·omega
  have hst:=g2.st (id:=ab) (off:=1) gab2 (by simp)
  simp only [n_ptr,bnd_some,sh_ptr,Nat.zero_add,hst,b_add]
  rw [wr_succ (by omega)]
  obtain ⟨H3,hH3⟩:∃ H3,H3=H2.set ab (some (.cells ([t,cs,.mp mb].set 1 cs') true)):=⟨_,rfl⟩
  rw [← hH3]
  have k3:∀ i,i≠ab→H3.get i=H2.get i:=fun i hi=>by rw [hH3]; simp [hi]
  have gab3:H3.get ab=some (.cells [t,cs',.mp mb] true):=by rw [hH3]; simp
  have n3:H3.n=H2.n:=by rw [hH3]; rfl
  clear hH3
  have c8:∀ i,own cs' i→¬ own y8 i:=fun i hi h=>by
   rcases ownc i hi with h1 | h1
   ·exact (h8.o i h).2.1 h1
   ·have:=h8.gs.lt h; omega
  have g3:Gs 1 H3 cs' (((C0++C2).map fun c=>[chainV c])++[[y8]]):=g2.keep (fun i hi=>k3 i (fun e=>cs'ab (e ▸ hi))) (by omega)
  have g83:Gs 7 H3 y8 (cl.map encLk):=g81.keep (fun i hi=>by
   have h1:=(h8.o i hi)
   have:=h8.gs.lt hi
   rw [k3 i (by omega),k2 i (by omega) h1.2.1]) (by omega)
  obtain ⟨H4,z1,z2,z3,z4⟩:=frz_in (j:=0) g3 g83 (noIds_map _ noId_lk _) rfl c8
  have hrow:([y8]:List AV).set 0 (.imm 7 (cl.map encLk))=[chainV cl]:=rfl
  rw [hrow] at z3
  have z3':Gs 1 H4 cs' ((C0++(C2++[cl])).map fun c=>[chainV c]):=by simpa using z3
  have y8ab:¬ own y8 ab:=fun h=>by have:=(h8.o ab h).1; omega
  have same:∀ i,i<H1.n→i≠ab→¬ own cs i→¬ own y8 i→H4.get i=H1.get i:=fun i h1 h2 h3 h4=>by
   rw [z4 i (fun h=>by
    rcases ownc i h with h | h
    ·exact h3 h
    ·omega) h4,k3 i h2,k2 i h1 h3]
  refine L0_fz z1 ?_
  have o5':∀ i,own y5' i→H0.n≤i∧¬ own cs i∧¬ own y8 i:=fun i hi=>by
   rcases own5 i hi with h | h
   ·exact ⟨(hA.o5 i h).1,(hA.o5 i h).2,fun h'=>(h8.o i h').2.2 h⟩
   ·exact ⟨by omega,fun h'=>by have:=cslt i h'; omega,fun h'=>by have:=h8.gs.lt h'; omega⟩
  have g5:Gs 1 H4 y5' ((ns++[(C0++C2).length]).map encN):=by
   have:(I ((C0++C2).length:Int)).cells=encN (C0++C2).length:=rfl
   rw [this] at g1
   have h1:Gs 1 H1 y5' ((ns++[(C0++C2).length]).map encN):=by simpa using g1
   refine h1.keep (fun i hi=>same i (h1.lt hi) (fun e=>?_) (o5' i hi).2.1 (o5' i hi).2.2) (by omega)
   subst e
   have:=(o5' i hi).1
   omega
  refine hK H4 cs' C2 y5' y8 _ _ _ _ _ _ _ cl ⟨⟨?_,by omega,z3',cs'ab⟩,⟨by omega,fun i h1 h2 h3=>?_,fun i hi=>?_⟩,fun c hc=>?_,g5,fun i hi=>⟨(o5' i hi).1,fun h=>?_⟩⟩ (hQ C2 (List.prefix_refl _) (by simp)) hparts hrep (by simp at hcnt ⊢; omega)
  ·rw [z4 ab cs'ab y8ab]; exact gab3
  ·have hi5:¬ own y5 i:=fun h=>by have:=(hA.o5 i h).1; omega
   have hi8:¬ own y8 i:=fun h=>by have:=(h8.o i h).1; omega
   have hic:¬ own cs i:=fun h=>by
    rcases hA.fr.mine i h with h | h
    ·exact h3 h
    ·omega
   rw [same i (by omega) h2 hic hi8,k1 i (by omega) hi5]
   exact hA.fr.get i h1 h2 h3
  ·rcases ownc i hi with h | h
   ·exact hA.fr.mine i h
   ·exact .inr (by omega)
  ·rcases List.mem_append.1 hc with h | h
   ·exact hA.ok c h
   ·simp at h
    subst h
    exact ⟨by rw [hcl]; exact hs.1,hlk⟩
  ·rcases ownc i h with h | h
   ·exact (o5' i hi).2.1 h
   ·rcases own5 i hi with h' | h'
    ·have:=hA.out.lt h'; omega
    ·omega
 | succ n2 ih2 =>
  intro j H cs C2 y8 y11 y31 y32 y33 cl hn hj hA hQ h8 hparts hrep hlk hcnt
  have hlt:j<s.length:=by omega
  obtain ⟨p,hp⟩:=get_lt hlt
  have hpm:=List.mem_of_getElem? hp
  obtain ⟨hc1,hc2,hc3⟩:=hs.2 p hpm
  have hlt':(j:Int)<s.length:=by omega
  have hdp:s.drop j=p::s.drop (j+1):=drop_get hp
  rw [hdp,List.map_cons,List.sum_cons] at hcnt
  have hcl:cl.length=j:=by
   have:=congrArg List.length hparts
   simp at this
   omega
  refine match_asked_add.L1_step ?_
  have hst1:stA 6 (H.new (.cells [I 0,Sx ⟨#[]⟩,.lit (.slice none 0 0),.lit (.slice none 0 0),.lit (.slice none 0 0),.lit (.slice none 0 0)] true)) (.ptr H.n 0) (.agg (encPt p))=some ((H.new (.cells [I 0,Sx ⟨#[]⟩,.lit (.slice none 0 0),.lit (.slice none 0 0),.lit (.slice none 0 0),.lit (.slice none 0 0)] true)).set H.n (some (.cells (encPt p) true))):=by
   simp
   rw [ov_Pt p (by simp)]
  obtain ⟨H1,hH1⟩:∃ H1,H1=(H.new (.cells [I 0,Sx ⟨#[]⟩,.lit (.slice none 0 0),.lit (.slice none 0 0),.lit (.slice none 0 0),.lit (.slice none 0 0)] true)).set H.n (some (.cells (encPt p) true)):=⟨_,rfl⟩
  rw [← hH1] at hst1
  have k1:∀ i,i<H.n→H1.get i=H.get i:=fun i hi=>by
   have:i≠H.n:=by omega
   rw [hH1]; simp [this]
  have g1:H1.get H.n=some (.cells (encPt p) true):=by rw [hH1]; simp
  have n1:H1.n=H.n+1:=by rw [hH1]; rfl
  clear hH1
  have hb:bldR [I 0,Sx ⟨#[]⟩,.lit (.slice none 0 0),.lit (.slice none 0 0),.lit (.slice none 0 0),.lit (.slice none 0 0),.lit (.slice none 0 0)] [(0,6,.agg (encPt p))]=some (encPt p++[.lit (.slice none 0 0)]):=by
   simp only [bldR,cells_agg,len_encPt,beqN,decide_true,isAny_agg,Bool.not_false,Bool.and_true,bleN]
   simp [overlay]
  have hst2:stA 7 (H1.new (.cells [I 0,Sx ⟨#[]⟩,.lit (.slice none 0 0),.lit (.slice none 0 0),.lit (.slice none 0 0),.lit (.slice none 0 0),.lit (.slice none 0 0)] true)) (.ptr H1.n 0) (.agg (encPt p++[.lit (.slice none 0 0)]))=some ((H1.new (.cells [I 0,Sx ⟨#[]⟩,.lit (.slice none 0 0),.lit (.slice none 0 0),.lit (.slice none 0 0),.lit (.slice none 0 0),.lit (.slice none 0 0)] true)).set H1.n (some (.cells (encPt p++[.lit (.slice none 0 0)]) true))):=by
   simp
   rw [overlay_all (by simp)]
  obtain ⟨H2,hH2⟩:∃ H2,H2=(H1.new (.cells [I 0,Sx ⟨#[]⟩,.lit (.slice none 0 0),.lit (.slice none 0 0),.lit (.slice none 0 0),.lit (.slice none 0 0),.lit (.slice none 0 0)] true)).set H1.n (some (.cells (encPt p++[.lit (.slice none 0 0)]) true)):=⟨_,rfl⟩
  rw [← hH2] at hst2
  have k2:∀ i,i<H1.n→H2.get i=H1.get i:=fun i hi=>by
   have:i≠H1.n:=by omega
   rw [hH2]; simp [this]
  have g2:H2.get H1.n=some (.cells (encPt p++[.lit (.slice none 0 0)]) true):=by rw [hH2]; simp
  have n2':H2.n=H1.n+1:=by rw [hH2]; rfl
  clear hH2
  have g1':H2.get H.n=some (.cells (encPt p) true):=by rw [k2 H.n (by omega)]; exact g1
  have hps:ldL false 1 ((encPt p).drop 5)=some (.imm 4 (p.c.pseudos.map encPs)):=by rw [encPt_eq,encCp_eq]; rfl
  simp only [b_lss,hlt',decide_true,bnd_some,ifB_lit,if_true,ix_map hp,ld_ip,ldL_pt,allocK_eq,hst1,ld_ptr,g1,ldO_cells,List.drop_zero,hb,hst2,sh_ptr,Nat.zero_add,g1',hps,len_imm,List.length_map]
  have up0:=hA.fr.up
  have kk:∀ i,i<H.n→H2.get i=H.get i:=fun i hi=>by rw [k2 i (by omega),k1 i hi]
  have hA2:AS t C0 ab mb H0 cs0 C2 cs H2 y5 ns:=hA.loc hab (by omega) (fun i hi=>kk i (by omega)) (fun i hi=>kk i (hA.add.gcs.lt hi)) (fun i hi=>kk i (hA.out.lt hi))
  refine add_L2 ih hab hc2 hc3 (j:=j) (R:=((s.drop (j+1)).map (cntP f)).sum+(1+R)) (P:=fun D=>C2 <+: D∧D.length=C2.length+cntP f p) (by have:=hs.1; omega) (Nat.le_of_eq hcl) (fun H' cs' C3 y8' y11' lsl y31' y32' y33' b1 b2 b3 b4 b5 b6 b7=>?_) p.c.pseudos.length 0 H2 cs C2 y8 H1.n (.lit (.slice none 0 0)) [] (by omega) (Nat.zero_le _) hA2 (fun D h1 h2=>⟨h1,by rw [h2]; rfl⟩) (h8.loc (by omega) fun i hi=>kk i (h8.gs.lt hi)) g2 (by omega) (by omega) (fun h=>by have:=hA.add.gcs.lt h; omega) (fun h=>by have:=hA.out.lt h; omega) (fun h=>by have:=h8.gs.lt h; omega) ⟨.nil,fun i h=>h.elim⟩ (fun h=>h) (fun i h=>h.elim) rfl (fun j q ns' _ h=>by simp at h) (fun l h=>by cases h) (by have hcp:cntP f p=(p.c.pseudos.map (fun q=>cntF f q.list)).sum:=rfl; rw [hcp] at hcnt; simp only [List.drop_zero]; omega)
  obtain ⟨D,hD⟩:=b2.1
  refine ih2 (j+1) H' cs' C3 y8' y11' y31' y32' y33' (cl++[Lk.mk p lsl]) (by omega) (by omega) b1 (fun D2 h1 h2=>hQ D2 (b2.1.trans h1) ?_) b3 ?_ (fun k x hx=>?_) (fun x hx=>?_) b7
  ·rw [h2,b2.2,hdp,List.map_cons,List.sum_cons]
   omega
  ·rw [List.map_append,hparts,List.take_succ_eq_append_getElem hlt]
   rw [List.getElem?_eq_getElem hlt] at hp
   rw [Option.some.inj hp]
   rfl
  ·by_cases hk:k<cl.length
   ·rw [List.getElem?_append_left hk] at hx
    refine ⟨(hrep k x hx).1,fun j q ns' h1 h2=>?_⟩
    have:=((hrep k x hx).2 j q ns' h1 h2).mono (D:=D)
    rwa [List.append_assoc,hD] at this
   ·rw [List.getElem?_append_right (by omega)] at hx
    have h1:=(List.getElem?_eq_some_iff.1 hx).1
    simp at h1
    have:k - cl.length=0:=by omega
    rw [this] at hx
    simp at hx
    subst hx
    exact ⟨b4,b5⟩
  ·rcases List.mem_append.1 hx with h | h
   ·exact hlk x h
   ·simp at h
    subst h
    refine ⟨hc1,fun q hq=>(hc3 q hq).1,fun l hl=>?_⟩
    have:=b6 l hl
    rw [reach_eq]
    omega
theorem add_step {f:Nat} (ih:AddOk σ f):AddOk σ (f+1):=by
 have hNB:NB=1048576:=rfl
 intro l hl t C ab mb cs H K hA hcnt hK
 have L0:∀ (n m:Nat) (H1:Hp) (cs1:AV) (C2:List (List Lk)) (y5 y8 y11 y21 y22 y23 y31 y32 y33:AV) (ns:List Nat),l.length - m=n→m≤l.length→AS t C ab mb H cs C2 cs1 H1 y5 ns→Rep (C++C2) (f+1) (l.take m) ns→C2.length=cntF (f+1) (l.take m)→(C++C2).length+cntF (f+1) (l.drop m)≤NB →
   match_asked_add.L0 σ K (.ptr ab 0) y5 y8 y11 (sls l) (I l.length) (I (m:Int)) y21 y22 y23 y31 y32 y33 H1:=by
  intro n
  induction n with
  | zero =>
   intro m H1 cs1 C2 y5 y8 y11 y21 y22 y23 y31 y32 y33 ns hn hm h1 hr hc hb
   have:m=l.length:=by omega
   subst this
   rw [List.take_length] at hr hc
   refine match_asked_add.L0_step ?_
   simp only [b_lss,Int.lt_irrefl,decide_false,bnd_some,ifB_lit,Bool.false_eq_true,if_false]
   exact hK H1 cs1 C2 y5 ns h1.add hr hc h1.ok h1.out h1.o5 h1.fr
  | succ n ihn =>
   intro m H1 cs1 C2 y5 y8 y11 y21 y22 y23 y31 y32 y33 ns hn hm h1 hr hc hb
   have hlt:m<l.length:=by omega
   obtain ⟨s,hs⟩:=get_lt hlt
   have hsm:=List.mem_of_getElem? hs
   have hsk:SlOk f s:=hl.2 s hsm
   have hlt':(m:Int)<l.length:=by omega
   have hds:l.drop m=s::l.drop (m+1):=drop_get hs
   have hlb:=hl.1
   have hnl:ns.length=m:=by rw [hr.1,List.length_take]; omega
   have hcons:cntF (f+1) (s::l.drop (m+1))=1+(s.map (cntP f)).sum+cntF (f+1) (l.drop (m+1)):=by
    simp [cntF]
    rfl
   rw [hds,hcons] at hb
   have htk:cntF (f+1) (l.take (m+1))=cntF (f+1) (l.take m)+(1+(s.map (cntP f)).sum):=by
    have:l.take (m+1)=l.take m++[s]:=by rw [List.take_add_one,hs]; rfl
    rw [this]
    simp [cntF]
    rfl
   refine match_asked_add.L0_step ?_
   have hix:ixaSl 1 (sls l) (I (m:Int))=some (.ip (encSl s)):=ix_map hs
   have hst:stA 1 (H1.new (.cells [.lit (.slice none 0 0)] true)) (.ptr H1.n 0) (.agg (encSl s))=some ((H1.new (.cells [.lit (.slice none 0 0)] true)).set H1.n (some (.cells (encSl s) true))):=by
    simp [encSl]
   simp only [b_lss,hlt',decide_true,bnd_some,ifB_lit,if_true,hix,ld_ip,ldL_sl,allocK_eq,hst,sh_ptr,Nat.zero_add,ld_ptr,hp_get_set,ldO_cells,List.drop_zero,f_encSl0,len_imm,List.length_map]
   have up0:=h1.fr.up
   have hab:=hA.nab
   have kk:∀ i,i<H1.n→((H1.new (.cells [.lit (.slice none 0 0)] true)).set H1.n (some (.cells (encSl s) true))).get i=H1.get i:=fun i hi=>by
    have:i≠H1.n:=by omega
    simp [this]
   have h1':=h1.loc (H':=(H1.new (.cells [.lit (.slice none 0 0)] true)).set H1.n (some (.cells (encSl s) true))) hab (by simp) (fun i hi=>kk i (by omega)) (fun i hi=>kk i (h1.add.gcs.lt hi)) (fun i hi=>kk i (h1.out.lt hi))
   refine add_L1 ih hab (by omega) hsk (m0:=m) (by omega) (R:=cntF (f+1) (l.drop (m+1))) (Q:=fun D=>C2 <+: D∧D.length=C2.length+(s.map (cntP f)).sum) (fun H' cs' C3 y5' y8' y11' y21' y22' y23' y31' y32' y33' cl b1 b2 b3 b4 b5=>?_) s.length 0 _ cs1 C2 (.lit (.slice none 0 0)) _ _ _ _ [] (by omega) (Nat.zero_le _) h1' (fun D g1 g2=>⟨g1,by simpa using g2⟩) ⟨.nil,fun i h=>h.elim⟩ rfl (fun k x h=>by simp at h) (fun x h=>by cases h) (by simp at hb ⊢; omega)
   obtain ⟨D,hD⟩:=b2.1
   refine ihn (m+1) H' cs' (C3++[cl]) y5' y8' y11' y21' y22' y23' y31' y32' y33' _ (by omega) (by omega) b1 ⟨by simp [hnl]; omega,fun i s' n' hs' hn'=>?_⟩ ?_ (by simp at b5 ⊢; omega)
   ·by_cases hi:i<m
    ·rw [List.getElem?_take,if_pos (by omega)] at hs'
     rw [List.getElem?_append_left (by omega)] at hn'
     have hr2:Rep (C++(C3++[cl])) (f+1) (l.take m) ns:=by
      have:=hr.mono (D:=D++[cl])
      rwa [show C++C2++(D++[cl])=C++(C3++[cl]) by rw [← hD]; simp] at this
     exact hr2.2 i s' n' (by rw [List.getElem?_take,if_pos hi]; exact hs') hn'
    ·rw [List.getElem?_append_right (by omega)] at hn'
     have h2:=(List.getElem?_eq_some_iff.1 hn').1
     simp at h2
     have him:i=m:=by omega
     subst him
     rw [List.getElem?_take,if_pos (by omega),hs] at hs'
     cases hs'
     simp [hnl] at hn'
     subst hn'
     refine ⟨cl,by simp,b3,fun k x hx=>⟨(b4 k x hx).1,fun j q ns' g1 g2=>?_⟩⟩
     have:=((b4 k x hx).2 j q ns' g1 g2).mono (D:=[cl])
     rwa [List.append_assoc] at this
   ·rw [htk,List.length_append,b2.2,hc]
    simp
    omega
 refine match_asked_add.run ?_
 simp
 refine L0 l.length 0 H cs [] _ _ _ _ _ _ _ _ _ [] (by omega) (Nat.zero_le _) ⟨by simpa using hA,.refl _ _ _,fun c h=>(by cases h),.nil,fun i h=>h.elim⟩ ⟨rfl,fun i s n h=>by simp at h⟩ (by simp [cntF]) (by simpa using hcnt)
theorem add_ok:∀ (f:Nat),AddOk σ f
 | 0=>fun l h=>h.elim
 | f+1=>add_step (add_ok f)
end
end Go.Proofs.YthdcghnjndhecaaGreat.Ev
namespace Go.Proofs.YthdcghnjndhecaaGreat.Ev
set_option linter.unusedVariables false
set_option linter.unusedSimpArgs false
variable {σ:Sig}
theorem frz_res {sz:Nat} {H:Hp} {x:AV} {rows:List (List AV)} (hg:Gs sz H x rows) (hn:noIdss rows=true) :
  ∃ Hd H2:Hp,Hd.n=H.n∧H2.n=H.n∧(∀ id k,Hd.get id=some k→H.get id=some k∧H2.get id=none)∧(∀ id k2,H2.get id=some k2→∃ k1,H.get id=some k1∧FzB Hd k1 k2)∧Fz Hd x (.imm sz rows)∧∀ j,¬ own x j→H2.get j=H.get j:=by
 cases hg with
 | nil =>
  let Hd:Hp:=⟨H.n,Hp.empty.t⟩
  have hd0:∀ id,Hd.get id=none:=fun id=>by simp [Hd,Hp.empty,Hp.get,Tr.get]
  exact ⟨Hd,H,rfl,rfl,fun id k h=>(by rw [hd0] at h; cases h),fun id k2 h=>⟨k2,h,.refl _ _⟩,.nil,fun j _=>rfl⟩
 | sl hlt hg hsz =>
  rename_i id exx
  let Hd:Hp:=(⟨H.n,Hp.empty.t⟩:Hp).set id (some (.cells rows.flatten exx))
  have hd0:∀ j,Hd.get j=if j=id then some (.cells rows.flatten exx) else none:=fun j=>by
   show ((⟨H.n,Hp.empty.t⟩:Hp).set id _).get j=_
   rw [hp_get_set]
   split
   ·rfl
   ·simp [Hp.empty,Hp.get,Tr.get]
  have hf:Fz Hd (.sl id 0 sz rows.length none) (.imm sz rows):=.rows (cs:=rows.flatten) (ex:=exx) (by rw [hd0,if_pos rfl]) hsz (by rw [List.drop_zero]; exact List.take_of_length_le (by rw [flatten_len hsz]; exact Nat.le_refl _)) hn
  refine ⟨Hd,H.set id none,rfl,rfl,fun j k h=>?_,fun j k2 h=>?_,hf,fun j ho=>?_⟩
  ·rw [hd0] at h
   split at h
   ·rename_i e; subst e; cases h
    exact ⟨hg,by simp⟩
   ·cases h
  ·rw [hp_get_set] at h
   split at h
   ·cases h
   ·exact ⟨k2,h,.refl _ _⟩
  ·have:j≠id:=fun e=>ho (by rw [e]; rfl)
   simp [this]
theorem add_sp {f:Nat} {l:List Sl} (hl:SlsOk f l) {t:AV} {C:List (List Lk)} {ab mb:Nat} {cs:AV} {H:Hp} {K:AV→Hp→Prop} (hA:AddH t C ab mb cs H) (hc:C.length+cntF f l≤NB)
  (hK:∀ (H':Hp) (cs':AV) (C2:List (List Lk)) (ns:List Nat),AddH t (C++C2) ab mb cs' H'→Rep (C++C2) f l ns→C2.length=cntF f l→(∀ c ∈ C2,ChOk c)→AFr H cs ab H' cs'→K (ints ns) H'):callK Tryz.prog σ n_match_asked_add [.ptr ab 0,sls l] H K:=by
 obtain ⟨r,H1,hg,cs',C2,ns,h1,h2,h3,h4,h5,h6,h7⟩:=add_ok (σ:=σ) f l hl t C ab mb cs H (fun r H'=>∃ cs' C2 ns,AddH t (C++C2) ab mb cs' H'∧Rep (C++C2) f l ns∧C2.length=cntF f l∧(∀ c ∈ C2,ChOk c)∧Gs 1 H' r (ns.map encN)∧(∀ j,own r j→H.n≤j∧¬ own cs' j)∧AFr H cs ab H' cs') hA hc fun H' cs' C2 r ns a b c d e f g=>⟨cs',C2,ns,a,b,c,d,e,f,g⟩
 obtain ⟨Hd,H2,a1,a2,a3,a4,a5,a6⟩:=frz_res h5 (noIds_map _ (fun _=>rfl) ns)
 have hab:=hA.nab
 refine callK_of (hg.frzH a2 a1 a3 a4 (.inr a5)) (hK H2 cs' C2 ns (h1.loc (by omega) (a6 _ fun h=>?_) fun j hj=>a6 _ fun h=>(h6 j h).2 hj) h2 h3 h4 (h7.loc (by omega) fun j hj=>a6 _ fun h=>?_))
 ·have:=(h6 _ h).1; omega
 ·have:=(h6 _ h).1; omega
theorem selC_app {C D:List (List Lk)} {n:Nat} (h:n<C.length):selC (C++D) n=selC C n:=by
 unfold selC
 rw [List.getD_eq_getElem?_getD,List.getD_eq_getElem?_getD,List.getElem?_append_left h]
theorem tru_app {L:List Nd} {C D:List (List Lk)} {n:Nat} (h:n<C.length) (i e:Nat) (a:Bool):Tru L (C++D) n i e a=Tru L C n i e a:=by
 unfold Tru
 rw [selC_app h]
theorem MemoOk.app {L:List Nd} {C D:List (List Lk)} {es:List (AV × AV)} (h:MemoOk C.length (Tru L C) es):MemoOk (C++D).length (Tru L (C++D)) es:=fun p hp=>by
 obtain ⟨n,i,e,a,h1,h2,h3⟩:=h p hp
 exact ⟨n,i,e,a,by rw [List.length_append]; omega,by rw [tru_app h1]; exact h2,h3⟩
theorem cntF_cons (f:Nat) (s:Sl) (l:List Sl):cntF f (s::l)=cntF f [s]+cntF f l:=by
 cases f with
 | zero=>rfl
 | succ f=>simp [cntF]
theorem Nest.one {f:Nat} {l:List Sl} (h:Nest f l) {s:Sl} (hs:s ∈ l):Nest f [s]:=by
 cases f with
 | zero=>exact h
 | succ f=>exact fun s' hs'=>by rw [List.mem_singleton.1 hs']; exact h s hs
theorem SlsOk.one {f:Nat} {l:List Sl} (h:SlsOk f l) {s:Sl} (hs:s ∈ l):SlsOk f [s]:=by
 cases f with
 | zero=>exact h
 | succ f=>exact ⟨(by show 1≤NB; decide),fun s' hs'=>by rw [List.mem_singleton.1 hs']; exact h.2 s hs⟩
theorem sl_one {l:List Sl} {m:Nat} {s:Sl} (h:l[m]?=some s):slSl 1 (sls l) (some (I (m:Int))) (some (I ((m+1:Nat):Int))) none=some (sls [s]):=by
 have hlt:=(List.getElem?_eq_some_iff.1 h).1
 have e1:((m:Int)+1)≤l.length:=by omega
 have e2:(0:Int)≤(m:Int)+1:=by omega
 have e3:((m:Int)+1).toNat=m+1:=by omega
 have e4:(List.drop m (l.map encSl)).take 1=[encSl s]:=by
  rw [← List.map_drop,drop_get h]; rfl
 simp [slSl,intO,intA,slSl0,sls,boundsA,boundA,beqN,e1,e2,e3,e4,show ((m:Int)≤(m:Int)+1) from by omega]
def mayAny (L:List Nd) (f:Nat) (l:List Sl) (e:Nat):Bool:=l.any fun s=>mayF f [s] 8&&AA L [s] e
structure McT (σ:Sig) (L:List Nd) (d:List Nat):Prop where
 hC:HasC σ
 hB:Built L L.length d
 hN:L.length≤4096
 sm:∀ e,e<L.length→SmN (lowN (ndAt L e))
structure SelOk (f:Nat) (l:List Sl):Prop where
 wf:slsWf Lmax l
 ok:SlsOk f l
 nest:Nest f l
 hf:f≤12
 cnt:cntF f l≤NB
section
attribute [local irreducible] match_Any.L0
theorem Any_ok {L:List Nd} {d:List Nat} (M:McT σ L d) {f:Nat} {l:List Sl} (S:SelOk f l) (e:Int) (H:Hp) :
  Good Tryz.prog σ n_match_Any [domT L d,I e,sls l] H (Bo (decide (0≤e)&&decide (e<L.length)&&mayAny L f l e.toNat)) H:=by
 have hNB:NB=1048576:=rfl
 refine good_by (fun K hK=>match_Any.run (callK_of (is_ok L d e _) ?_)) (by simp [noIds,noId,noId_domT,noId_sls]) rfl H
 simp only [u_not,bnd_some,ifB_lit]
 cases hin:(decide (0≤e)&&decide (e<L.length)) with
 | false=>rw [hin] at hK; simpa using hK _
 | true =>
 rw [hin] at hK
 simp only [Bool.true_and] at hK
 simp only [Bool.and_eq_true,decide_eq_true_eq] at hin
 obtain ⟨en,rfl⟩:∃ en:Nat,e=(en:Int):=⟨e.toNat,by omega⟩
 have he:en<L.length:=by omega
 rw [Int.toNat_natCast] at hK
 simp only [Bool.not_true,Bool.false_eq_true,if_false]
 have hlen:lenSl (sls l)=some (I (l.length:Int)):=by unfold sls; simp
 have hlw:l.length≤NB:=by
  have:=S.ok
  revert this
  cases f with
  | zero=>exact fun h=>h.elim
  | succ f=>exact fun h=>h.1
 have L0:∀ (k m:Nat) (H1:Hp) (C:List (List Lk)) (ab mb:Nat) (cs:AV),l.length - m=k→m≤l.length→Asks (domT L d) C (Tru L C) ab mb cs H1→¬ own cs ab→Mc σ L d C→C.length+cntF f (l.drop m)≤NB→(∀ H,K (Bo (mayAny L f (l.drop m) en)) H) →
   match_Any.L0 σ K (I (en:Int)) (sls l) (.ptr ab 0) (I l.length) (I (m:Int)) H1:=by
  intro k
  induction k with
  | zero =>
   intro m H1 C ab mb cs hk hm hA hcs hM hc hK
   have:m=l.length:=by omega
   subst this
   refine match_Any.L0_step ?_
   simp
   simpa [mayAny] using hK H1
  | succ k ih =>
   intro m H1 C ab mb cs hk hm hA hcs hM hc hK
   have hlt:m<l.length:=by omega
   obtain ⟨s,hs⟩:=get_lt hlt
   have hsm:=List.mem_of_getElem? hs
   have hlt':(m:Int)<l.length:=by omega
   rw [drop_get hs] at hK hc
   rw [cntF_cons] at hc
   have hwf:slsWf Lmax [s]:=⟨(by show 1≤Lmax; decide),fun s' h=>by rw [List.mem_singleton.1 h]; exact S.wf.2 s hsm⟩
   have hn1:=S.nest.one hsm
   have hcons:mayAny L f (s::l.drop (m+1)) en=((mayF f [s] 8&&AA L [s] en)||mayAny L f (l.drop (m+1)) en):=by simp [mayAny]
   rw [hcons] at hK
   refine match_Any.L0_step ?_
   simp only [b_lss,hlt',decide_true,bnd_some,ifB_lit,if_true,b_add,wr_succ (show m<9000000000000000000 by omega),sl_one hs]
   refine callK_of (may_ok f [s] 8 _ hwf hn1 (by omega)) ?_
   simp only [ifB_lit]
   cases hmay:mayF f [s] 8 with
   | false =>
    rw [hmay] at hK
    simp only [Bool.false_and,Bool.false_or] at hK
    simp only [Bool.false_eq_true,if_false]
    exact ih (m+1) H1 C ab mb cs (by omega) (by omega) hA hcs hM (by omega) hK
   | true =>
    rw [hmay] at hK
    simp only [Bool.true_and] at hK
    simp only [if_true]
    have nmb:=hA.nmb
    have nab:=hA.nab
    refine add_sp (S.ok.one hsm) ⟨hA.gab,hA.nab,hA.gcs,hcs⟩ (by omega) fun H' cs' C2 ns b1 b2 b3 b4 b5=>?_
    have up:=b5.up
    have hA':Asks (domT L d) (C++C2) (Tru L (C++C2)) ab mb cs' H':=by
     obtain ⟨es,g1,g2⟩:=hA.memo
     refine ⟨b1.gab,b1.nab,by omega,hA.ne,b1.gcs,fun h=>?_,es,by rw [b5.get mb nmb hA.ne.symm hA.csm]; exact g1,g2.app⟩
     rcases b5.mine mb h with h | h
     ·exact hA.csm h
     ·omega
    have hM':Mc σ L d (C++C2):=by
     have hre:NB≤reachBytes:=by rw [reach_eq]; decide
     refine ⟨M.hC,M.hB,M.hN,M.sm,?_,fun c hc'=>?_,fun c hc'=>?_⟩
     ·rw [List.length_append,b3]; omega
     ·rcases List.mem_append.1 hc' with h | h
      ·exact hM.ll c h
      ·exact Nat.le_trans (b4 c h).len hre
     ·rcases List.mem_append.1 hc' with h | h
      ·exact hM.lk c h
      ·exact (b4 c h).lk
    have hns:ns.length≤reachBytes:=by
     have:ns.length=1:=by
      have:=b2
      revert this
      cases f with
      | zero=>exact fun h=>h.elim
      | succ f=>exact fun h=>h.1
     rw [this]; decide
    refine any_ok hM' f S.hf [s] ns b2 hn1 S.hf hns en he ab mb cs' H' _ hA' fun H2 h2 kp2=>?_
    simp only [ifB_lit]
    cases haa:AA L [s] en with
    | true =>
     rw [haa] at hK
     simpa using hK H2
    | false =>
     rw [haa] at hK
     simp only [Bool.false_or] at hK
     simp only [Bool.false_eq_true,if_false]
     exact ih (m+1) H2 (C++C2) ab mb cs' (by omega) (by omega) h2 b1.csab hM' (by rw [List.length_append,b3]; omega) hK
 refine match_begin.run ?_
 have hb:bldR [.lit (.pointer none),.lit (.slice none 0 0),.lit (.map none)] [(0,1,domT L d),(2,1,.mp Hp.empty.n)]=some [domT L d,.lit (.slice none 0 0),.mp Hp.empty.n]:=rfl
 simp only [hb,bnd_some,boxK_agg,hlen]
 refine L0 l.length 0 _ [] _ Hp.empty.n (.lit (.slice none 0 0)) (by omega) (Nat.zero_le _) ⟨?_,?_,?_,?_,.nil,fun h=>h.elim,[],?_,fun p hp=>by cases hp⟩ (fun h=>h.elim) ⟨M.hC,M.hB,M.hN,M.sm,Nat.zero_le _,fun c hc=>(by cases hc),fun c hc=>(by cases hc)⟩ (by simpa using S.cnt) (by simpa using hK)
 ·simp
 ·simp
 ·simp only [Hp.n_new]; omega
 ·simp
 ·simp
end
end Go.Proofs.YthdcghnjndhecaaGreat.Ev
namespace Go.Proofs.YthdcghnjndhecaaGreat.Ev
set_option linter.unusedVariables false
set_option linter.unusedSimpArgs false
variable {σ:Sig}
theorem fz_sl1 {H:Hp} {id:Nat} {s:Sl} {ex:Bool} {cap:Option Nat} (hg:H.get id=some (.cells (encSl s) ex)):Fz H (.sl id 0 1 1 cap) (sls [s]):=by
 have h1:(encSl s).length=1:=rfl
 have:Fz H (.sl id 0 1 [encSl s].length cap) (.imm 1 [encSl s]):=.rows hg (by simp [h1]) (by simp; exact List.take_of_length_le (by rw [h1]; exact Nat.le_refl _)) (by simp [noIdss,noId_Sl])
 exact this
def selB (L:List Nd) (f:Nat) (s:Sl) (e:Int):Bool:=decide (0≤e)&&decide (e<L.length)&&mayAny L f [s] e.toNat
theorem Sel_ok {L:List Nd} {d:List Nat} (M:McT σ L d) {f:Nat} {s:Sl} (S:SelOk f [s]) (e:Int) (H:Hp):Good Tryz.prog σ n_match_Selector [domT L d,I e,.agg (encSl s)] H (Bo (selB L f s e)) H:=by
 refine good_by (fun K hK=>match_Selector.run ?_) (by simp [noIds,noId,noId_domT,noId_Sl]) rfl H
 have hb:∀ H:Hp,bldSlR [.slice none 0 0] 1 1 H [(0,1,.agg (encSl s))]=some (.sl H.n 0 1 1 (some 1),H.new (.cells (encSl s) true)):=fun H=>by
  unfold bldSlR encSl; rfl
 have hl:∀ H:Hp,ldA true 1 (H.new (.cells (encSl s) true)) (.ptr H.n 0)=some (.agg (encSl s)):=fun H=>by
  simp only [ld_ptr,hp_get_new,if_true,ldO_cells,List.drop_zero,ldL_sl]
 simp only [boxK_agg,hl,hb,bnd_some]
 refine callK_of ((Any_ok M S e Hp.empty).frzA (.cons (.refl (noId_domT L d)) (.cons (.refl rfl) (.cons (fz_sl1 (ex:=true) (by simp)) .nil))) rfl) ?_
 exact hK _
end Go.Proofs.YthdcghnjndhecaaGreat.Ev
namespace Go.Proofs.YthdcghnjndhecaaGreat.Ev
set_option linter.unusedVariables false
set_option linter.unusedSimpArgs false
variable {σ:Sig}
section
end
end Go.Proofs.YthdcghnjndhecaaGreat.Ev
namespace Go.Proofs.YthdcghnjndhecaaGreat.Ev
set_option linter.unusedVariables false
set_option linter.unusedSimpArgs false
variable {σ:Sig}
end Go.Proofs.YthdcghnjndhecaaGreat.Ev
namespace Go.Proofs.YthdcghnjndhecaaGreat.Ev
set_option linter.unusedVariables false
set_option linter.unusedSimpArgs false
variable {σ:Sig}
end Go.Proofs.YthdcghnjndhecaaGreat.Ev
namespace Go.Proofs.YthdcghnjndhecaaGreat.Ev
set_option linter.unusedVariables false
set_option linter.unusedSimpArgs false
variable {σ:Sig}
end Go.Proofs.YthdcghnjndhecaaGreat.Ev
namespace Go.Proofs.YthdcghnjndhecaaGreat.Ev
set_option linter.unusedVariables false
set_option linter.unusedSimpArgs false
variable {σ:Sig}
end Go.Proofs.YthdcghnjndhecaaGreat.Ev
namespace Go.Proofs.YthdcghnjndhecaaGreat.Ev
set_option linter.unusedVariables false
set_option linter.unusedSimpArgs false
variable {σ:Sig}
end Go.Proofs.YthdcghnjndhecaaGreat.Ev
namespace Go.Proofs.YthdcghnjndhecaaGreat.Ev
set_option linter.unusedVariables false
set_option linter.unusedSimpArgs false
variable {σ:Sig}
end Go.Proofs.YthdcghnjndhecaaGreat.Ev
namespace Go.Proofs.YthdcghnjndhecaaGreat.Ev
set_option linter.unusedVariables false
set_option linter.unusedSimpArgs false
variable {σ:Sig}
section
variable {L:List Nd} {d:List Nat} {e:Nat} {c:Cp} {n:Nd} {dp:Nat} {b6 b9:Nat} {K:AV→Hp→Prop}
structure RcOk (c:Cp):Prop where
 ids:c.ids.length≤reachBytes
 classes:c.classes.length≤reachBytes
 attrs:c.attrs.length≤reachBytes
 ps:c.pseudos.length≤reachBytes
 texts:∀ a ∈ c.attrs,a.text.data.size<4294967281
end
end Go.Proofs.YthdcghnjndhecaaGreat.Ev
namespace Go.Proofs.YthdcghnjndhecaaGreat.Ev
set_option linter.unusedVariables false
set_option linter.unusedSimpArgs false
variable {σ:Sig}
section
end
structure Kn (L:List Nd) (s:Sl) (kb M:Nat) (H:Hp):Prop where
 lt:kb<H.n
 get:∃ ks,H.get kb=some (.cells ks true)∧ks.length=M∧∀ e k,e<L.length→k<s.length→∃ v:Int,ks[e*s.length+k]?=some (I v)∧(v=0∨(v=1∧frontB (AA L) L s k e=true)∨(v=2∧frontB (AA L) L s k e=false))
theorem Kn.keep {L:List Nd} {s:Sl} {kb M:Nat} {H H':Hp} (h:Kn L s kb M H) (hn:H.n≤H'.n) (hg:H'.get kb=H.get kb):Kn L s kb M H':=by
 obtain ⟨ks,h1,h2,h3⟩:=h.get
 exact ⟨Nat.lt_of_lt_of_le h.lt hn,ks,by rw [hg]; exact h1,h2,h3⟩
theorem Kn.new {L:List Nd} {s:Sl} {kb M:Nat} {H:Hp} (h:Kn L s kb M H) (b:Blk):Kn L s kb M (H.new b):=by
 refine h.keep (by simp) ?_
 have:kb≠H.n:=by have:=h.lt; omega
 simp [this]
theorem idx_inj {n a b x y:Nat} (hx:x<n) (hy:y<n) (h:a*n+x=b*n+y):a=b∧x=y:=by
 have h1:(a*n+x) / n=(b*n+y) / n:=by rw [h]
 have hn:0<n:=by omega
 rw [Nat.mul_comm a,Nat.mul_comm b,Nat.mul_add_div hn,Nat.mul_add_div hn,Nat.div_eq_of_lt hx,Nat.div_eq_of_lt hy] at h1
 simp only [Nat.add_zero] at h1
 subst h1
 exact ⟨rfl,by omega⟩
theorem ov_set:∀ (cs:List AV) (i:Nat) (x:AV),i<cs.length→overlay cs i [x]=cs.set i x:=by
 intro cs
 induction cs with
 | nil=>intro i x hi; simp at hi
 | cons c r ih =>
  intro i x hi
  cases i with
  | zero=>simp
  | succ i=>rw [overlay_s,List.set_cons_succ,ih i x (by simpa using hi)]
theorem Kn.put {L:List Nd} {s:Sl} {kb M:Nat} {H:Hp} (h:Kn L s kb M H) {e k:Nat} (he:e<L.length) (hk:k<s.length) {v:Int} (hv:v=0∨(v=1∧frontB (AA L) L s k e=true)∨(v=2∧frontB (AA L) L s k e=false)) :
  ∃ H',stA 1 H (.ptr kb (e*s.length+k)) (I v)=some H'∧Kn L s kb M H'∧Kp kb H H'∧ldA false 1 H' (.ptr kb (e*s.length+k))=some (I v):=by
 obtain ⟨ks,h1,h2,h3⟩:=h.get
 obtain ⟨v0,hv0,_⟩:=h3 e k he hk
 have hlt:=(List.getElem?_eq_some_iff.1 hv0).1
 refine ⟨H.set kb (some (.cells (ks.set (e*s.length+k) (I v)) true)),?_,⟨by simpa using h.lt,_,by simp; rfl,by simpa using h2,fun e' k' he' hk'=>?_⟩,⟨by simp,fun j hj hne=>by simp [hne]⟩,?_⟩
 ·have hlt':e*s.length+k+[I v].length≤ks.length:=by simp; omega
  rw [st_int,h1]
  simp only [stO_cells]
  rw [if_pos ⟨hlt',rfl⟩,ov_set _ _ _ hlt]
 ·by_cases hi:e*s.length+k=e'*s.length+k'
  ·obtain ⟨rfl,rfl⟩:=idx_inj hk hk' hi
   exact ⟨v,by simp [hlt],hv⟩
  ·obtain ⟨w,hw,hw'⟩:=h3 e' k' he' hk'
   exact ⟨w,by simp [List.getElem?_set,hi,hw],hw'⟩
 ·simp only [ld_ptr,hp_get_set,if_true,ldO_cells]
  rw [List.drop_eq_getElem_cons (by simpa using hlt),ldL_one]
  simp
section
variable {L:List Nd} {d:List Nat} {s:Sl} {dp kb M:Nat} {cap:Option Nat}
end
end Go.Proofs.YthdcghnjndhecaaGreat.Ev
namespace Go.Proofs.YthdcghnjndhecaaGreat.Ev
set_option linter.unusedVariables false
set_option linter.unusedSimpArgs false
variable {σ:Sig} {L:List Nd} {d:List Nat}
section
end
end Go.Proofs.YthdcghnjndhecaaGreat.Ev
namespace Go.Proofs.YthdcghnjndhecaaGreat.Ev
set_option linter.unusedVariables false
set_option linter.unusedSimpArgs false
inductive Sk where
 | same
 | sl (sz:Nat) (row:List Sk)
 | agg (row:List Sk)
 | ptr (row:List Sk)
def frzRows (sz:Nat) (g:List AV→Option (List AV)):Nat→List AV→Option (List (List AV))
 | 0,_=>some []
 | n+1,l=>match g (l.take sz) with
  | some r=>match frzRows sz g n (l.drop sz) with
   | some rs=>some (r::rs)
   | none=>none
  | none=>none
mutual
def frzS (H:Hp):Sk→AV→Option AV
 | .same,x=>bif noId x then some x else none
 | .sl sz row,x=>match x with
  | .lit (.slice none 0 0)=>some (.imm sz [])
  | .emp=>some (.imm sz [])
  | .se _ _ _=>some (.imm sz [])
  | .imm s rows=>bif noId (.imm s rows) then some (.imm s rows) else none
  | .sl id off s len _=>bif Nat.beq s sz then match H.get id with
    | some (.cells cs _)=>match frzRows sz (fun l=>frzR H row l) len (cs.drop off) with
     | some rows=>bif Nat.beq row.length sz then some (.imm sz rows) else none
     | none=>none
    | _=>none
   else none
  | _=>none
 | .agg row,x=>match x with
  | .agg xs=>match frzR H row xs with
   | some ys=>some (.agg ys)
   | none=>none
  | _=>none
 | .ptr row,x=>match x with
  | .ptr id off=>match H.get id with
   | some (.cells cs _)=>match frzR H row ((cs.drop off).take row.length) with
    | some ys=>some (.ip ys)
    | none=>none
   | _=>none
  | _=>none
def frzR (H:Hp):List Sk→List AV→Option (List AV)
 | [],xs=>match xs with
  | []=>some []
  | _=>none
 | k::ks,xs=>match xs with
  | x::xs=>match frzS H k x with
   | some y=>match frzR H ks xs with
    | some ys=>some (y::ys)
    | none=>none
   | none=>none
  | []=>none
end
theorem frzRows_ok {sz:Nat} {g:List AV→Option (List AV)} {H:Hp} (hg:∀ l r,g l=some r→FzL H l r):∀ (n:Nat) (l:List AV) (rows:List (List AV)),frzRows sz g n l=some rows→rows.length=n∧∀ (i:Nat) (row:List AV),rows[i]?=some row→FzL H ((l.drop (i*sz)).take sz) row
 | 0,l,rows,h=>by
  simp only [frzRows,Option.some.injEq] at h
  subst h
  exact ⟨rfl,fun i row h=>by simp at h⟩
 | n+1,l,rows,h=>by
  simp only [frzRows] at h
  split at h
  case h_2=>cases h
  rename_i r hr
  split at h
  case h_2=>cases h
  rename_i rs hrs
  simp only [Option.some.injEq] at h
  subst h
  obtain ⟨h1,h2⟩:=frzRows_ok hg n _ _ hrs
  refine ⟨by simp [h1],fun i row hi=>?_⟩
  cases i with
  | zero =>
   simp at hi
   subst hi
   simpa using hg _ _ hr
  | succ i =>
   simp at hi
   have:=h2 i row hi
   rw [List.drop_drop] at this
   rw [Nat.succ_mul,Nat.add_comm]
   exact this
theorem FzL.len {H:Hp} {xs ys:List AV} (h:FzL H xs ys):xs.length=ys.length:=h.get.1
mutual
theorem frzS_ok {H:Hp}:∀ (k:Sk) (x y:AV),frzS H k x=some y→Fz H x y
 | .same,x,y,h=>by
  simp only [frzS] at h
  cases hn:noId x with
  | false=>rw [hn] at h; cases h
  | true=>rw [hn] at h; cases h; exact .refl hn
 | .sl sz row,x,y,h=>by
  simp only [frzS] at h
  split at h
  ·cases h; exact .nil
  ·cases h; exact .emp
  ·cases h; exact .se
  ·rename_i s rows
   cases hn:noId (.imm s rows) with
   | false=>rw [hn] at h; cases h
   | true=>rw [hn] at h; cases h; exact .refl hn
  ·rename_i id off s len cap
   cases hs:Nat.beq s sz with
   | false=>rw [hs] at h; cases h
   | true =>
    rw [hs] at h
    have:=Nat.eq_of_beq_eq_true hs
    subst this
    simp only [cond_true] at h
    split at h
    case h_2=>cases h
    rename_i cs ex hg
    split at h
    case h_2=>cases h
    rename_i rows hr
    cases hl:Nat.beq row.length s with
    | false=>rw [hl] at h; cases h
    | true =>
     rw [hl] at h
     cases h
     have hlen:=Nat.eq_of_beq_eq_true hl
     obtain ⟨h1,h2⟩:=frzRows_ok (fun l r hh=>frzR_ok row l r hh) _ _ _ hr
     have hrow:∀ (i:Nat) (r:List AV),rows[i]?=some r→r.length=s:=by
      intro i r hi
      obtain ⟨_,hh⟩:=frzRows_ok (g:=fun l=>frzR H row l) (fun l r hh=>frzR_ok row l r hh) _ _ _ hr
      exact frzRows_len (fun l r hh=>by rw [← hlen]; exact frzR_len row l r hh) _ _ _ hr i r hi
     refine .sl (fun i j=>cs.getD (off+(i*s+j)) .any) hg h1 hrow (fun i r j y hi hy=>?_) (fun i r j y hi hy=>?_)
     ·obtain ⟨x,hx,_⟩:=(h2 i r hi).get.2 j y hy
      have hj:j<s:=by rw [← hrow i r hi]; exact (List.getElem?_eq_some_iff.1 hy).1
      rw [List.getElem?_take,if_pos hj,List.getElem?_drop,List.getElem?_drop] at hx
      simp [hx]
     ·obtain ⟨x,hx,hf⟩:=(h2 i r hi).get.2 j y hy
      have hj:j<s:=by rw [← hrow i r hi]; exact (List.getElem?_eq_some_iff.1 hy).1
      rw [List.getElem?_take,if_pos hj,List.getElem?_drop,List.getElem?_drop] at hx
      simp [hx]
      exact hf
  ·cases h
 | .agg row,x,y,h=>by
  simp only [frzS] at h
  split at h
  case h_2=>cases h
  split at h
  case h_2=>cases h
  rename_i hr
  cases h
  exact Fz.aggL (frzR_ok row _ _ hr)
 | .ptr row,x,y,h=>by
  simp only [frzS] at h
  split at h
  case h_2=>cases h
  rename_i id off
  split at h
  case h_2=>cases h
  rename_i cs ex hg
  split at h
  case h_2=>cases h
  rename_i ys hr
  cases h
  have hl:=(frzR_ok row _ _ hr).get
  refine .ptr (fun j=>cs.getD (off+j) .any) hg (fun j y hy=>?_) (fun j y hy=>?_)
  ·obtain ⟨x,hx,_⟩:=hl.2 j y hy
   rw [List.getElem?_take] at hx
   split at hx
   ·rw [List.getElem?_drop] at hx
    simp [hx]
   ·cases hx
  ·obtain ⟨x,hx,hf⟩:=hl.2 j y hy
   rw [List.getElem?_take] at hx
   split at hx
   ·rw [List.getElem?_drop] at hx
    simp [hx]
    exact hf
   ·cases hx
theorem frzR_ok {H:Hp}:∀ (ks:List Sk) (xs ys:List AV),frzR H ks xs=some ys→FzL H xs ys
 | [],xs,ys,h=>by
  simp only [frzR] at h
  split at h
  ·cases h; exact .nil
  ·cases h
 | k::ks,xs,ys,h=>by
  simp only [frzR] at h
  split at h
  case h_2=>cases h
  rename_i x xs
  split at h
  case h_2=>cases h
  rename_i y hy
  split at h
  case h_2=>cases h
  rename_i zs hz
  cases h
  exact .cons (frzS_ok k x y hy) (frzR_ok ks xs zs hz)
theorem frzR_len {H:Hp}:∀ (ks:List Sk) (xs ys:List AV),frzR H ks xs=some ys→ys.length=ks.length
 | [],xs,ys,h=>by
  simp only [frzR] at h
  split at h
  ·cases h; rfl
  ·cases h
 | k::ks,xs,ys,h=>by
  simp only [frzR] at h
  split at h
  case h_2=>cases h
  split at h
  case h_2=>cases h
  split at h
  case h_2=>cases h
  rename_i zs hz
  cases h
  simp [frzR_len ks _ _ hz]
theorem frzRows_len {sz:Nat} {g:List AV→Option (List AV)} (hg:∀ l r,g l=some r→r.length=sz):∀ (n:Nat) (l:List AV) (rows:List (List AV)),frzRows sz g n l=some rows→∀ (i:Nat) (r:List AV),rows[i]?=some r→r.length=sz
 | 0,l,rows,h,i,r,hi=>by
  simp only [frzRows,Option.some.injEq] at h
  subst h
  simp at hi
 | n+1,l,rows,h,i,r,hi=>by
  simp only [frzRows] at h
  split at h
  case h_2=>cases h
  rename_i r0 hr0
  split at h
  case h_2=>cases h
  rename_i rs hrs
  cases h
  cases i with
  | zero=>simp at hi; subst hi; exact hg _ _ hr0
  | succ i=>exact frzRows_len hg n _ _ hrs i r (by simpa using hi)
end
def skStrs:Sk:=.sl 1 [.same]
def skAts:Sk:=.sl 3 [.same,.same,.same]
def skPrs:Sk:=.sl 2 [.same,.same]
def skNd:List Sk:=[.same,.same,.same,skStrs,skPrs]
def skNds:Sk:=.sl 5 skNd
def skCp (pss:Sk):List Sk:=[.same,skStrs,skStrs,skAts,pss]
def skPss:Nat→Sk
 | 0=>.same
 | n+1=>.sl 4 [.same,.same,.same,.sl 1 [.sl 6 (.same::skCp (skPss n))]]
def skPts (n:Nat):Sk:=.sl 6 (.same::skCp (skPss n))
def skSls (n:Nat):Sk:=.sl 1 [skPts n]
end Go.Proofs.YthdcghnjndhecaaGreat.Ev
namespace Go.Proofs.YthdcghnjndhecaaGreat.Ev
theorem Good.conv {P:Program} {σ:Sig} {f:Nat} {xs ys:List AV} {r:AV} {H H2 H3:Hp} (k:Wk σ ys H xs H2) (h:Good P σ f xs H2 r H3):Good P σ f ys H r H3:=by
 refine ⟨h.1,fun B w0 E w vs hσ hst hxs=>?_⟩
 obtain ⟨E2,h1,h2,h3⟩:=k hσ hst hxs
 refine (h.2 B w0 E2 w vs hσ h2 h3).mono fun e w' hh=>?_
 obtain ⟨E',v,rfl,hext,st2,hrel⟩:=hh
 exact ⟨E',v,rfl,h1.trans hext,st2,hrel⟩
def Hp.bare (n:Nat):Hp:=⟨n,.leaf⟩
@[simp] theorem Hp.bare_n (n:Nat):(Hp.bare n).n=n:=rfl
@[simp] theorem Hp.bare_get (n j:Nat):(Hp.bare n).get j=none:=by simp [Hp.bare,Hp.get,Tr.get]
theorem FzL.t {H:Hp} {xs ys:List AV} (h:FzL H xs ys):FzT H xs ys:=by
 induction h with
 | nil=>exact .nil
 | cons h hs ih=>exact .fz h ih
theorem Good.drop {P:Program} {σ:Sig} {f:Nat} {xs ys:List AV} {r:AV} {H:Hp} (h:∀ H,Good P σ f xs H r H) (hx:FzL H ys xs):Good P σ f ys H r (Hp.bare H.n) :=
 Good.conv (Wk.frz (H2:=Hp.bare H.n) (Hd:=H) rfl rfl (fun id k hk=>⟨hk,by simp⟩) (fun id k2 hk=>by simp at hk) hx.t) (h _)
theorem bnd_of {α:Type} {o:Option α} {x:α} {K:α→Prop} (h:o=some x) (k:K x):bnd o K:=by rw [h]; exact k
end Go.Proofs.YthdcghnjndhecaaGreat.Ev
namespace Go.Proofs.YthdcghnjndhecaaGreat.Ev
set_option linter.unusedVariables false
set_option linter.unusedSimpArgs false
inductive Gsc (sz:Nat) (H:Hp):AV→List (List AV)→Prop where
 | gs {x:AV} {rows:List (List AV)} (h:Gs sz H x rows):Gsc sz H x rows
 | full {id:Nat} {ex:Bool} {rows:List (List AV)} (hlt:id<H.n) (hg:H.get id=some (.cells rows.flatten ex)) (hsz:∀ row ∈ rows,row.length=sz) (h0:rows≠[]):Gsc sz H (.sl id 0 sz rows.length (some rows.length)) rows
theorem Gsc.lit {sz:Nat} {H:Hp} {row:List AV} (hl:row.length=sz):Gsc sz (H.new (.cells row true)) (.sl H.n 0 sz 1 (some 1)) [row]:=by
 refine .full (id:=H.n) (rows:=[row]) (by simp) (by simp; rfl) (by simp [hl]) (by simp)
theorem Gs.fzm {sz:Nat} {H:Hp} {x:AV} {rows rows':List (List AV)} (h:Gs sz H x rows) (hl:rows.length=rows'.length) (hf:∀ (i:Nat) r r',rows[i]?=some r→rows'[i]?=some r'→FzL H r r'):Fz H x (.imm sz rows'):=by
 cases h with
 | nil =>
  have:rows'=[]:=List.length_eq_zero_iff.1 (by simpa using hl.symm)
  subst this
  exact .nil
 | sl hlt hg hsz =>
  have hr:∀ (i:Nat) r',rows'[i]?=some r'→∃ r,rows[i]?=some r∧r.length=sz∧FzL H r r':=by
   intro i r' hi
   have hi':=(List.getElem?_eq_some_iff.1 hi).1
   obtain ⟨r,hr⟩:∃ r,rows[i]?=some r:=⟨rows[i]'(by omega),List.getElem?_eq_getElem _⟩
   exact ⟨r,hr,hsz r (List.mem_of_getElem? hr),hf i r r' hr hi⟩
  have hfl:=flatten_len hsz
  refine .sl (fun i j=>(rows.getD i []).getD j .any) hg hl.symm (fun i row hi=>?_) (fun i row j y hi hy=>?_) (fun i row j y hi hy=>?_)
  ·obtain ⟨r,_,h1,h2⟩:=hr i row hi
   rw [← h2.len]; exact h1
  ·obtain ⟨r,h0,h1,h2⟩:=hr i row hi
   obtain ⟨v,hv,_⟩:=h2.get.2 j y hy
   simp only [Nat.zero_add]
   have hk:=rows_flat hsz i r j v h0 hv
   rw [hk]
   simp [h0,hv]
  ·obtain ⟨r,h0,h1,h2⟩:=hr i row hi
   obtain ⟨v,hv,hfz⟩:=h2.get.2 j y hy
   simp [h0,hv]
   exact hfz
theorem LoopP.drop {P:Program} {C:Ctx P} {c:Code} {T T2:List AV} {H:Hp} {Q:Exit→List AV→Hp→Prop} (hT:FzT H T T2) (h:LoopP C c T2 (Hp.bare H.n) Q):LoopP C c T H Q :=
 LoopP.conv (Wk.frz (H2:=Hp.bare H.n) (Hd:=H) rfl rfl (fun id k hk=>⟨hk,by simp⟩) (fun id k2 hk=>by simp at hk) hT) h
end Go.Proofs.YthdcghnjndhecaaGreat.Ev
namespace Go.Proofs.YthdcghnjndhecaaGreat.Ev
theorem FzTr {Hd:Hp}:∀ (T:List AV),FzT Hd T T
 | []=>.nil
 | x::T=>.same (FzTr T)
end Go.Proofs.YthdcghnjndhecaaGreat.Ev
namespace Go.Proofs.YthdcghnjndhecaaGreat.Ev
set_option linter.unusedVariables false
set_option linter.unusedSimpArgs false
variable {σ:Sig} {L:List Nd} {d:List Nat}
def TxL:Nat→List Sl→Prop
 | 0,_=>False
 | f+1,l=>∀ s ∈ l,∀ p ∈ s,(∀ a ∈ p.c.attrs,a.text.data.size<4294967281)∧∀ q ∈ p.c.pseudos,TxL f q.list
theorem TxL.one {f:Nat} {l:List Sl} (h:TxL f l) {s:Sl} (hs:s ∈ l):TxL f [s]:=by
 cases f with
 | zero=>exact h
 | succ f=>exact fun s' hs'=>by rw [List.mem_singleton.1 hs']; exact h s hs
theorem RcOk.of {c:Cp} (h:CpOk c) (ht:∀ a ∈ c.attrs,a.text.data.size<4294967281):RcOk c:=⟨h.ids,h.classes,h.attrs,h.ps,ht⟩
end Go.Proofs.YthdcghnjndhecaaGreat.Ev
namespace Go.Proofs.YthdcghnjndhecaaGreat.Ev
set_option linter.unusedVariables false
set_option linter.unusedSimpArgs false
theorem rows_map {α:Type} {f:α→List AV} {P:α→Prop}:∀ {rows:List (List AV)},(∀ row ∈ rows,∃ x,row=f x∧P x)→∃ l:List α,rows=l.map f∧∀ x ∈ l,P x
 | [],_=>⟨[],rfl,fun x hx=>by cases hx⟩
 | r::rs,h=>by
  obtain ⟨x,hx,px⟩:=h r (by simp)
  obtain ⟨l,hl,pl⟩:=rows_map (rows:=rs) fun row hr=>h row (by simp [hr])
  refine ⟨x::l,by rw [hx,hl]; rfl,fun y hy=>?_⟩
  rcases List.mem_cons.1 hy with rfl | hy
  ·exact px
  ·exact pl y hy
theorem d_int {ts:List Nat} {zs:List AV} (h:Sh tiT.get (T_int::ts) zs):∃ n ys,zs=I n::ys∧i64 n∧Sh tiT.get ts ys:=by
 obtain ⟨i,hi,hd,_⟩:=T_int_is
 obtain ⟨n,ys,e,hw,hs⟩:=sh_int hi hd h
 refine ⟨n,ys,e,?_,hs⟩
 simp [Lit.wf,IntKind.min,IntKind.max,IntKind.signed,IntKind.bits] at hw
 unfold i64
 omega
theorem d_str {ts:List Nat} {zs:List AV} (h:Sh tiT.get (T_string::ts) zs):∃ s ys,zs=Sx s::ys∧s.data.size≤Lmax∧Sh tiT.get ts ys:=by
 obtain ⟨i,hi,hd,_⟩:=T_string_is
 obtain ⟨s,ys,e,hw,hs⟩:=sh_str hi hd h
 exact ⟨s,ys,e,Nat.le_trans hw (by decide),hs⟩
theorem d_bool {ts:List Nat} {zs:List AV} (h:Sh tiT.get (T_bool::ts) zs):∃ b ys,zs=Bo b::ys∧Sh tiT.get ts ys:=by
 obtain ⟨i,hi,hd,_⟩:=T_bool_is
 exact sh_bool hi hd h
theorem d_slice {t e sz:Nat} (hT:∃ i,tiT.get t=some i∧i.d=.slice e∧i.size=1) (hE:∃ i,tiT.get e=some i∧i.size=sz) {ts:List Nat} {zs:List AV} (h:Sh tiT.get (t::ts) zs) :
  ∃ rows ys,zs=.imm sz rows::ys∧(∀ row ∈ rows,Sh tiT.get [e] row)∧rows.length≤Lmax∧Sh tiT.get ts ys:=by
 obtain ⟨i,hi,hd,_⟩:=hT
 obtain ⟨j',hj',hs'⟩:=hE
 rcases sh_slice hi hd h with ⟨ys,_,_⟩ | ⟨j,rows,ys,hj,e,hr,hl,hm,_,hs⟩
 ·cases h with
  | sl h' hd' he hc hl hm hb hs=>rw [hi] at h'; cases h'; rw [hd] at hd'; cases hd'; rw [hj'] at he; cases he; exact ⟨_,_,by rw [hs'],hc,hm,hs⟩
  | _=>simp_all
 ·rw [hj'] at hj
  cases hj
  rw [hs'] at e
  exact ⟨rows,ys,e,hr,hm,hs⟩
theorem d_struct {t:Nat} {fs:List (Nat × Nat)} {sz:Nat} (hT:∃ i,tiT.get t=some i∧i.d=.struct fs∧i.size=sz) {ts:List Nat} {zs:List AV} (h:Sh tiT.get (t::ts) zs):Sh tiT.get (fs.map (·.2)++ts) zs:=by
 obtain ⟨i,hi,hd,_⟩:=hT
 exact sh_struct hi hd h
theorem sz_of {t sz:Nat} {d:TD} (h:∃ i,tiT.get t=some i∧i.d=d∧i.size=sz):∃ i,tiT.get t=some i∧i.size=sz:=by
 obtain ⟨i,a,_,b⟩:=h
 exact ⟨i,a,b⟩
theorem d_strs {ts:List Nat} {zs:List AV} (h:Sh tiT.get (T_sl_string::ts) zs):∃ l ys,zs=strs l::ys∧strsWf Lmax l∧Sh tiT.get ts ys:=by
 obtain ⟨rows,ys,e,hr,hm,hs⟩:=d_slice T_sl_string_is (sz_of T_string_is) h
 obtain ⟨l,hl,hp⟩:=rows_map (f:=fun s=>[Sx s]) (P:=fun s=>s.data.size≤Lmax) fun row hrow=>by
  obtain ⟨s,ys,e,hw,hs⟩:=d_str (hr row hrow)
  rw [sh_nil hs] at e
  exact ⟨s,e,hw⟩
 exact ⟨l,ys,by rw [e,hl]; rfl,⟨by rw [hl] at hm; simpa using hm,hp⟩,hs⟩
theorem d_attrs {ts:List Nat} {zs:List AV} (h:Sh tiT.get (T_sl_api_Attr::ts) zs):∃ (l:List At) (ys:List AV),zs=.imm 3 (l.map encAt)::ys∧(l.length≤Lmax∧∀ x ∈ l,x.name.data.size≤Lmax∧i64 x.op∧x.text.data.size≤Lmax)∧Sh tiT.get ts ys:=by
 obtain ⟨rows,ys,e,hr,hm,hs⟩:=d_slice T_sl_api_Attr_is (sz_of T_api_Attr_is) h
 obtain ⟨l,hl,hp⟩:=rows_map (f:=encAt) (P:=fun x=>x.name.data.size≤Lmax∧i64 x.op∧x.text.data.size≤Lmax) fun row hrow=>by
  have h1:=d_struct T_api_Attr_is (hr row hrow)
  obtain ⟨a,y1,e1,w1,h2⟩:=d_str h1
  obtain ⟨b,y2,e2,w2,h3⟩:=d_int h2
  obtain ⟨c,y3,e3,w3,h4⟩:=d_str h3
  rw [sh_nil h4] at e3
  exact ⟨⟨a,b,c⟩,by rw [e1,e2,e3]; rfl,w1,w2,w3⟩
 exact ⟨l,ys,by rw [e,hl],⟨by rw [hl] at hm; simpa using hm,hp⟩,hs⟩
theorem d_parts:∀ (n:Nat) {ts:List Nat} {zs:List AV},SizeOf.sizeOf zs≤n→Sh tiT.get (T_sl_api_Part::ts) zs→∃ (l:List Pt) (ys:List AV),zs=.imm 6 (l.map encPt)::ys∧(l.length≤Lmax∧∀ p ∈ l,Pt.wf Lmax p)∧Sh tiT.get ts ys
 | 0,ts,zs,hn,h=>by cases zs<;>simp at hn
 | n+1,ts,zs,hn,h=>by
  obtain ⟨rows,ys,e,hr,hm,hs⟩:=d_slice T_sl_api_Part_is (sz_of T_api_Part_is) h
  obtain ⟨l,hl,hp⟩:=rows_map (f:=encPt) (P:=fun p=>Pt.wf Lmax p) fun row hrow=>by
   have hsz:SizeOf.sizeOf row<n:=by
    have h1:SizeOf.sizeOf row<SizeOf.sizeOf rows:=List.sizeOf_lt_of_mem hrow
    rw [e] at hn
    simp only [List.cons.sizeOf_spec,AV.imm.sizeOf_spec] at hn
    omega
   obtain ⟨k,y1,e1,w1,h1⟩:=d_int (d_struct T_api_Part_is (hr row hrow))
   have h1:=d_struct T_api_Compound_is h1
   obtain ⟨t,y2,e2,w2,h2⟩:=d_str h1
   obtain ⟨i,y3,e3,w3,h3⟩:=d_strs h2
   obtain ⟨c,y4,e4,w4,h4⟩:=d_strs h3
   obtain ⟨a,y5,e5,w5,h5⟩:=d_attrs h4
   obtain ⟨prows,y6,e6,hpr,hpm,h6⟩:=d_slice T_sl_api_Pseudo_is (sz_of T_api_Pseudo_is) h5
   rw [sh_nil h6] at e6
   subst e6 e5 e4 e3 e2 e1
   obtain ⟨ps,hps,hpp⟩:=rows_map (f:=encPs) (P:=fun p=>Ps.wf Lmax p) fun prow hprow=>by
    have hsz2:SizeOf.sizeOf prow<n:=by
     have h1:SizeOf.sizeOf prow<SizeOf.sizeOf prows:=List.sizeOf_lt_of_mem hprow
     simp only [List.cons.sizeOf_spec,AV.imm.sizeOf_spec] at hsz
     omega
    have g1:=d_struct T_api_Pseudo_is (hpr prow hprow)
    obtain ⟨k,y1,e1,w1,g2⟩:=d_int g1
    obtain ⟨a,y2,e2,w2,g3⟩:=d_int g2
    obtain ⟨b,y3,e3,w3,g4⟩:=d_int g3
    obtain ⟨srows,y4,e4,hsr,hsm,g5⟩:=d_slice T_sl_api_Selector_is (sz_of T_api_Selector_is) g4
    rw [sh_nil g5] at e4
    subst e4 e3 e2 e1
    obtain ⟨ss,hss,hsp⟩:=rows_map (f:=encSl) (P:=slWf Lmax) fun srow hsrow=>by
     have hsz3:SizeOf.sizeOf srow<n:=by
      have h1:SizeOf.sizeOf srow<SizeOf.sizeOf srows:=List.sizeOf_lt_of_mem hsrow
      simp only [List.cons.sizeOf_spec,AV.imm.sizeOf_spec] at hsz2
      omega
     obtain ⟨l,y1,e1,w1,q1⟩:=d_parts n (by omega) (d_struct T_api_Selector_is (hsr srow hsrow))
     rw [sh_nil q1] at e1
     exact ⟨l,e1,w1.1,w1.2⟩
    refine ⟨.mk k a b ss,by rw [encPs_eq,hss]; rfl,?_⟩
    rw [Ps.wf_iff]
    exact ⟨w1,w2,w3,by rw [hss,List.length_map] at hsm; exact hsm,hsp⟩
   refine ⟨.mk k (.mk t i c a ps),by rw [encPt_eq,encCp_eq,hps]; rfl,?_⟩
   rw [Pt.wf_iff]
   exact ⟨w1,w2,w3,w4,w5.1,w5.2,by rw [hps,List.length_map] at hpm; exact hpm,hpp⟩
  exact ⟨l,ys,by rw [e,hl],⟨by rw [hl] at hm; simpa using hm,hp⟩,hs⟩
theorem d_sel {ts:List Nat} {zs:List AV} (h:Sh tiT.get (T_api_Selector::ts) zs):∃ (s:Sl) (ys:List AV),zs=encSl s++ys∧slWf Lmax s∧Sh tiT.get ts ys:=by
 obtain ⟨l,ys,e,w,hs⟩:=d_parts _ (Nat.le_refl _) (d_struct T_api_Selector_is h)
 exact ⟨l,ys,e,w,hs⟩
theorem d_sels {ts:List Nat} {zs:List AV} (h:Sh tiT.get (T_sl_api_Selector::ts) zs):∃ l ys,zs=sls l::ys∧slsWf Lmax l∧Sh tiT.get ts ys:=by
 obtain ⟨rows,ys,e,hr,hm,hs⟩:=d_slice T_sl_api_Selector_is (sz_of T_api_Selector_is) h
 obtain ⟨l,hl,hp⟩:=rows_map (f:=encSl) (P:=slWf Lmax) fun row hrow=>by
  obtain ⟨s,y,e,w,hs⟩:=d_sel (hr row hrow)
  rw [sh_nil hs,List.append_nil] at e
  exact ⟨s,e,w⟩
 exact ⟨l,ys,by rw [e,hl]; rfl,⟨by rw [hl] at hm; simpa using hm,hp⟩,hs⟩
def readB:List Nat:=[T_int,T_string,T_bool,T_sl_string,T_sl_api_Attr,T_api_Attr,T_sl_api_Part,T_api_Part,T_api_Compound,T_sl_api_Pseudo,T_api_Pseudo,T_sl_api_Selector,T_api_Selector,T_sl_api_Node,T_api_Node,T_sl_api_Pair,T_api_Pair]
end Go.Proofs.YthdcghnjndhecaaGreat.Ev
namespace Go.Proofs.YthdcghnjndhecaaGreat.Ev
theorem v_agg {t sz:Nat} {fs:List (Nat × Nat)} (hT:∃ i,tiT.get t=some i∧i.d=.struct fs∧i.size=sz) {x:AV} (h:ShV tiT.get t x):∃ ys,x=.agg ys∧Sh tiT.get [t] ys:=by
 obtain ⟨i,hi,hd,_⟩:=hT
 exact shV_agg hi (by rw [hd]; rfl) h
theorem v_one {t sz:Nat} {d:TD} (hT:∃ i,tiT.get t=some i∧i.d=d∧i.size=sz) (ha:d.agg=false) {x:AV} (h:ShV tiT.get t x):Sh tiT.get [t] [x]:=by
 obtain ⟨i,hi,hd,_⟩:=hT
 unfold ShV at h
 rw [hi] at h
 simp only [hd,ha] at h
 exact h
end Go.Proofs.YthdcghnjndhecaaGreat.Ev
namespace Go.Proofs.YthdcghnjndhecaaGreat.Ev
theorem d_strR {ts:List Nat} {zs:List AV} (h:Sh tiT.get (T_string::ts) zs):∃ s ys,zs=Sx s::ys∧s.data.size≤reachBytes∧Sh tiT.get ts ys:=by
 obtain ⟨i,hi,hd,_⟩:=T_string_is
 obtain ⟨s,ys,e,hw,hs⟩:=sh_str hi hd h
 exact ⟨s,ys,e,hw,hs⟩
theorem d_sliceB {t e sz B:Nat} (hT:∃ i,tiT.get t=some i∧i.d=.slice e∧i.size=1) (hE:∃ i,tiT.get e=some i∧i.size=sz) (hB:(tiT.get e).map (·.bytes)=some B) {ts:List Nat} {zs:List AV} (h:Sh tiT.get (t::ts) zs) :
  ∃ rows ys,zs=.imm sz rows::ys∧(∀ row ∈ rows,Sh tiT.get [e] row)∧rows.length*B≤reachBytes∧Sh tiT.get ts ys:=by
 obtain ⟨i,hi,hd,_⟩:=hT
 obtain ⟨j',hj',hs'⟩:=hE
 rw [hj'] at hB
 simp only [Option.map_some,Option.some.injEq] at hB
 cases h with
 | sl h' hd' he hc hl hm hb hs=>rw [hi] at h'; cases h'; rw [hd] at hd'; cases hd'; rw [hj'] at he; cases he; exact ⟨_,_,by rw [hs'],hc,by rw [← hB]; exact hb,hs⟩
 | _=>simp_all
theorem d_strsR {ts:List Nat} {zs:List AV} (h:Sh tiT.get (T_sl_string::ts) zs):∃ l ys,zs=strs l::ys∧l.length*16≤reachBytes∧Sh tiT.get ts ys:=by
 obtain ⟨rows,ys,e,hr,hm,hs⟩:=d_sliceB T_sl_string_is (sz_of T_string_is) (B:=16) (by kernel_rfl) h
 obtain ⟨l,hl,hp⟩:=rows_map (f:=fun s=>[Sx s]) (P:=fun s=>True) fun row hrow=>by
  obtain ⟨s,ys,e,hw,hs⟩:=d_str (hr row hrow)
  rw [sh_nil hs] at e
  exact ⟨s,e,trivial⟩
 exact ⟨l,ys,by rw [e,hl]; rfl,by rw [hl] at hm; simpa using hm,hs⟩
theorem d_pairs {ts:List Nat} {zs:List AV} (h:Sh tiT.get (T_sl_api_Pair::ts) zs):∃ (l:List (ByteArray × ByteArray)) (ys:List AV),zs=.imm 2 (l.map encPr)::ys∧(l.length*32≤reachBytes∧∀ x ∈ l,x.1.data.size≤reachBytes)∧Sh tiT.get ts ys:=by
 obtain ⟨rows,ys,e,hr,hm,hs⟩:=d_sliceB T_sl_api_Pair_is (sz_of T_api_Pair_is) (B:=32) (by kernel_rfl) h
 obtain ⟨l,hl,hp⟩:=rows_map (f:=encPr) (P:=fun x=>x.1.data.size≤reachBytes) fun row hrow=>by
  obtain ⟨a,y1,e1,w1,h2⟩:=d_strR (d_struct T_api_Pair_is (hr row hrow))
  obtain ⟨b,y2,e2,w2,h3⟩:=d_strR h2
  rw [sh_nil h3] at e2
  exact ⟨⟨a,b⟩,by rw [e1,e2]; rfl,w1⟩
 exact ⟨l,ys,by rw [e,hl],⟨by rw [hl] at hm; simpa using hm,hp⟩,hs⟩
theorem d_nodes {ts:List Nat} {zs:List AV} (h:Sh tiT.get (T_sl_api_Node::ts) zs):∃ (l:List Nd) (ys:List AV),zs=nds l::ys∧(∀ x ∈ l,NdWf x)∧l.length≤Lmax∧Sh tiT.get ts ys:=by
 obtain ⟨rows,ys,e,hr,hm,hs⟩:=d_slice T_sl_api_Node_is (sz_of T_api_Node_is) h
 obtain ⟨l,hl,hp⟩:=rows_map (f:=encNd) (P:=NdWf) fun row hrow=>by
  obtain ⟨p,y1,e1,w1,h2⟩:=d_int (d_struct T_api_Node_is (hr row hrow))
  obtain ⟨t,y2,e2,w2,h3⟩:=d_strR h2
  obtain ⟨i,y3,e3,w3,h4⟩:=d_strR h3
  obtain ⟨c,y4,e4,w4,h5⟩:=d_strsR h4
  obtain ⟨a,y5,e5,w5,h6⟩:=d_pairs h5
  rw [sh_nil h6] at e5
  exact ⟨⟨p,t,i,c,a⟩,by rw [e1,e2,e3,e4,e5]; rfl,w1,w2,w4,w5.1,w5.2⟩
 exact ⟨l,ys,by rw [e,hl]; rfl,hp,by rw [hl] at hm; simpa using hm,hs⟩
theorem v_nodes {x:AV} (h:ShV tiT.get T_sl_api_Node x):∃ l,x=nds l∧(∀ n ∈ l,NdWf n)∧l.length≤Lmax:=by
 obtain ⟨l,ys,e,w,hl,hn⟩:=d_nodes (v_one T_sl_api_Node_is rfl h)
 cases e
 exact ⟨l,rfl,w,hl⟩
end Go.Proofs.YthdcghnjndhecaaGreat.Ev
