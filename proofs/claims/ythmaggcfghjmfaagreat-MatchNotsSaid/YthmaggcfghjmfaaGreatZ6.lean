/- The walks, part 6: the evaluator, the functions, the laws. Conditions: none. -/
import Derived.Test.YthmaggcfghjmfaaGreatZ5
namespace Go.Proofs.YthmaggcfghjmfaaGreat.Ev
set_option linter.unusedVariables false
set_option linter.unusedSimpArgs false
variable {σ:Sig}
def io (g:Nat→Bool) (L:List Nd) (k:Int):Nat→Nat→Bool
 | 0,_=>false
 | f+1,e=>decide (0≤cY L e k)&&(g (cY L e k).toNat||(oR k&&io g L k f (cY L e k).toNat))
def gZ (any:List Sl→Nat→Bool) (L:List Nd) (e:Nat) (q:Ps):Bool :=
 if q.kind=1 then decide (par L e<0) else if q.kind=2 then decide (cZ L e=1) else if q.kind=3 then wJ L e else if q.kind=4 then decide (cZ L e=1)&&wJ L e
 else if q.kind=5 then decide (pu L e 0<0) else if q.kind=6 then Hg (cZ L e) q.a q.b else if q.kind=7 then !any q.list e else if q.kind=8 then any q.list e else false
def jp (any:List Sl→Nat→Bool) (L:List Nd) (e:Nat) (c:Cp):Bool:=mD (cm (cW L e)) c&&c.pseudos.all (gZ any L e)
def d5 (any:List Sl→Nat→Bool) (L:List Nd) (s:Sl):Nat→Nat→Bool
 | 0,e=>match s[0]? with
  | some p=>jp any L e p.c
  | none=>false
 | i+1,e=>match s[i+1]? with
  | some p=>jp any L e p.c&&io (d5 any L s i) L p.comb (e+1) e
  | none=>false
def oo (any:List Sl→Nat→Bool) (L:List Nd) (l:List Sl) (e:Nat):Bool:=l.any fun s=>!decide (s.length=0)&&d5 any L s (s.length - 1) e
def sO (L:List Nd):Nat→List Sl→Nat→Bool
 | 0,_,_=>false
 | f+1,l,e=>oo (sO L f) L l e
def kj:Nat→List Sl→Prop
 | 0,_=>False
 | f+1,l=>∀ s ∈ l,∀ p ∈ s,∀ q ∈ p.c.pseudos,kj f q.list
theorem nN.nest:∀ {f:Nat} {l:List Sl},nN f l→kj f l
 | 0,l,h=>h
 | f+1,l,h=>fun s hs p hp q hq=>(((h s hs).2 p hp).2 q hq).nest
theorem oG {any any':List Sl→Nat→Bool} {L:List Nd} {c:Cp} (h:∀ q ∈ c.pseudos,∀ e,any q.list e=any' q.list e) (e:Nat):jp any L e c=jp any' L e c:=by
 unfold jp
 congr 1
 rw [Bool.eq_iff_iff,List.all_eq_true,List.all_eq_true]
 have:∀ q ∈ c.pseudos,gZ any L e q=gZ any' L e q:=fun q hq=>by unfold gZ; rw [h q hq]
 exact ⟨fun h q hq=>by rw [← this q hq]; exact h q hq,fun h q hq=>by rw [this q hq]; exact h q hq⟩
theorem nj {g g':Nat→Bool} {L:List Nd} {k:Int} (h:∀ e,g e=g' e):∀ (f e:Nat),io g L k f e=io g' L k f e
 | 0,e=>rfl
 | f+1,e=>by unfold io; rw [h,nj h f]
theorem mG {any any':List Sl→Nat→Bool} {L:List Nd} {s:Sl} (h:∀ p ∈ s,∀ q ∈ p.c.pseudos,∀ e,any q.list e=any' q.list e):∀ (i e:Nat),d5 any L s i e=d5 any' L s i e
 | 0,e=>by
  unfold d5
  cases hs:s[0]? with
  | none=>rfl
  | some p=>exact oG (h p (List.mem_of_getElem? hs)) e
 | i+1,e=>by
  unfold d5
  cases hs:s[i+1]? with
  | none=>rfl
  | some p =>
   simp only
   rw [oG (h p (List.mem_of_getElem? hs)) e,nj (mG h i)]
theorem vq {any any':List Sl→Nat→Bool} {L:List Nd} {l:List Sl} (h:∀ s ∈ l,∀ p ∈ s,∀ q ∈ p.c.pseudos,∀ e,any q.list e=any' q.list e) (e:Nat):oo any L l e=oo any' L l e:=by
 unfold oo
 rw [Bool.eq_iff_iff,List.any_eq_true,List.any_eq_true]
 have:∀ s ∈ l,(!decide (s.length=0)&&d5 any L s (s.length - 1) e)=(!decide (s.length=0)&&d5 any' L s (s.length - 1) e):=fun s hs=>by rw [mG (h s hs)]
 exact ⟨fun ⟨s,hs,h⟩=>⟨s,hs,by rw [← this s hs]; exact h⟩,fun ⟨s,hs,h⟩=>⟨s,hs,by rw [this s hs]; exact h⟩⟩
theorem nG {L:List Nd}:∀ (f g:Nat) (l:List Sl) (e:Nat),kj f l→f≤g→sO L g l e=sO L f l e
 | 0,g,l,e,h,_=>h.elim
 | f+1,0,l,e,h,hfg=>by omega
 | f+1,g+1,l,e,h,hfg=>by
  unfold sO
  exact vq (fun s hs p hp q hq e=>nG f g q.list e (h s hs p hp q hq) (by omega)) e
def AA (L:List Nd):List Sl→Nat→Bool:=sO L 12
theorem FO {L:List Nd} {f:Nat} {l:List Sl} (h:kj f l) (hf:f≤12) (e:Nat):oo (AA L) L l e=AA L l e:=by
 show sO L 13 l e=sO L 12 l e
 rw [nG f 13 l e h (by omega),nG f 12 l e h hf]
def mq (C:List (List Lk)) (n:Nat):Sl:=(C.getD n []).map (·.part)
def Tru (L:List Nd) (C:List (List Lk)) (n i e:Nat):Bool→Bool
 | false=>d5 (AA L) L (mq C n) i e
 | true=>match (mq C n)[i]? with
  | some p=>io (d5 (AA L) L (mq C n) (i - 1)) L p.comb (e+1) e
  | none=>false
def tB (R:List Sl→List Nat→Prop) (C:List (List Lk)) (s:Sl) (n:Nat):Prop :=
 ∃ c,C[n]?=some c∧c.map (·.part)=s∧∀ (k:Nat) (x:Lk),c[k]?=some x→x.lists.length=x.part.c.pseudos.length∧∀ (j:Nat) (q:Ps) (ns:List Nat),x.part.c.pseudos[j]?=some q→x.lists[j]?=some ns→R q.list ns
def Rep (C:List (List Lk)):Nat→List Sl→List Nat→Prop
 | 0,_,_=>False
 | f+1,l,ns=>ns.length=l.length∧∀ (i:Nat) (s:Sl) (n:Nat),l[i]?=some s→ns[i]?=some n→tB (Rep C f) C s n
theorem tB.sel {R:List Sl→List Nat→Prop} {C:List (List Lk)} {s:Sl} {n:Nat} (h:tB R C s n):mq C n=s:=by
 obtain ⟨c,hc,hs,_⟩:=h
 unfold mq
 rw [List.getD_eq_getElem?_getD,hc]
 exact hs
structure EU (x:Lk):Prop where
 c:sv x.part.c
 ps:∀ q ∈ x.part.c.pseudos,i64 q.a∧i64 q.b
 ls:∀ l ∈ x.lists,l.length≤reachBytes
structure Mc (σ:Sig) (L:List Nd) (d:List Nat) (C:List (List Lk)):Prop where
 hC:nr σ
 hB:dh L L.length d
 hN:L.length≤4096
 sm:∀ e,e<L.length→SmN (cm (cW L e))
 cl:C.length≤reachBytes
 ll:∀ c ∈ C,c.length≤reachBytes
 lk:∀ c ∈ C,∀ x ∈ c,EU x
theorem Gs.ld1 {H:Hp} {x v:AV} {rows:List (List AV)} {n:Nat} (h:Gs 1 H x rows) (hn:rows[n]?=some [v]):∃ p,aR 1 x (I (n:Int))=some p∧ldA false 1 H p=some v:=by
 have hlt:=(List.getElem?_eq_some_iff.1 hn).1
 cases h with
 | nil=>simp at hlt
 | sl hl hg hsz =>
  rename_i id ex
  refine ⟨.ptr id (0+(n:Int).toNat*1),mL (by omega) (by omega),?_⟩
  have:=jQ hsz hlt
  rw [List.getElem?_eq_getElem hlt] at hn
  rw [Option.some.inj hn] at this
  simp [hg]
  rw [Nat.mul_one] at this
  rw [this]
  simp
section
variable {L:List Nd} {d:List Nat} {C:List (List Lk)}
def qP (σ:Sig) (L:List Nd) (d:List Nat) (C:List (List Lk)) (f:Nat) (xs:List AV) (b:Bool):Prop :=
 ∀ (ab mb:Nat) (cs:AV) (H:Hp) (K:AV→Hp→Prop),gG (dL L d) C (Tru L C) ab mb cs H→(∀ H',gG (dL L d) C (Tru L C) ab mb cs H'→Kp mb H H'→K (Bo b) H')→ai Tryz.prog σ f (.ptr ab 0::xs) H K
theorem qP.pure {f:Nat} {xs:List AV} {b:Bool} (h:∀ H,aE Tryz.prog σ f (.ip (dL L d::[])::xs) H (Bo b) H) (hx:aU xs=true):qP σ L d C f xs b :=
 fun ab mb cs H K hA hK=>au (hA.pure (h Hp.empty) hx rfl) (hK H hA (.refl _ _))
def pz (σ:Sig) (L:List Nd) (d:List Nat) (C:List (List Lk)) (f:Nat):Prop:=∀ (l:List Sl) (ns:List Nat),Rep C f l ns→kj f l→f≤12→ns.length≤reachBytes→∀ e,e<L.length→qP σ L d C dx [I (e:Int),lF ns] (AA L l e)
theorem wY (M:Mc σ L d C) {f:Nat} (hA:pz σ L d C f) (hf:f≤12) {q:Ps} (hq:i64 q.a∧i64 q.b) {ns:List Nat} (hr:(q.kind=7∨q.kind=8)→Rep C f q.list ns) (hnest:(q.kind=7∨q.kind=8)→kj f q.list) (hns:ns.length≤reachBytes) {e:Nat} (he:e<L.length) :
  qP σ L d C d7 [I (e:Int),.agg (bA q),lF ns] (gZ (AA L) L e q):=by
 intro ab mb cs H K hA0 hK
 have hpar:=rT M.hB he
 have hpl:=tO L e
 have e1:ab≠H.n:=by have:=hA0.nab; omega
 have a1:=hA0.new (.cells (bA q) true)
 have k1:=Kp.new mb H (.cells (bA q) true)
 refine fS.run ?_
 simp [dF,e1,hA0.gab]
 have e2:∀ Ks:AV→Hp→Prop,Ks=Ks:=fun _=>rfl
 unfold gZ at hK
 have hH:Hp.new H (.cells [I q.kind,I q.a,I q.b,.imm 1 (q.list.map aX)] true)=Hp.new H (.cells (bA q) true):=by rw [dF]
 rw [hH]
 obtain ⟨H1,hH1⟩:∃ H1,H1=H.new (.cells (bA q) true):=⟨_,rfl⟩
 have gq:H1.get H.n=some (.cells [I q.kind,I q.a,I q.b,.imm 1 (q.list.map aX)] true):=by rw [hH1,← dF]; simp
 rw [← hH1] at a1 k1 ⊢
 have pur:∀ {g:Nat} {xs:List AV} {b:Bool},(∀ H,aE Tryz.prog σ g (.ip (dL L d::[])::xs) H (Bo b) H)→aU xs=true→aE Tryz.prog σ g (.ptr ab 0::xs) H1 (Bo b) H1:=fun h hx=>a1.pure (h Hp.empty) hx rfl
 split
 ·rename_i h
  rw [if_pos h] at hK
  refine au (nT L d M.hN he _) ?_
  simpa using hK H1 a1 k1
 rename_i h1
 rw [if_neg h1] at hK
 split
 ·rename_i h
  rw [if_pos h] at hK
  refine au (nC L d M.hN he _) ?_
  simpa using hK H1 a1 k1
 rename_i h2
 rw [if_neg h2] at hK
 split
 ·rename_i h
  rw [if_pos h] at hK
  exact au (pur (fun H=>tF M.hB M.hN he [] rfl H) rfl) (hK H1 a1 k1)
 rename_i h3
 rw [if_neg h3] at hK
 split
 ·rename_i h
  rw [if_pos h] at hK
  refine au (nC L d M.hN he _) ?_
  simp
  split
  ·rename_i hp
   simp [hp] at hK
   exact au (pur (fun H=>tF M.hB M.hN he [] rfl H) rfl) (hK H1 a1 k1)
  ·rename_i hp
   simp [hp] at hK
   exact hK H1 a1 k1
 rename_i h4
 rw [if_neg h4] at hK
 split
 ·rename_i h
  rw [if_pos h] at hK
  have:=tu (σ:=σ) L d M.hN (k:=0) he
  refine au (this _) ?_
  simpa using hK H1 a1 k1
 rename_i h5
 rw [if_neg h5] at hK
 split
 ·rename_i h
  rw [if_pos h] at hK
  refine au (nC L d M.hN he _) ?_
  simp [gq]
  refine au (IK ?_ hq.1 hq.2 _) (hK H1 a1 k1)
  have:=M.hN
  unfold i64
  omega
 rename_i h6
 rw [if_neg h6] at hK
 split
 ·rename_i h
  rw [if_pos h] at hK
  refine hA q.list ns (hr (.inl h)) (hnest (.inl h)) hf hns e he ab mb cs H1 _ a1 fun H2 a2 k2=>?_
  simp
  exact hK H2 a2 (k1.trans k2)
 rename_i h7
 rw [if_neg h7] at hK
 split
 ·rename_i h
  rw [if_pos h] at hK
  exact hA q.list ns (hr (.inr h)) (hnest (.inr h)) hf hns e he ab mb cs H1 _ a1 fun H2 a2 k2=>hK H2 a2 (k1.trans k2)
 ·rename_i h
  rw [if_neg h] at hK
  exact hK H1 a1 k1
theorem KV (x:Lk):ldL true 5 ((dN x).drop 1)=some (.agg (bG x.part.c)):=by
 have e:(dN x).drop 1=bG x.part.c++[.imm 1 (x.lists.map fun l=>[lF l])]:=by
  unfold dN; rw [dE]; rfl
 rw [e,Fw (by simp)]
 rw [List.take_append_of_le_length (by simp),List.take_of_length_le (by simp)]
theorem Jz (x:Lk):ldL false 1 ((dN x).drop 5)=some (.imm 4 (x.part.c.pseudos.map bA)):=by
 unfold dN; rw [dE,cD]; rfl
theorem Ki (x:Lk):ldL false 1 ((dN x).drop 6)=some (.imm 1 (x.lists.map fun l=>[lF l])):=by
 unfold dN; rw [dE,cD]; rfl
theorem EH (x:Lk):ldL false 1 (dN x)=some (I x.part.comb):=by
 unfold dN; rw [dE]; rfl
section
attribute [local irreducible] bh.L0
theorem tH (M:Mc σ L d C) {f:Nat} (hA:pz σ L d C f) (hf:f≤12) {x:Lk} (hx:EU x) (hl:x.lists.length=x.part.c.pseudos.length) (hr:∀ (j:Nat) (q:Ps) (ns:List Nat),x.part.c.pseudos[j]?=some q→x.lists[j]?=some ns→Rep C f q.list ns) (hn:∀ q ∈ x.part.c.pseudos,kj f q.list) {e:Nat} (he:e<L.length) :
  qP σ L d C dI [I (e:Int),.agg (dN x)] (jp (AA L) L e x.part.c):=by
 intro ab mb cs H K hA0 hK
 have a1:=hA0.new (.cells (dN x) true)
 have k1:=Kp.new mb H (.cells (dN x) true)
 have hml:mb≠H.n:=by have:=hA0.nmb; omega
 have hm1:mb<H.n:=hA0.nmb
 have hps:=hx.c.ps
 have L0:∀ (m k:Nat) (H1:Hp),x.part.c.pseudos.length - m=k→m≤x.part.c.pseudos.length→gG (dL L d) C (Tru L C) ab mb cs H1→Kp mb (H.new (.cells (dN x) true)) H1 →
   (∀ H',gG (dL L d) C (Tru L C) ab mb cs H'→Kp mb H H'→K (Bo ((x.part.c.pseudos.drop m).all (gZ (AA L) L e))) H')→bh.L0 σ K (.ptr ab 0) (I (e:Int)) (.ptr H.n 0) (.imm 4 (x.part.c.pseudos.map bA)) (I x.part.c.pseudos.length) (I m) H1:=by
  intro m k
  revert m
  induction k with
  | zero =>
   intro m H1 hk hm h1 kp hK
   have:m=x.part.c.pseudos.length:=by omega
   subst this
   refine bh.L0_step ?_
   simp
   simpa using hK H1 h1 (k1.trans kp)
  | succ k ih =>
   intro m H1 hk hm h1 kp hK
   have hlt:m<x.part.c.pseudos.length:=by omega
   obtain ⟨q,hq⟩:=ce hlt
   obtain ⟨ns,hns⟩:=ce (l:=x.lists) (k:=m) (by omega)
   have hqm:=List.mem_of_getElem? hq
   rw [cI hq] at hK
   have hlt':(m:Int)<x.part.c.pseudos.length:=by omega
   have gx:H1.get H.n=some (.cells (dN x) true):=by rw [kp.get H.n (by simp) (Ne.symm hml)]; simp
   have hup:=kp.up
   simp at hup
   have n1:H.n≠H1.n:=by omega
   refine bh.L0_step ?_
   have hls:aR 1 (.imm 1 (x.lists.map fun l=>[lF l])) (I (m:Int))=some (.ip [lF ns]):=by
    have:=cd (f:=fun l:List Nat=>[lF l]) (sz:=1) hns
    exact this
   simp only [ca,hlt',decide_true,aa,aj,if_true,cd hq,fL,qf,bl]
   have hst:stA 4 (H1.new (.cells [I 0,I 0,I 0,.lit (.slice none 0 0)] true)) (.ptr H1.n 0) (.agg (bA q))=some ((H1.new (.cells [I 0,I 0,I 0,.lit (.slice none 0 0)] true)).set H1.n (some (.cells (bA q) true))):=by
    simp
    rw [wj q (by simp)]
   rw [hst,aa]
   simp only [bq,aw,if_true,bo,List.drop_zero,qf,aa,bx,Nat.zero_add,n1,if_false,ay,gx,Ki]
   rw [hls,aa]
   simp only [fL,jx,aa]
   have a2:=h1.setN (h1.new (.cells [I 0,I 0,I 0,.lit (.slice none 0 0)] true)) (Nat.le_refl H1.n) (some (.cells (bA q) true))
   have k2:=(Kp.new mb H1 (.cells [I 0,I 0,I 0,.lit (.slice none 0 0)] true)).setN (Nat.le_refl H1.n) (some (.cells (bA q) true))
   refine wY M hA hf (hx.ps q hqm) (fun _=>hr m q ns hq hns) (fun _=>hn q hqm) (hx.ls ns (List.mem_of_getElem? hns)) he ab mb cs _ _ a2 fun H2 a3 k3=>?_
   simp only [eS,aa,aj]
   cases hb:gZ (AA L) L e q with
   | false =>
    simp [hb] at hK
    simp
    exact hK H2 a3 (k1.trans (kp.trans (k2.trans k3)))
   | true =>
    simp [hb] at hK
    simp
    rw [dr hlt hps (by decide)]
    exact ih (m+1) H2 (by omega) (by omega) a3 (kp.trans (k2.trans k3)) (by simpa using hK)
 refine bh.run ?_
 simp only [fI,bx,Nat.zero_add,bq,ay,if_true,bo,KV,aa]
 refine au (a1.pure (yM M.hC M.hN he (M.sm e he) hx.c [] rfl Hp.empty) (by simp [aU,bS,lL]) rfl) ?_
 simp only [eS,aa,aj]
 unfold jp at hK
 cases hb:mD (cm (cW L e)) x.part.c with
 | false =>
  simp [hb] at hK
  simp
  exact hK _ a1 k1
 | true =>
  simp [hb] at hK
  simp [Jz]
  exact L0 0 _ _ rfl (Nat.zero_le _) a1 (.refl _ _) (by simpa using hK)
end
theorem rz (M:Mc σ L d C) {e:Nat} (he:e<L.length) (k:Int):cY L e k<e:=by
 unfold cY
 split
 ·rcases rT M.hB he with h | ⟨p,h,hp⟩
  ·omega
  ·omega
 ·split
  ·unfold jl rh
   cases h:(pi L e).getLast? with
   | none=>simp<;>omega
   | some j =>
    have:=List.mem_of_getLast? h
    unfold pi at this
    simp only [List.mem_filter,List.mem_range] at this
    simp; omega
  ·omega
theorem w_ (M:Mc σ L d C) {e:Nat} (he:e<L.length) (k:Int):-1≤cY L e k:=by
 unfold cY
 split
 ·rcases rT M.hB he with h | ⟨p,h,hp⟩
  ·omega
  ·omega
 ·split
  ·unfold jl rh
   cases h:(pi L e).getLast? with
   | none=>simp
   | some j=>simp<;>omega
  ·omega
theorem oM (M:Mc σ L d C) (g:Nat→Bool) (k:Int):∀ (f f' e:Nat),e<L.length→e<f→e<f'→io g L k f e=io g L k f' e
 | 0,f',e,_,h,_=>by omega
 | f+1,0,e,_,_,h=>by omega
 | f+1,f'+1,e,he,h1,h2=>by
  unfold io
  have:=rz M he k
  by_cases h:0≤cY L e k
  ·rw [oM M g k f f' _ (by omega) (by omega) (by omega)]
  ·simp [h]
theorem t6 (M:Mc σ L d C) {ab mb:Nat} {cs:AV} {H:Hp} (hA:gG (dL L d) C (Tru L C) ab mb cs H) {n i:Nat} {c:List Lk} {x:Lk} (hc:C[n]?=some c) (hx:c[i]?=some x) :
  ∃ p,aR 1 cs (I (n:Int))=some p∧ldA false 1 H p=some (il c)∧aR 7 (il c) (I (i:Int))=some (.ip (dN x)):=by
 obtain ⟨p,h1,h2⟩:=hA.gcs.ld1 (n:=n) (v:=il c) (by rw [List.getElem?_map,hc]; rfl)
 exact ⟨p,h1,h2,cd hx⟩
theorem wG (M:Mc σ L d C) {f:Nat} (hA:pz σ L d C f) (hf:f≤12) {n:Nat} {s:Sl} (hr:tB (Rep C f) C s n) (hn:∀ p ∈ s,∀ q ∈ p.c.pseudos,kj f q.list) (hn9:n<9000000000000000000) (i:Nat) (hi:i<s.length) (hi9:i<9000000000000000000)
  (hah:i≠0→∀ e,e<L.length→qP σ L d C cV [I (n:Int),I (i:Int),I (e:Int)] (Tru L C n i e true)) (e:Nat) (he:e<L.length) :
  qP σ L d C dc [I (n:Int),I (i:Int),I (e:Int)] (Tru L C n i e false):=by
 intro ab mb cs H K hA0 hK
 obtain ⟨c,hc,hcs,hcl⟩:=hr
 have hsel:mq C n=s:=tB.sel ⟨c,hc,hcs,hcl⟩
 obtain ⟨x,hx⟩:=ce (l:=c) (k:=i) (by rw [← List.length_map (f:=(·.part)),hcs]; exact hi)
 have hcm:=List.mem_of_getElem? hc
 have hxm:=List.mem_of_getElem? hx
 have hlk:=M.lk c hcm x hxm
 obtain ⟨hl1,hl2⟩:=hcl i x hx
 have hsx:s[i]?=some x.part:=by rw [← hcs,List.getElem?_map,hx]; rfl
 have hbx:∀ (v:AV) (H:Hp) (K:AV→Hp→Prop),v.isAny=false→v.cells=[v]→eH v H K=K (.ptr H.n 0) (H.new (.cells [v] true)):=fun v H K h1 h2=>qj h1 h2 H K
 have tr:Tru L C n i e false=(jp (AA L) L e x.part.c&&(decide (i=0)||Tru L C n i e true)):=by
  unfold Tru
  simp only [hsel]
  cases i with
  | zero=>unfold d5; simp [hsx]
  | succ i=>rw [d5]; simp [hsx]
 refine jf.run ?_
 rw [hbx _ _ _ rfl rfl,hbx _ _ _ rfl rfl,hbx _ _ _ rfl rfl,hbx _ _ _ rfl rfl]
 obtain ⟨H4,hH4⟩:∃ H4,H4=(((H.new (.cells [.ptr ab 0] true)).new (.cells [I (n:Int)] true)).new (.cells [I (i:Int)] true)).new (.cells [I (e:Int)] true):=⟨_,rfl⟩
 have a4:gG (dL L d) C (Tru L C) ab mb cs H4:=by rw [hH4]; exact (((hA0.new _).new _).new _).new _
 have k4:Kp mb H H4:=by rw [hH4]; exact (((Kp.new mb H _).trans (Kp.new mb _ _)).trans (Kp.new mb _ _)).trans (Kp.new mb _ _)
 have q1:¬ (H.n=H.n+1+1+1):=by omega
 have q2:¬ (H.n=H.n+1+1):=by omega
 have q3:¬ (H.n+1=H.n+1+1+1):=by omega
 have g0:H4.get H.n=some (.cells [.ptr ab 0] true):=by rw [hH4]; simp [q1,q2]
 have g1:H4.get (H.n+1)=some (.cells [I (n:Int)] true):=by rw [hH4]; simp [q3]
 have g2:H4.get (H.n+1+1)=some (.cells [I (i:Int)] true):=by rw [hH4]; simp
 have g3:H4.get (H.n+1+1+1)=some (.cells [I (e:Int)] true):=by rw [hH4]; simp
 have n4:H4.n=H.n+4:=by rw [hH4]; rfl
 rw [← hH4]
 simp only [Hp.n_new]
 rw [ld2 g0,aa,ld2 g1,aa,ld2 g2,aa,ld2 g3,aa]
 have hb:aT [I 0,I 0,I 0,.lit (.bool false)] [(0,1,I (n:Int)),(1,1,I (i:Int)),(2,1,I (e:Int)),(3,1,Bo false)]=some (jT n i e false):=rfl
 rw [hb,aa]
 have mbl:=hA0.nmb
 refine ww (n:=n) (i:=i) (e:=e) (a:=false) a4 (List.getElem?_eq_some_iff.1 hc).1 rfl (fun H1 K1 h1 kp1 hK1=>?_) (fun H' h' kp'=>hK H' h' (k4.trans kp'))
 have keep:∀ {H2:Hp},Kp mb H4 H2→∀ {j:Nat} {v:AV},H.n≤j→j<H.n+4→H4.get j=some (.cells [v] true)→H2.get j=some (.cells [v] true):=fun kp j v h1 h2 hg=>by rw [kp.get j (by omega) (by omega)]; exact hg
 rw [q_,List.nil_append]
 refine gN.run ?_
 obtain ⟨p,c1,c2,c3⟩:=t6 M h1 hc hx
 have hlx:ldL true 7 (dN x)=some (.agg (dN x)):=cQ (GZ x)
 have hcab:ldA false 1 H1 (.ptr ab 1)=some cs:=by simp [h1.gab]
 rw [ld2 (keep kp1 (by omega) (by omega) g0),aa,ld2 (keep kp1 (by omega) (by omega) g3),aa,aa,fG,aa,bx,aa,hcab,aa,ld2 (keep kp1 (by omega) (by omega) g1),aa,c1,aa,c2,aa,ld2 (keep kp1 (by omega) (by omega) g2),aa,c3,aa,fL,hlx,aa]
 refine tH M hA hf hlk hl1 hl2 (hn x.part (List.mem_of_getElem? hsx)) he ab mb cs H1 _ h1 fun H2 h2 kp2=>?_
 simp only [aj]
 rw [tr] at hK1
 cases hcb:jp (AA L) L e x.part.c with
 | false =>
  simp [hcb] at hK1
  simp
  exact hK1 H2 h2 kp2
 | true =>
  simp [hcb] at hK1
  simp only [if_true]
  have kp12:=kp1.trans kp2
  rw [ld2 (keep kp12 (by omega) (by omega) g2),aa,bZ,aa]
  simp only [aj,decide_eq_true_eq]
  split
  ·rename_i h0
   have h0':i=0:=by omega
   simp [h0'] at hK1
   exact hK1 H2 h2 kp2
  ·rename_i h0
   have h0':i≠0:=by omega
   simp [h0'] at hK1
   rw [ld2 (keep kp12 (by omega) (by omega) g0),aa,ld2 (keep kp12 (by omega) (by omega) g1),aa,aa,ld2 (keep kp12 (by omega) (by omega) g3),aa]
   exact hah h0' e he ab mb cs H2 _ h2 fun H3 h3 kp3=>hK1 H3 h3 (kp2.trans kp3)
theorem va (M:Mc σ L d C) {n:Nat} {c:List Lk} (hc:C[n]?=some c) (hn9:n<9000000000000000000) {i:Nat} {x:Lk} (hx:c[i+1]?=some x) (hi9:i+1<9000000000000000000)
  (hsx:(mq C n)[i+1]?=some x.part) (his:∀ e,e<L.length→qP σ L d C dc [I (n:Int),I (i:Int),I (e:Int)] (Tru L C n i e false)) :
  ∀ (m e:Nat),e<m→e<L.length→qP σ L d C cV [I (n:Int),I ((i+1:Nat):Int),I (e:Int)] (Tru L C n (i+1) e true):=by
 intro m
 induction m with
 | zero=>intro e h; omega
 | succ m ih =>
  intro e hem he ab mb cs H K hA0 hK
  have hlt:=rz M he x.part.comb
  have hge:=w_ M he x.part.comb
  have trE:∀ e,e<L.length→Tru L C n (i+1) e true=io (d5 (AA L) L (mq C n) i) L x.part.comb (e+1) e:=fun e he=>by
   unfold Tru
   simp only [hsx,Nat.add_sub_cancel]
  have tr:Tru L C n (i+1) e true=(decide (0≤cY L e x.part.comb)&&(Tru L C n i (cY L e x.part.comb).toNat false||(oR x.part.comb&&Tru L C n (i+1) (cY L e x.part.comb).toNat true))):=by
   rw [trE e he]
   by_cases h:0≤cY L e x.part.comb
   ·rw [trE _ (by omega),io]
    rw [oM M (d5 (AA L) L (mq C n) i) x.part.comb e ((cY L e x.part.comb).toNat+1) (cY L e x.part.comb).toNat (by omega) (by omega) (by omega)]
    rfl
   ·rw [io]; simp [h]
  have hbx:∀ (v:AV) (H:Hp) (K:AV→Hp→Prop),v.isAny=false→v.cells=[v]→eH v H K=K (.ptr H.n 0) (H.new (.cells [v] true)):=fun v H K h1 h2=>qj h1 h2 H K
  refine gt.run ?_
  rw [hbx _ _ _ rfl rfl,hbx _ _ _ rfl rfl,hbx _ _ _ rfl rfl]
  obtain ⟨H3,hH3⟩:∃ H3,H3=((H.new (.cells [.ptr ab 0] true)).new (.cells [I (n:Int)] true)).new (.cells [I ((i+1:Nat):Int)] true):=⟨_,rfl⟩
  have a3:gG (dL L d) C (Tru L C) ab mb cs H3:=by rw [hH3]; exact ((hA0.new _).new _).new _
  have k3:Kp mb H H3:=by rw [hH3]; exact ((Kp.new mb H _).trans (Kp.new mb _ _)).trans (Kp.new mb _ _)
  have q2:¬ (H.n=H.n+1+1):=by omega
  have g0:H3.get H.n=some (.cells [.ptr ab 0] true):=by rw [hH3]; simp [q2]
  have g1:H3.get (H.n+1)=some (.cells [I (n:Int)] true):=by rw [hH3]; simp
  have g2:H3.get (H.n+1+1)=some (.cells [I ((i+1:Nat):Int)] true):=by rw [hH3]; simp
  have n3:H3.n=H.n+1+1+1:=by rw [hH3]; rfl
  rw [← hH3]
  simp only [Hp.n_new]
  obtain ⟨p,c1,c2,c3⟩:=t6 M a3 hc hx
  have hcab:ldA false 1 H3 (.ptr ab 1)=some cs:=by simp [a3.gab]
  rw [ld2 g0,aa,aa,fG,aa,bx,aa,hcab,aa,ld2 g1,aa,c1,aa,c2,aa,ld2 g2,aa,c3,aa,pC,aa,List.drop_zero,pC,aa,List.drop_zero,fL,EH,aa]
  refine au (a3.pure (xu M.hN he x.part.comb [] rfl Hp.empty) rfl (by simp [fT,hU])) ?_
  simp only [nc,List.getElem?_cons_zero,List.getElem?_cons_succ,aa,bl,Hp.n_new]
  obtain ⟨H5,hH5⟩:∃ H5,H5=(((H3.new (.cells [I 0] true)).new (.cells [Bo false] true)).set H3.n (some (.cells [I (cY L e x.part.comb)] true))).set (H3.n+1) (some (.cells [Bo (oR x.part.comb)] true)):=⟨_,rfl⟩
  have s1:stA 1 ((H3.new (.cells [I 0] true)).new (.cells [Bo false] true)) (.ptr H3.n 0) (I (cY L e x.part.comb))=some (((H3.new (.cells [I 0] true)).new (.cells [Bo false] true)).set H3.n (some (.cells [I (cY L e x.part.comb)] true))):=by simp
  have s2:stA 1 (((H3.new (.cells [I 0] true)).new (.cells [Bo false] true)).set H3.n (some (.cells [I (cY L e x.part.comb)] true))) (.ptr (H3.n+1) 0) (Bo (oR x.part.comb))=some H5:=by rw [hH5]; simp
  rw [s1,aa,s2,aa]
  have a5:gG (dL L d) C (Tru L C) ab mb cs H5:=by
   rw [hH5]
   exact a3.setN (a3.setN ((a3.new _).new _) (Nat.le_refl _) _) (by omega) _
  have k5:Kp mb H3 H5:=by
   rw [hH5]
   exact ((((Kp.new mb H3 _).trans (Kp.new mb _ _))).setN (Nat.le_refl _) _).setN (by omega) _
  have mbl:=hA0.nmb
  have n5:H5.n=H.n+1+1+1+1+1:=by rw [hH5]; simp [n3]
  have r0:H5.get H.n=some (.cells [.ptr ab 0] true):=by rw [k5.get _ (by omega) (by omega)]; exact g0
  have r1:H5.get (H.n+1)=some (.cells [I (n:Int)] true):=by rw [k5.get _ (by omega) (by omega)]; exact g1
  have r2:H5.get (H.n+1+1)=some (.cells [I ((i+1:Nat):Int)] true):=by rw [k5.get _ (by omega) (by omega)]; exact g2
  have r3:H5.get H3.n=some (.cells [I (cY L e x.part.comb)] true):=by rw [hH5]; simp
  have r4:H5.get (H3.n+1)=some (.cells [Bo (oR x.part.comb)] true):=by rw [hH5]; simp
  clear hH5 s1 s2
  rw [ld2 r3,aa,iF,aa]
  simp only [aj,decide_eq_true_eq]
  rw [tr] at hK
  split
  ·rename_i h0
   rw [ld2 r0,aa,ld2 r1,aa,ld2 r2,aa]
   have hb:aT [I 0,I 0,I 0,.lit (.bool false)] [(0,1,I (n:Int)),(1,1,I ((i+1:Nat):Int)),(2,1,I (e:Int)),(3,1,Bo true)]=some (jT n (i+1) e true):=rfl
   rw [hb,aa]
   refine ww (n:=n) (i:=i+1) (e:=e) (a:=true) a5 (List.getElem?_eq_some_iff.1 hc).1 rfl (fun H1 K1 h1 kp1 hK1=>?_) (fun H' h' kp'=>?_)
   ·have keep:∀ {H2:Hp},Kp mb H5 H2→∀ {j:Nat} {v:AV},H.n≤j→j<H.n+5→H5.get j=some (.cells [v] true)→H2.get j=some (.cells [v] true):=fun kp j v h1 h2 hg=>by rw [kp.get j (by omega) (by omega)]; exact hg
    obtain ⟨x',hx'⟩:∃ k:Nat,cY L e x.part.comb=k:=⟨(cY L e x.part.comb).toNat,by omega⟩
    rw [tr,hx'] at hK1
    rw [hx'] at r3 hlt
    simp only [Int.toNat_natCast] at hK1
    rw [q_,List.nil_append]
    refine fE.run ?_
    have e1:wr .i64 (((i+1:Nat):Int) - 1)=(i:Int):=by rw [fw (by omega) (by omega)]; omega
    rw [ld2 (keep kp1 (by omega) (by omega) r0),aa,ld2 (keep kp1 (by omega) (by omega) r1),aa,ld2 (keep kp1 (by omega) (by omega) r2),aa,kL,aa,e1,ld2 (keep kp1 (by omega) (by omega) r3),aa]
    refine his x' (by omega) ab mb cs H1 _ h1 fun H2 h2 kp2=>?_
    simp only [aj]
    have kp12:=kp1.trans kp2
    have h0':(0:Int)≤(x':Int):=by omega
    cases hf:Tru L C n i x' false with
    | true =>
     simp [hf,h0'] at hK1
     simp
     exact hK1 H2 h2 kp2
    | false =>
     simp [hf,h0'] at hK1
     simp only [Bool.false_eq_true,if_false]
     rw [ld2 (keep kp12 (by omega) (by omega) r4),aa]
     simp only [aj]
     cases hfar:oR x.part.comb with
     | false =>
      simp [hfar] at hK1
      simp
      exact hK1 H2 h2 kp2
     | true =>
      simp [hfar] at hK1
      simp only [if_true]
      rw [ld2 (keep kp12 (by omega) (by omega) r0),aa,ld2 (keep kp12 (by omega) (by omega) r1),aa,ld2 (keep kp12 (by omega) (by omega) r2),aa,ld2 (keep kp12 (by omega) (by omega) r3),aa]
      exact ih x' (by omega) (by omega) ab mb cs H2 _ h2 fun H3' h3 kp3=>hK1 H3' h3 (kp2.trans kp3)
   ·rw [← tr] at hK
    exact hK H' h' (k3.trans (k5.trans kp'))
  ·rename_i h0
   have:decide (0≤cY L e x.part.comb)=false:=by simpa using h0
   rw [this,Bool.false_and] at hK
   exact hK H5 a5 (k3.trans k5)
theorem FQ (M:Mc σ L d C) {f:Nat} (hA:pz σ L d C f) (hf:f≤12) {n:Nat} {s:Sl} (hr:tB (Rep C f) C s n) (hn:∀ p ∈ s,∀ q ∈ p.c.pseudos,kj f q.list) (hn9:n<9000000000000000000):∀ (i:Nat),i<s.length→i<9000000000000000000→∀ e,e<L.length →
  qP σ L d C dc [I (n:Int),I (i:Int),I (e:Int)] (Tru L C n i e false)
 | 0,hi,hi9,e,he=>wG M hA hf hr hn hn9 0 hi hi9 (fun h=>absurd rfl h) e he
 | i+1,hi,hi9,e,he=>by
  refine wG M hA hf hr hn hn9 (i+1) hi hi9 (fun _ e he=>?_) e he
  obtain ⟨c,hc,hcs,hcl⟩:=hr
  obtain ⟨x,hx⟩:=ce (l:=c) (k:=i+1) (by rw [← List.length_map (f:=(·.part)),hcs]; exact hi)
  have hsel:mq C n=s:=tB.sel ⟨c,hc,hcs,hcl⟩
  have hsx:(mq C n)[i+1]?=some x.part:=by rw [hsel,← hcs,List.getElem?_map,hx]; rfl
  exact va M hc hn9 hx hi9 hsx (fun e he=>FQ M hA hf ⟨c,hc,hcs,hcl⟩ hn hn9 i (by omega) (by omega) e he) (e+1) e (by omega) he
section
attribute [local irreducible] bM.L0
theorem zg (M:Mc σ L d C) {f:Nat} (hA:pz σ L d C f) (hf:f+1≤12):pz σ L d C (f+1):=by
 intro l ns hr hn _ hns e he ab mb cs H K hA0 hK
 rw [← FO hn hf] at hK
 obtain ⟨hlen,hrep⟩:=hr
 have L0:∀ (m k:Nat) (H1:Hp),ns.length - m=k→m≤ns.length→gG (dL L d) C (Tru L C) ab mb cs H1→Kp mb H H1→(∀ H',gG (dL L d) C (Tru L C) ab mb cs H'→Kp mb H H'→K (Bo (oo (AA L) L (l.drop m) e)) H') →
   bM.L0 σ K (.ptr ab 0) (I (e:Int)) (lF ns) (I ns.length) (I m) H1:=by
  intro m k
  revert m
  induction k with
  | zero =>
   intro m H1 hk hm h1 kp hK
   have:m=ns.length:=by omega
   subst this
   refine bM.L0_step ?_
   simp
   have:=hK H1 h1 kp
   rw [hlen,List.drop_length] at this
   exact this
  | succ k ih =>
   intro m H1 hk hm h1 kp hK
   have hlt:m<ns.length:=by omega
   obtain ⟨n,hnn⟩:=ce hlt
   obtain ⟨s,hs⟩:=ce (l:=l) (k:=m) (by omega)
   have hrc:=hrep m s n hs hnn
   rw [cI hs] at hK
   have hlt':(m:Int)<ns.length:=by omega
   obtain ⟨c,hc,hcs,hcl⟩:=hrc
   have hcm:=List.mem_of_getElem? hc
   have hcl2:c.length=s.length:=by rw [← hcs,List.length_map]
   obtain ⟨p,c1,c2⟩:=h1.gcs.ld1 (n:=n) (v:=il c) (by rw [List.getElem?_map,hc]; rfl)
   have hcab:ldA false 1 H1 (.ptr ab 1)=some cs:=by simp [h1.gab]
   have hix:aR 1 (lF ns) (I (m:Int))=some (.ip (qG n)):=cd hnn
   have hllen:a8 (il c)=some (I (s.length:Int)):=by unfold il; simp [hcl2]
   have hl9:=M.ll c hcm
   rw [eC] at hl9 hns
   have hn9:n<9000000000000000000:=by
    have:=(List.getElem?_eq_some_iff.1 hc).1
    have:=M.cl
    rw [eC] at this
    omega
   have hsel:mq C n=s:=tB.sel ⟨c,hc,hcs,hcl⟩
   refine bM.L0_step ?_
   have hle:ldL false 1 (qG n)=some (I (n:Int)):=rfl
   simp only [ca,hlt',decide_true,aa,aj,if_true,hix,fL,hle,fG,bx,hcab,c1,c2,hllen,eQ,decide_eq_true_eq]
   have hcons:oo (AA L) L (s::l.drop (m+1)) e=((!decide (s.length=0)&&d5 (AA L) L s (s.length - 1) e)||oo (AA L) L (l.drop (m+1)) e):=by simp [oo]
   rw [hcons] at hK
   split
   ·rename_i h0
    have e1:wr .i64 ((s.length:Int) - 1)=((s.length - 1:Nat):Int):=by rw [fw (by omega) (by omega)]; omega
    simp only [kL,aa,e1]
    refine FQ M hA (by omega) ⟨c,hc,hcs,hcl⟩ (fun p hp q hq=>hn s (List.mem_of_getElem? hs) p hp q hq) hn9 (s.length - 1) (by omega) (by omega) e he ab mb cs H1 _ h1 fun H2 h2 kp2=>?_
    have htr:Tru L C n (s.length - 1) e false=d5 (AA L) L s (s.length - 1) e:=by unfold Tru; simp only [hsel]
    rw [htr]
    have h0':¬ (s.length=0):=by omega
    simp only [aj]
    cases hfr:d5 (AA L) L s (s.length - 1) e with
    | true =>
     rw [hfr] at hK
     simp [h0'] at hK
     simp
     exact hK H2 h2 (kp.trans kp2)
    | false =>
     rw [hfr] at hK
     simp at hK
     simp
     rw [ci (by omega)]
     exact ih (m+1) H2 (by omega) (by omega) h2 (kp.trans kp2) hK
   ·rename_i h0
    have h0':s.length=0:=by omega
    simp [h0'] at hK
    simp only [cx,aa]
    rw [ci (by omega)]
    exact ih (m+1) H1 (by omega) (by omega) h1 kp hK
 refine bM.run ?_
 have:a8 (lF ns)=some (I (ns.length:Int)):=by unfold lF; simp
 rw [this,aa]
 exact L0 0 _ H rfl (Nat.zero_le _) hA0 (.refl _ _) (by simpa using hK)
theorem Aw (M:Mc σ L d C):∀ (f:Nat),f≤12→pz σ L d C f
 | 0,_=>fun l ns hr=>hr.elim
 | f+1,hf=>zg M (Aw M f (by omega)) hf
end
end
end Go.Proofs.YthmaggcfghjmfaaGreat.Ev
namespace Go.Proofs.YthmaggcfghjmfaaGreat.Ev
set_option linter.unusedVariables false
set_option linter.unusedSimpArgs false
variable {σ:Sig}
def mu (g:List Sl→Nat→Bool) (dp:Nat) (q:Ps):Bool:=if q.kind=7∨q.kind=8 then !decide (dp=0)&&g q.list (dp - 1) else true
def lR (g:List Sl→Nat→Bool) (dp:Nat) (c:Cp):Bool:=c.pseudos.all (mu g dp)
def lQ (g:List Sl→Nat→Bool) (dp:Nat) (s:Sl):Bool:=decide (s.length≤50)&&s.all fun p=>lR g dp p.c
def dj:Nat→List Sl→Nat→Bool
 | 0,_,_=>false
 | f+1,l,dp=>l.all (lQ (dj f) dp)
section
attribute [local irreducible] bp.L0 bp.L1 aD.L0 aD.J1
def vZ (σ:Sig) (f:Nat):Prop:=∀ (l:List Sl) (dp:Nat) (H:Hp),gd cF l→kj f l→dp≤8→aE Tryz.prog σ fi [sls l,I (dp:Int)] H (Bo (dj f l dp)) H
theorem Ez {f:Nat} (ih:vZ σ f) (c:Cp) (hc:pq cF c) (hn:∀ q ∈ c.pseudos,kj f q.list) (dp:Nat) (hd:dp≤8) (H:Hp):aE Tryz.prog σ ek [.agg (bG c),I (dp:Int)] H (Bo (lR (dj f) dp c)) H:=by
 refine bO (fun K hK=>aD.run ?_) (by simp [aU,bS,lL]) rfl H
 have L0:∀ (m k:Nat) (H:Hp),c.pseudos.length - m=k→m≤c.pseudos.length→(∀ H,K (Bo ((c.pseudos.drop m).all (mu (dj f) dp))) H)→aD.L0 σ K (I (dp:Int)) (.imm 4 (c.pseudos.map bA)) (I c.pseudos.length) (I m) H:=by
  intro m k
  revert m
  induction k with
  | zero =>
   intro m H hk hm hK
   have:m=c.pseudos.length:=by omega
   subst this
   refine aD.L0_step ?_
   simp
   simpa using hK H
  | succ k ihk =>
   intro m H hk hm hK
   have hlt:m<c.pseudos.length:=by omega
   obtain ⟨q,hq⟩:=ce hlt
   have hqm:=List.mem_of_getElem? hq
   have hqw:=(Ps.wf_iff.1 (hc.ps q hqm)).2.2.2
   rw [cI hq,List.all_cons] at hK
   have hlt':(m:Int)<c.pseudos.length:=by omega
   have next:∀ H,mu (dj f) dp q=true→aD.J1 σ K (I (dp:Int)) (.imm 4 (c.pseudos.map bA)) (I c.pseudos.length) (I m) H:=by
    intro H ht
    refine aD.J1_step ?_
    simp
    rw [dr hlt hc.psL]
    refine ihk (m+1) H (by omega) (by omega) fun H'=>?_
    have:=hK H'
    rwa [ht,Bool.true_and] at this
   have ask:∀ (H:Hp),(q.kind=7∨q.kind=8)→H.get (H.n - 1)=some (.cells (bA q) true)→ifB (Bo (decide ((dp:Int)=0))) (K (Bo false) H) (bnd (ldA false 1 H (.ptr (H.n - 1) 3)) fun x22=>bnd (af .sub (I (dp:Int)) (I 1)) fun x23=>ai Tryz.prog σ fi [x22,x23] H fun x24 H25=>bnd (unR .not x24) fun x26=>ifB x26 (K (Bo false) H25) (aD.J1 σ K (I (dp:Int)) (.imm 4 (c.pseudos.map bA)) (I c.pseudos.length) (I m) H25)):=by
    intro H hkq hg
    simp only [aj,decide_eq_true_eq]
    have hQ:mu (dj f) dp q=(!decide (dp=0)&&dj f q.list (dp - 1)):=by unfold mu; rw [if_pos hkq]
    split
    ·rename_i h0
     have h0':dp=0:=by omega
     have:=hK H
     rw [hQ] at this
     simpa [h0'] using this
    ·rename_i h0
     have h0':¬ (dp=0):=by omega
     have e1:wr .i64 ((dp:Int) - 1)=((dp - 1:Nat):Int):=by rw [fw (by omega) (by omega)]; omega
     simp only [bq,hg,bo,nB,aa,kL,e1]
     refine au (ih q.list (dp - 1) H hqw (hn q hqm) (by omega)) ?_
     simp only [eS,aa,aj]
     cases hb:dj f q.list (dp - 1) with
     | false =>
      have:=hK H
      rw [hQ] at this
      simpa [h0',hb] using this
     | true =>
      simp
      exact next H (by rw [hQ]; simp [h0',hb])
   refine aD.L0_step ?_
   have hst:stA 4 (H.new (.cells [I 0,I 0,I 0,.lit (.slice none 0 0)] true)) (.ptr H.n 0) (.agg (bA q))=some ((H.new (.cells [I 0,I 0,I 0,.lit (.slice none 0 0)] true)).set H.n (some (.cells (bA q) true))):=by
    simp
    rw [wj q (by simp)]
   simp only [ca,hlt',decide_true,aa,aj,if_true,cd hq,fL,qf,bl,hst,bx,Nat.zero_add,bq,aw,bo,List.drop_zero,tD,jA]
   have hask:=ask ((H.new (.cells [I 0,I 0,I 0,.lit (.slice none 0 0)] true)).set H.n (some (.cells (bA q) true)))
   simp only [Hp.n_set,Hp.n_new,Nat.add_sub_cancel,bq,aw,if_true,bo] at hask
   by_cases h7:q.kind=7
   ·simp only [h7,decide_true,Bool.not_true,Bool.false_eq_true,if_false,bZ,aa]
    exact hask (.inl h7) trivial
   ·simp only [h7,decide_false,Bool.not_false,if_true]
    by_cases h8:q.kind=8
    ·simp only [h8,decide_true,Bool.not_true,Bool.false_eq_true,if_false,bZ,aa]
     exact hask (.inr h8) trivial
    ·simp only [h8,decide_false,Bool.not_false,if_true]
     exact next _ (by unfold mu; rw [if_neg (by omega)])
 simp only [fI,bx,aa,Nat.zero_add,bq,ay,if_true,bo,pR,eh,List.length_map]
 exact L0 0 _ _ rfl (Nat.zero_le _) (by simpa [lR] using hK)
theorem Bm {f:Nat} (ih:vZ σ f):vZ σ (f+1):=by
 intro l dp H hl hn hd
 refine bO (fun K hK=>bp.run ?_) (by simp [aU,bS]) rfl H
 have L0:∀ (m k:Nat) (H:Hp) (y20 y21 y22:AV),l.length - m=k→m≤l.length→(∀ H,K (Bo ((l.drop m).all (lQ (dj f) dp))) H)→bp.L0 σ K (I (dp:Int)) (sls l) (I l.length) (I m) y20 y21 y22 H:=by
  intro m k
  revert m
  induction k with
  | zero =>
   intro m H y20 y21 y22 hk hm hK
   have:m=l.length:=by omega
   subst this
   refine bp.L0_step ?_
   simp
   simpa using hK H
  | succ k ihk =>
   intro m H y20 y21 y22 hk hm hK
   have hlt:m<l.length:=by omega
   obtain ⟨s,hs⟩:=ce hlt
   have hsm:=List.mem_of_getElem? hs
   have hsw:=hl.2 s hsm
   rw [cI hs,List.all_cons] at hK
   have hlt':(m:Int)<l.length:=by omega
   have L1:∀ (j k2:Nat) (H:Hp),s.length - j=k2→j≤s.length→(∀ H,K (Bo ((s.drop j).all (fun p=>lR (dj f) dp p.c)&&(l.drop (m+1)).all (lQ (dj f) dp))) H) →
     bp.L1 σ K (I (dp:Int)) (sls l) (I l.length) (I m) (.imm 6 (s.map bm)) (I s.length) (I j) H:=by
    intro j k2
    revert j
    induction k2 with
    | zero =>
     intro j H hk2 hj hK
     have:j=s.length:=by omega
     subst this
     refine bp.L1_step ?_
     simp
     rw [dr hlt hl.1]
     exact ihk (m+1) H _ _ _ (by omega) (by omega) (by simpa using hK)
    | succ k2 ih2 =>
     intro j H hk2 hj hK
     have hjlt:j<s.length:=by omega
     obtain ⟨p,hp⟩:=ce hjlt
     have hpm:=List.mem_of_getElem? hp
     have hpw:=(Pt.wf_iff.1 (hsw.2 p hpm)).2
     rw [cI hp,List.all_cons] at hK
     have hjlt':(j:Int)<s.length:=by omega
     have hst:stA 6 (H.new (.cells [I 0,Sx ⟨#[]⟩,.lit (.slice none 0 0),.lit (.slice none 0 0),.lit (.slice none 0 0),.lit (.slice none 0 0)] true)) (.ptr H.n 0) (.agg (bm p))=some ((H.new (.cells [I 0,Sx ⟨#[]⟩,.lit (.slice none 0 0),.lit (.slice none 0 0),.lit (.slice none 0 0),.lit (.slice none 0 0)] true)).set H.n (some (.cells (bm p) true))):=by
      simp
      rw [FX p (by simp)]
     refine bp.L1_step ?_
     have hd1:(bm p).drop 1=bG p.c:=by rw [dE]; rfl
     simp only [ca,hjlt',decide_true,aa,aj,if_true,cd hp,fL,yK,bl,hst,bx,Nat.zero_add,bq,aw,bo,hd1,BU]
     refine au (Ez ih p.c hpw (fun q hq=>hn s hsm p hpm q hq) dp hd _) ?_
     simp only [eS,aa,aj]
     cases hb:lR (dj f) dp p.c with
     | false =>
      rw [hb] at hK
      simpa using hK _
     | true =>
      rw [hb] at hK
      simp
      rw [dr hjlt hsw.1]
      exact ih2 (j+1) _ (by omega) (by omega) (by simpa using hK)
   refine bp.L0_step ?_
   have hst:stA 1 (H.new (.cells [.lit (.slice none 0 0)] true)) (.ptr H.n 0) (.agg (aX s))=some ((H.new (.cells [.lit (.slice none 0 0)] true)).set H.n (some (.cells (aX s) true))):=by
    simp [aX]
   have hix:aR 1 (sls l) (I (m:Int))=some (.ip (aX s)):=cd hs
   simp only [ca,hlt',decide_true,aa,aj,if_true,hix,fL,rL,bl,hst,bx,Nat.zero_add,bq,aw,bo,List.drop_zero,kP,eh,List.length_map,eQ,decide_eq_true_eq]
   have hS:lQ (dj f) dp s=(decide (s.length≤50)&&s.all fun p=>lR (dj f) dp p.c):=rfl
   rw [hS] at hK
   split
   ·rename_i h50
    have:¬ (s.length≤50):=by omega
    simpa [this] using hK _
   ·rename_i h50
    have:s.length≤50:=by omega
    refine L1 0 _ _ rfl (Nat.zero_le _) ?_
    simpa [this] using hK
 simp
 exact L0 0 _ _ _ _ _ rfl (Nat.zero_le _) (by simpa [dj] using hK)
theorem CN:∀ (f:Nat),vZ σ f
 | 0=>fun l dp H hl hn=>hn.elim
 | f+1=>Bm (CN f)
end
end Go.Proofs.YthmaggcfghjmfaaGreat.Ev
namespace Go.Proofs.YthmaggcfghjmfaaGreat.Ev
set_option linter.unusedVariables false
set_option linter.unusedSimpArgs false
variable {σ:Sig}
def HFz (H H2:Hp):Prop:=∃ Hd:Hp,H2.n=H.n∧Hd.n=H.n∧(∀ id k,Hd.get id=some k→H.get id=some k∧H2.get id=none)∧(∀ id k2,H2.get id=some k2→∃ k1,H.get id=some k1∧FzB Hd k1 k2)
theorem FzT.refl {Hd:Hp}:∀ (T:List AV),FzT Hd T T
 | []=>.nil
 | x::T=>.same (.refl T)
theorem HFz.wk {H H2:Hp} (h:HFz H H2) (T:List AV):Wk σ T H T H2:=by
 obtain ⟨Hd,h1,h2,h3,h4⟩:=h
 exact Wk.frz h1 h2 h3 h4 (.refl T)
theorem HFz.loop {P:Program} {C:Ctx P} {c:Code} {T:List AV} {H H2:Hp} {Q:Exit→List AV→Hp→Prop} (k:HFz H H2) (h:bj C c T H2 Q):bj C c T H Q:=bj.conv (k.wk T) h
theorem vH {szc sz:Nat} {H:Hp} {y x:AV} {rows:List (List AV)} {row:List AV} {rs:List (List AV)} (hy:Gs szc H y (rows++[row])) (hx:Gs sz H x rs) (hn:dV rs=true) {j:Nat} (hj:row[j]?=some x) (hd:∀ i,own y i→¬ own x i) :
  ∃ H2,HFz H H2∧H2.n=H.n∧Gs szc H2 y (rows++[row.set j (.imm sz rs)])∧∀ i,¬ own y i→¬ own x i→H2.get i=H.get i:=by
 have hjl:=(List.getElem?_eq_some_iff.1 hj).1
 generalize hr:rows++[row]=rr at hy
 cases hy with
 | nil=>simp at hr
 | sl hlt hg hsz =>
  rename_i id ex
  have hrow:row.length=szc:=hsz row (by rw [← hr]; simp)
  have hrr:rr.length=rows.length+1:=by rw [← hr]; simp
  have hget:rr[rows.length]?=some row:=by rw [← hr]; simp
  have hk:=nY hsz rows.length row j x hget hj
  obtain ⟨Hd,H2,h1,h2,h3,h4,h5,h6,h7⟩:=ED hx hn hg hk (hd id rfl)
  have hflat:rr.flatten.set (rows.length*szc+j) (.imm sz rs)=(rows++[row.set j (.imm sz rs)]).flatten:=by
   have hkl:=(List.getElem?_eq_some_iff.1 hk).1
   rw [← nu hkl,iJ (by simp; omega) hsz (by omega)]
   have e1:rr[rows.length]=row:=by
    rw [List.getElem?_eq_getElem (by omega)] at hget
    exact Option.some.inj hget
   have e2:bN row j [AV.imm sz rs]=row.set j (.imm sz rs):=nu hjl
   simp only [e1,e2]
   rw [← hr]
   simp
  rw [hflat] at h6
  have hl:rr.length=(rows++[row.set j (.imm sz rs)]).length:=by rw [hrr]; simp
  refine ⟨H2,⟨Hd,h2,h1,h3,h4⟩,h2,?_,fun i hi hi2=>h7 i (fun e=>hi e.symm) hi2⟩
  rw [hl]
  exact .sl (by omega) h6 (fun r hr'=>by
   rcases List.mem_append.1 hr' with h | h
   ·exact hsz r (by rw [← hr]; simp [h])
   ·simp at h; subst h; simpa using hrow)
abbrev NB:Nat:=1048576
def eK:Nat→List Sl→Nat
 | 0,_=>0
 | f+1,l=>(l.map fun s=>1+(s.map fun p=>(p.c.pseudos.map fun q=>eK f q.list).sum).sum).sum
def jR:Nat→List Sl→Prop
 | 0,_=>False
 | f+1,l=>l.length≤NB∧∀ s ∈ l,s.length≤NB∧∀ p ∈ s,sv p.c∧p.c.pseudos.length≤NB∧∀ q ∈ p.c.pseudos,(i64 q.a∧i64 q.b)∧jR f q.list
structure EY (c:List Lk):Prop where
 len:c.length≤NB
 lk:∀ x ∈ c,EU x
theorem Rep.mono {C D:List (List Lk)}:∀ {f:Nat} {l:List Sl} {ns:List Nat},Rep C f l ns→Rep (C++D) f l ns
 | 0,l,ns,h=>h
 | f+1,l,ns,h=>⟨h.1,fun i s n hs hn=>by
  obtain ⟨c,h1,h2,h3⟩:=h.2 i s n hs hn
  refine ⟨c,by rw [List.getElem?_append_left (List.getElem?_eq_some_iff.1 h1).1]; exact h1,h2,fun k x hx=>⟨(h3 k x hx).1,fun j q ns' hq hns=>((h3 k x hx).2 j q ns' hq hns).mono⟩⟩⟩
structure sN (t:AV) (C:List (List Lk)) (ab mb:Nat) (cs:AV) (H:Hp):Prop where
 gab:H.get ab=some (.cells [t,cs,.mp mb] true)
 nab:ab<H.n
 gcs:Gs 1 H cs (C.map fun c=>[il c])
 csab:¬ own cs ab
structure AFr (H:Hp) (cs:AV) (ab:Nat) (H':Hp) (cs':AV):Prop where
 up:H.n≤H'.n
 get:∀ (j:Nat),j<H.n→j≠ab→¬ own cs j→H'.get j=H.get j
 mine:∀ j,own cs' j→own cs j∨H.n≤j
theorem AFr.refl (H:Hp) (cs:AV) (ab:Nat):AFr H cs ab H cs:=⟨Nat.le_refl _,fun _ _ _ _=>rfl,fun j h=>.inl h⟩
theorem AFr.trans {H H1 H2:Hp} {cs cs1 cs2:AV} {ab:Nat} (h:AFr H cs ab H1 cs1) (k:AFr H1 cs1 ab H2 cs2):AFr H cs ab H2 cs2:=by
 refine ⟨Nat.le_trans h.up k.up,fun j hj hne ho=>?_,fun j hj=>?_⟩
 ·rw [k.get j (Nat.lt_of_lt_of_le hj h.up) hne (fun hc=>by
   rcases h.mine j hc with h | h
   ·exact ho h
   ·omega),h.get j hj hne ho]
 ·rcases k.mine j hj with h1 | h1
  ·exact h.mine j h1
  ·have:=h.up; exact .inr (by omega)
theorem AFr.loc {H H1 H2:Hp} {cs cs1:AV} {ab:Nat} (h:AFr H cs ab H1 cs1) (hn:H1.n≤H2.n) (hg:∀ j,j<H.n→H2.get j=H1.get j):AFr H cs ab H2 cs1 :=
 ⟨Nat.le_trans h.up hn,fun j hj hne ho=>by rw [hg j hj,h.get j hj hne ho],h.mine⟩
theorem sN.loc {t:AV} {C:List (List Lk)} {ab mb:Nat} {cs:AV} {H H':Hp} (h:sN t C ab mb cs H) (hn:H.n≤H'.n) (h1:H'.get ab=H.get ab) (h2:∀ j,own cs j→H'.get j=H.get j):sN t C ab mb cs H' :=
 ⟨by rw [h1]; exact h.gab,Nat.lt_of_lt_of_le h.nab hn,h.gcs.keep h2 hn,h.csab⟩
def uh (σ:Sig) (f:Nat):Prop:=∀ (l:List Sl),jR f l→∀ (t:AV) (C:List (List Lk)) (ab mb:Nat) (cs:AV) (H:Hp) (K:AV→Hp→Prop),sN t C ab mb cs H→C.length+eK f l≤NB →
 (∀ (H':Hp) (cs':AV) (C2:List (List Lk)) (r:AV) (ns:List Nat),sN t (C++C2) ab mb cs' H'→Rep (C++C2) f l ns→C2.length=eK f l→(∀ c ∈ C2,EY c)→Gs 1 H' r (ns.map qG)→(∀ j,own r j→H.n≤j∧¬ own cs' j)→AFr H cs ab H' cs'→K r H') →
 ai Tryz.prog σ dy [.ptr ab 0,sls l] H K
structure AS (t:AV) (C0:List (List Lk)) (ab mb:Nat) (H0:Hp) (cs0:AV) (C2:List (List Lk)) (cs:AV) (H:Hp) (y5:AV) (ns:List Nat):Prop where
 add:sN t (C0++C2) ab mb cs H
 fr:AFr H0 cs0 ab H cs
 ok:∀ c ∈ C2,EY c
 out:Gs 1 H y5 (ns.map qG)
 o5:∀ j,own y5 j→H0.n≤j∧¬ own cs j
structure rV (H0:Hp) (cs y5:AV) (sz:Nat) (H:Hp) (x:AV) (rows:List (List AV)):Prop where
 gs:Gs sz H x rows
 o:∀ j,own x j→H0.n≤j∧¬ own cs j∧¬ own y5 j
theorem AS.loc {t:AV} {C0 C2:List (List Lk)} {ab mb:Nat} {H0 H H':Hp} {cs0 cs y5:AV} {ns:List Nat} (h:AS t C0 ab mb H0 cs0 C2 cs H y5 ns) (hab:ab<H0.n) (hn:H.n≤H'.n) (hg:∀ j,j<H0.n→H'.get j=H.get j) (h1:∀ j,own cs j→H'.get j=H.get j) (h5:∀ j,own y5 j→H'.get j=H.get j):AS t C0 ab mb H0 cs0 C2 cs H' y5 ns :=
 ⟨h.add.loc hn (hg _ hab) h1,h.fr.loc hn hg,h.ok,h.out.keep h5 hn,h.o5⟩
theorem rV.loc {H0 H H':Hp} {cs y5 x:AV} {sz:Nat} {rows:List (List AV)} (h:rV H0 cs y5 sz H x rows) (hn:H.n≤H'.n) (h1:∀ j,own x j→H'.get j=H.get j):rV H0 cs y5 sz H' x rows:=⟨h.gs.keep h1 hn,h.o⟩
theorem Ka {K:AV→Hp→Prop} {y0 y5 y8 y11 y14 y15 y16 y21 y22 y23 y31 y32 y33:AV} {H H2:Hp} (k:HFz H H2) (h:al.L0 σ K y0 y5 y8 y11 y14 y15 y16 y21 y22 y23 y31 y32 y33 H2):al.L0 σ K y0 y5 y8 y11 y14 y15 y16 y21 y22 y23 y31 y32 y33 H:=fun js=>k.loop (h js)
theorem JY {K:AV→Hp→Prop} {y0 y5 y8 y11 y14 y15 y16 y21 y22 y23 y31 y32 y33:AV} {H H2:Hp} (k:HFz H H2) (h:al.L1 σ K y0 y5 y8 y11 y14 y15 y16 y21 y22 y23 y31 y32 y33 H2):al.L1 σ K y0 y5 y8 y11 y14 y15 y16 y21 y22 y23 y31 y32 y33 H:=fun js=>k.loop (h js)
theorem Jp {K:AV→Hp→Prop} {y0 y5 y8 y11 y14 y15 y16 y21 y22 y23 y31 y32 y33:AV} {H H2:Hp} (k:HFz H H2) (h:al.L2 σ K y0 y5 y8 y11 y14 y15 y16 y21 y22 y23 y31 y32 y33 H2):al.L2 σ K y0 y5 y8 y11 y14 y15 y16 y21 y22 y23 y31 y32 y33 H:=fun js=>k.loop (h js)
def lf (l:List Nat):List AV:=[lF l]
section
attribute [local irreducible] al.L0 al.L1 al.L2
theorem uo (l:List (List Nat)):dV (l.map lf)=true:=ba _ (fun l=>by simp [lf,aU,ra]) l
theorem BR (p:Pt) (lsl:List (List Nat)):dN ⟨p,lsl⟩=bm p++[.imm 1 (lsl.map lf)]:=rfl
theorem GA {f:Nat} (ih:uh σ f) {t:AV} {C0:List (List Lk)} {ab mb:Nat} {H0:Hp} {cs0:AV} (hab:ab<H0.n) {K:AV→Hp→Prop} {y5:AV} {ns:List Nat} {cl:List Lk} {p:Pt} (hpl:p.c.pseudos.length≤NB) (hp:∀ q ∈ p.c.pseudos,(i64 q.a∧i64 q.b)∧jR f q.list)
  {y14 y15 y16 y21 y22:AV} {j:Nat} (hj:j<NB) (hcl:cl.length≤j) {R:Nat} {P:List (List Lk)→Prop}
  (hK:∀ (H:Hp) (cs:AV) (C2:List (List Lk)) (y8 y11:AV) (lsl:List (List Nat)) (y31 y32 y33:AV),AS t C0 ab mb H0 cs0 C2 cs H y5 ns→P C2→rV H0 cs y5 7 H y8 ((cl++[Lk.mk p lsl]).map dN)→lsl.length=p.c.pseudos.length→(∀ (j:Nat) (q:Ps) (ns':List Nat),p.c.pseudos[j]?=some q→lsl[j]?=some ns'→Rep (C0++C2) f q.list ns')→(∀ l ∈ lsl,l.length≤NB) →
   (C0++C2).length+R≤NB→al.L1 σ K (.ptr ab 0) y5 y8 y11 y14 y15 y16 y21 y22 (I ((j+1:Nat):Int)) y31 y32 y33 H) :
  ∀ (m k:Nat) (H:Hp) (cs:AV) (C2:List (List Lk)) (y8:AV) (xb:Nat) (lv:AV) (lsl:List (List Nat)),p.c.pseudos.length - k=m→k≤p.c.pseudos.length→AS t C0 ab mb H0 cs0 C2 cs H y5 ns→(∀ D,C2 <+: D→D.length=C2.length+((p.c.pseudos.drop k).map fun q=>eK f q.list).sum→P D)→rV H0 cs y5 7 H y8 (cl.map dN)→H.get xb=some (.cells (bm p++[lv]) true)→H0.n≤xb→xb<H.n→¬ own cs xb→¬ own y5 xb→¬ own y8 xb →
   rV H0 cs y5 1 H lv (lsl.map lf)→¬ own lv xb→(∀ i,own lv i→¬ own y8 i)→lsl.length=k→(∀ (j:Nat) (q:Ps) (ns':List Nat),p.c.pseudos[j]?=some q→lsl[j]?=some ns'→Rep (C0++C2) f q.list ns')→(∀ l ∈ lsl,l.length≤NB) →
   (C0++C2).length+(((p.c.pseudos.drop k).map fun q=>eK f q.list).sum+R)≤NB →
   al.L2 σ K (.ptr ab 0) y5 y8 (.ptr xb 0) y14 y15 y16 y21 y22 (I (j:Int)) (.imm 4 (p.c.pseudos.map bA)) (I p.c.pseudos.length) (I (k:Int)) H:=by
 have hNB:NB=1048576:=rfl
 intro m
 induction m with
 | zero =>
  intro k H cs C2 y8 xb lv lsl hm hk hA hP h8 gx hx0 hxn hxc hx5 hx8 hl hlx hl8 hlk hrep hlen hcnt
  have:k=p.c.pseudos.length:=by omega
  subst this
  refine al.L2_step ?_
  have hl7:ldL true 7 (bm p++[lv])=some (.agg (bm p++[lv])):=cQ (by simp)
  simp only [ca,Int.lt_irrefl,decide_false,aa,aj,Bool.false_eq_true,if_false,bq,gx,bo,List.drop_zero,hl7]
  have hone:(bm p++[lv]).all AV.one=true:=by simp [hl.gs.one]
  refine fN (y:=.agg (bm p++[lv])) h8.gs (by simp) rfl hone (by simp; omega) (by simp; omega) fun y8' H2 g8 f8=>?_
  simp only [cx,aa]
  rw [ci (by omega)]
  have own8:∀ i,own y8' i→H0.n≤i∧¬ own cs i∧¬ own y5 i∧¬ own lv i:=fun i hi=>by
   rcases f8.mine i hi with h | h
   ·exact ⟨(h8.o i h).1,(h8.o i h).2.1,(h8.o i h).2.2,fun h'=>hl8 i h' h⟩
   ·have h0:=hA.fr.up
    exact ⟨by omega,fun h'=>by have:=hA.add.gcs.lt h'; omega,fun h'=>by have:=hA.out.lt h'; omega,fun h'=>by have:=hl.gs.lt h'; omega⟩
  have keep:∀ i,i<H.n→¬ own y8 i→H2.get i=H.get i:=fun i hi ho=>f8.same i hi ho
  have hA2:AS t C0 ab mb H0 cs0 C2 cs H2 y5 ns:=hA.loc hab f8.grow (fun i hi=>keep i (by have:=hA.fr.up; omega) (fun h=>by have:=(h8.o i h).1; omega)) (fun i hi=>keep i (hA.add.gcs.lt hi) (fun h=>(h8.o i h).2.1 hi)) (fun i hi=>keep i (hA.out.lt hi) (fun h=>(h8.o i h).2.2 hi))
  have hl2:Gs 1 H2 lv (lsl.map lf):=hl.gs.keep (fun i hi=>keep i (hl.gs.lt hi) (hl8 i hi)) f8.grow
  have hcells:(AV.agg (bm p++[lv])).cells=bm p++[lv]:=rfl
  rw [hcells] at g8
  obtain ⟨H3,z1,z2,z3,z4⟩:=vH (j:=6) g8 hl2 (uo lsl) (by rw [List.getElem?_append_right (by simp)]; simp) (fun i hi=>(own8 i hi).2.2.2)
  have hrow:(bm p++[lv]).set 6 (.imm 1 (lsl.map lf))=dN ⟨p,lsl⟩:=by
   rw [BR,List.set_append_right _ _ (by simp)]
   simp
  rw [hrow] at z3
  have z3':Gs 7 H3 y8' ((cl++[Lk.mk p lsl]).map dN):=by simpa using z3
  have fin:al.L1 σ K (.ptr ab 0) y5 y8' (.ptr xb 0) y14 y15 y16 y21 y22 (I ((j+1:Nat):Int)) (.imm 4 (p.c.pseudos.map bA)) (I p.c.pseudos.length) (I (p.c.pseudos.length:Int)) H3:=by
   refine hK H3 cs C2 y8' (.ptr xb 0) lsl _ _ _ ?_ (hP C2 (List.prefix_refl _) (by simp)) ⟨z3',fun i hi=>⟨(own8 i hi).1,(own8 i hi).2.1,(own8 i hi).2.2.1⟩⟩ hlk hrep hlen (by simp at hcnt ⊢; omega)
   refine hA2.loc hab (by omega) (fun i hi=>z4 i (fun h=>by have:=(own8 i h).1; omega) (fun h=>by have:=(hl.o i h).1; omega)) (fun i hi=>z4 i (fun h=>(own8 i h).2.1 hi) (fun h=>(hl.o i h).2.1 hi)) (fun i hi=>z4 i (fun h=>(own8 i h).2.2.1 hi) (fun h=>(hl.o i h).2.2 hi))
  exact JY z1 fin
 | succ m ihm =>
  intro k H cs C2 y8 xb lv lsl hm hk hA hP h8 gx hx0 hxn hxc hx5 hx8 hl hlx hl8 hlk hrep hlen hcnt
  have hlt:k<p.c.pseudos.length:=by omega
  obtain ⟨q,hq⟩:=ce hlt
  have hqm:=List.mem_of_getElem? hq
  have hlt':(k:Int)<p.c.pseudos.length:=by omega
  rw [cI hq,List.map_cons,List.sum_cons] at hcnt
  have hdq:p.c.pseudos.drop k=q::p.c.pseudos.drop (k+1):=cI hq
  refine al.L2_step ?_
  obtain ⟨H6,hH6⟩:∃ H6,H6=(H.new (.cells [I 0,I 0,I 0,.lit (.slice none 0 0)] true)).set H.n (some (.cells (bA q) true)):=⟨_,rfl⟩
  have hst:stA 4 (H.new (.cells [I 0,I 0,I 0,.lit (.slice none 0 0)] true)) (.ptr H.n 0) (.agg (bA q))=some H6:=by
   rw [hH6]
   simp
   rw [wj q (by simp)]
  have k6:∀ i,i<H.n→H6.get i=H.get i:=fun i hi=>by
   have:i≠H.n:=by omega
   rw [hH6]; simp [this]
  have n6:H6.n=H.n+1:=by rw [hH6]; rfl
  have g6:H6.get H.n=some (.cells (bA q) true):=by rw [hH6]; simp
  clear hH6
  have gx6:H6.get xb=some (.cells (bm p++[lv]) true):=by rw [k6 xb hxn]; exact gx
  have hd6:ldL false 1 ((bm p++[lv]).drop 6)=some lv:=by rw [List.drop_append_of_le_length (by simp),List.drop_of_length_le (by simp)]; simp
  simp only [ca,hlt',decide_true,aa,aj,if_true,cd hq,fL,qf,bl,hst,bx,Nat.zero_add,bq,gx6,bo,hd6,g6,nB]
  have hA6:AS t C0 ab mb H0 cs0 C2 cs H6 y5 ns:=hA.loc hab (by omega) (fun i hi=>k6 i (by have:=hA.fr.up; omega)) (fun i hi=>k6 i (hA.add.gcs.lt hi)) (fun i hi=>k6 i (hA.out.lt hi))
  refine ih q.list (hp q hqm).2 t (C0++C2) ab mb cs H6 _ hA6.add (by omega) fun H' cs' D r ns' a1 a2 a3 a4 a5 a6 a7=>?_
  have hxab:xb≠ab:=by omega
  have k7:∀ i,H0.n≤i→i<H6.n→¬ own cs i→H'.get i=H6.get i:=fun i h1 h2 h3=>a7.get i h2 (by omega) h3
  have gx7:H'.get xb=some (.cells (bm p++[lv]) true):=by rw [k7 xb hx0 (by omega) hxc]; exact gx6
  have up7:=a7.up
  have cs7:∀ i,own cs' i→own cs i∨H6.n≤i:=a7.mine
  have hl7:rV H0 cs' y5 1 H' lv (lsl.map lf):=by
   refine ⟨hl.gs.keep (fun i hi=>?_) (by omega),fun i hi=>⟨(hl.o i hi).1,fun h=>?_,(hl.o i hi).2.2⟩⟩
   ·have:=hl.gs.lt hi
    rw [k7 i (hl.o i hi).1 (by omega) (hl.o i hi).2.1,k6 i this]
   ·rcases cs7 i h with h | h
    ·exact (hl.o i hi).2.1 h
    ·have:=hl.gs.lt hi; omega
  have h87:rV H0 cs' y5 7 H' y8 (cl.map dN):=by
   refine ⟨h8.gs.keep (fun i hi=>?_) (by omega),fun i hi=>⟨(h8.o i hi).1,fun h=>?_,(h8.o i hi).2.2⟩⟩
   ·have:=h8.gs.lt hi
    rw [k7 i (h8.o i hi).1 (by omega) (h8.o i hi).2.1,k6 i this]
   ·rcases cs7 i h with h | h
    ·exact (h8.o i hi).2.1 h
    ·have:=h8.gs.lt hi; omega
  have hA7:AS t C0 ab mb H0 cs0 (C2++D) cs' H' y5 ns:=by
   refine ⟨by rw [← List.append_assoc]; exact a1,hA6.fr.trans a7,fun c hc=>?_,hA6.out.keep (fun i hi=>?_) a7.up,fun i hi=>⟨(hA.o5 i hi).1,fun h=>?_⟩⟩
   ·rcases List.mem_append.1 hc with h | h
    ·exact hA.ok c h
    ·exact a4 c h
   ·exact k7 i (hA.o5 i hi).1 (hA6.out.lt hi) (hA.o5 i hi).2
   ·rcases cs7 i h with h | h
    ·exact (hA.o5 i hi).2 h
    ·have:=hA.out.lt hi; omega
  have hxc7:¬ own cs' xb:=fun h=>by
   rcases cs7 xb h with h | h
   ·exact hxc h
   ·omega
  have hl7':∀ i,own lv i→i<H'.n:=fun i hi=>hl7.gs.lt hi
  have one7:AV.one r=true:=a5.one
  have cel7:=a5.cells
  have hxn7:xb≠H'.n:=by omega
  simp only [pK,gx7]
  refine ⟨by rw [gx6],?_⟩
  have hlenN:lsl.length<NB:=by omega
  refine oc (y:=r) (rows:=lsl.map lf) (by simp [hxn7,gx7]) hl7.gs (by rw [cel7.1]; rfl) cel7.2 (by rw [cel7.1]; simpa using one7) (by simp; omega) (by simp; omega) fun lv' H2 g2 f2=>?_
  rw [cel7.1] at g2
  have ownl:∀ i,own lv' i→own lv i∨(H'.n≤i∧i<H2.n):=f2.mine
  have k8:∀ i,i<H'.n→¬ own lv i→H2.get i=H'.get i:=fun i h1 h2=>f2.same i h1 h2
  have gx8:H2.get xb=some (.cells (bm p++[lv]) true):=by rw [k8 xb (by omega) hlx]; exact gx7
  have hst2:=g2.st (id:=xb) (off:=6) gx8 (by simp)
  have hset:(bm p++[lv]).set 6 lv'=bm p++[lv']:=by
   rw [List.set_append_right _ _ (by simp)]
   simp
  rw [hset] at hst2
  simp only [hst2,aa,cx]
  rw [ci (by omega)]
  obtain ⟨H3,hH3⟩:∃ H3,H3=H2.set xb (some (.cells (bm p++[lv']) true)):=⟨_,rfl⟩
  rw [← hH3]
  have k9:∀ i,i≠xb→H3.get i=H2.get i:=fun i hi=>by rw [hH3]; simp [hi]
  have gx9:H3.get xb=some (.cells (bm p++[lv']) true):=by rw [hH3]; simp
  have n9:H3.n=H2.n:=by rw [hH3]; rfl
  clear hH3
  have grow2:=f2.grow
  have lvx:¬ own lv' xb:=fun h=>by
   rcases ownl xb h with h | h
   ·exact hlx h
   ·omega
  have rx:¬ own r xb:=fun h=>by have:=(a6 xb h).1; omega
  have rlv:∀ i,own lv' i→¬ own r i:=fun i hi h=>by
   rcases ownl i hi with h1 | h1
   ·have:=(a6 i h).1; have:=hl.gs.lt h1; omega
   ·have:=a5.lt h; omega
  have g9:Gs 1 H3 lv' (lsl.map lf++[[r]]):=g2.keep (fun i hi=>k9 i (fun e=>lvx (e ▸ hi))) (by omega)
  have gr9:Gs 1 H3 r (ns'.map qG):=a5.keep (fun i hi=>by
   rw [k9 i (fun e=>rx (e ▸ hi)),k8 i (a5.lt hi) (fun h=>by have:=(a6 i hi).1; have:=hl.gs.lt h; omega)]) (by omega)
  obtain ⟨H4,z1,z2,z3,z4⟩:=vH (j:=0) g9 gr9 (ba _ (fun _=>rfl) _) rfl rlv
  have hrow:([r]:List AV).set 0 (.imm 1 (ns'.map qG))=lf ns':=rfl
  rw [hrow] at z3
  have z3':Gs 1 H4 lv' ((lsl++[ns']).map lf):=by simpa using z3
  have same:∀ i,i<H'.n→i≠xb→¬ own lv i→¬ own r i→H4.get i=H'.get i:=fun i h1 h2 h3 h4=>by
   rw [z4 i (fun h=>by
    rcases ownl i h with h | h
    ·exact h3 h
    ·omega) h4,k9 i h2,k8 i h1 h3]
  have hA4:AS t C0 ab mb H0 cs0 (C2++D) cs' H4 y5 ns:=by
   refine hA7.loc hab (by omega) (fun i hi=>same i (by have:=hA7.fr.up; omega) (by omega) (fun h=>by have:=(hl.o i h).1; omega) (fun h=>by have:=(a6 i h).1; have:=hA.fr.up; omega)) (fun i hi=>same i (a1.gcs.lt hi) (fun e=>hxc7 (e ▸ hi)) (fun h=>(hl7.o i h).2.1 hi) (fun h=>(a6 i h).2 hi)) (fun i hi=>same i (hA7.out.lt hi) (fun e=>hx5 (e ▸ hi)) (fun h=>(hl.o i h).2.2 hi) (fun h=>by have:=(a6 i h).1; have:=hA.out.lt hi; omega))
  refine Jp z1 ?_
  refine ihm (k+1) H4 cs' (C2++D) y8 xb lv' (lsl++[ns']) (by omega) (by omega) hA4 (fun D2 hpre hD2=>?_) (h87.loc (by omega) fun i hi=>?_) ?_ hx0 (by omega) hxc7 hx5 hx8 ⟨z3',fun i hi=>?_⟩ lvx (fun i hi h=>?_) (by simp [hlk]) (fun j q' ns2 hq' hns2=>?_) (fun l hl=>?_) ?_
  ·refine hP D2 ((List.prefix_append C2 D).trans hpre) ?_
   rw [hD2,hdq,List.map_cons,List.sum_cons,List.length_append,a3]
   omega
  ·exact same i (by have:=h8.gs.lt hi; omega) (fun e=>hx8 (e ▸ hi)) (fun h=>hl8 i h hi) (fun h=>by have:=(a6 i h).1; have:=h8.gs.lt hi; omega)
  ·rw [z4 xb lvx rx]; exact gx9
  ·rcases ownl i hi with h | h
   ·exact hl7.o i h
   ·exact ⟨by omega,fun h'=>by have:=a1.gcs.lt h'; omega,fun h'=>by have:=hA7.out.lt h'; omega⟩
  ·rcases ownl i hi with h1 | h1
   ·exact hl8 i h1 h
   ·have:=h8.gs.lt h; omega
  ·rw [← List.append_assoc]
   by_cases hjk:j<lsl.length
   ·rw [List.getElem?_append_left hjk] at hns2
    exact (hrep j q' ns2 hq' hns2).mono
   ·rw [List.getElem?_append_right (by omega)] at hns2
    have h1:=(List.getElem?_eq_some_iff.1 hns2).1
    simp at h1
    have:j=k:=by omega
    subst this
    rw [hq] at hq'
    cases hq'
    simp [hlk] at hns2
    subst hns2
    exact a2
  ·rcases List.mem_append.1 hl with h | h
   ·exact hlen l h
   ·simp at h
    subst h
    have hsl:=(hp q hqm).2
    cases f with
    | zero=>exact hsl.elim
    | succ f =>
     have:=a2.1
     have:=hsl.1
     omega
  ·rw [← List.append_assoc,List.length_append,a3]
   omega
def wA (C:List (List Lk)) (f:Nat) (cl:List Lk):Prop:=∀ (k:Nat) (x:Lk),cl[k]?=some x→x.lists.length=x.part.c.pseudos.length∧∀ (j:Nat) (q:Ps) (ns:List Nat),x.part.c.pseudos[j]?=some q→x.lists[j]?=some ns→Rep C f q.list ns
def ux (f:Nat) (p:Pt):Nat:=(p.c.pseudos.map fun q=>eK f q.list).sum
def Kl (f:Nat) (s:Sl):Prop:=s.length≤NB∧∀ p ∈ s,sv p.c∧p.c.pseudos.length≤NB∧∀ q ∈ p.c.pseudos,(i64 q.a∧i64 q.b)∧jR f q.list
theorem Hh {f:Nat} (ih:uh σ f) {t:AV} {C0:List (List Lk)} {ab mb:Nat} {H0:Hp} {cs0:AV} (hab:ab<H0.n) {K:AV→Hp→Prop} {y5:AV} {ns:List Nat} (hns:ns.length<NB) {s:Sl} (hs:Kl f s) {y14 y15:AV} {m0:Nat} (hm0:m0<NB) {R:Nat} {Q:List (List Lk)→Prop}
  (hK:∀ (H:Hp) (cs:AV) (C2:List (List Lk)) (y5' y8 y11 y21 y22 y23 y31 y32 y33:AV) (cl:List Lk),AS t C0 ab mb H0 cs0 (C2++[cl]) cs H y5' (ns++[(C0++C2).length])→Q C2→cl.map (·.part)=s→wA (C0++C2) f cl→(C0++C2).length+1+R≤NB →
   al.L0 σ K (.ptr ab 0) y5' y8 y11 y14 y15 (I ((m0+1:Nat):Int)) y21 y22 y23 y31 y32 y33 H) :
  ∀ (n2 j:Nat) (H:Hp) (cs:AV) (C2:List (List Lk)) (y8 y11 y31 y32 y33:AV) (cl:List Lk),s.length - j=n2→j≤s.length→AS t C0 ab mb H0 cs0 C2 cs H y5 ns→(∀ D,C2 <+: D→D.length=C2.length+((s.drop j).map (ux f)).sum→Q D)→rV H0 cs y5 7 H y8 (cl.map dN)→cl.map (·.part)=s.take j→wA (C0++C2) f cl→(∀ x ∈ cl,EU x) →
   (C0++C2).length+(((s.drop j).map (ux f)).sum+(1+R))≤NB →
   al.L1 σ K (.ptr ab 0) y5 y8 y11 y14 y15 (I (m0:Int)) (.imm 6 (s.map bm)) (I s.length) (I (j:Int)) y31 y32 y33 H:=by
 have hNB:NB=1048576:=rfl
 intro n2
 induction n2 with
 | zero =>
  intro j H cs C2 y8 y11 y31 y32 y33 cl hn hj hA hQ h8 hparts hrep hlk hcnt
  have:j=s.length:=by omega
  subst this
  rw [List.take_length] at hparts
  have hcl:cl.length=s.length:=by rw [← hparts,List.length_map]
  refine al.L1_step ?_
  have hcs1:ldA false 1 H (.ptr ab 1)=some cs:=by simp [hA.add.gab]
  have hlenC:a8 cs=some (I ((C0++C2).length:Int)):=by rw [hA.add.gcs.len,List.length_map]
  simp only [ca,Int.lt_irrefl,decide_false,aa,aj,Bool.false_eq_true,if_false,fG,bx,Nat.zero_add,hcs1,hlenC]
  have habn:=hA.add.nab
  have up0:=hA.fr.up
  have cslt:∀ i,own cs i→i<H.n:=fun i hi=>hA.add.gcs.lt hi
  refine fN (y:=I ((C0++C2).length:Int)) hA.out rfl rfl rfl (by simp; omega) (by simp; omega) fun y5' H1 g1 f1=>?_
  have grow1:=f1.grow
  have k1:∀ i,i<H.n→¬ own y5 i→H1.get i=H.get i:=fun i h1 h2=>f1.same i h1 h2
  have h5ab:¬ own y5 ab:=fun h=>by have:=(hA.o5 ab h).1; omega
  have gab1:H1.get ab=some (.cells [t,cs,.mp mb] true):=by rw [k1 ab habn h5ab]; exact hA.add.gab
  have gcs1:Gs 1 H1 cs ((C0++C2).map fun c=>[il c]):=hA.add.gcs.keep (fun i hi=>k1 i (cslt i hi) (fun h=>(hA.o5 i h).2 hi)) f1.grow
  have g81:Gs 7 H1 y8 (cl.map dN):=h8.gs.keep (fun i hi=>k1 i (h8.gs.lt hi) (fun h=>(h8.o i hi).2.2 h)) f1.grow
  have hcs2:ldA false 1 H1 (.ptr ab 1)=some cs:=by simp [gab1]
  simp only [fG,aa,bx,Nat.zero_add,hcs2]
  have cel8:=h8.gs.cells
  have own5:∀ i,own y5' i→own y5 i∨(H.n≤i∧i<H1.n):=f1.mine
  refine fN (y:=y8) gcs1 (by rw [cel8.1]; rfl) cel8.2 (by rw [cel8.1]; simpa using h8.gs.one) (by simp at hcnt ⊢; omega) (by simp at hcnt ⊢; omega) fun cs' H2 g2 f2=>?_
  rw [cel8.1] at g2
  have grow2:=f2.grow
  have csab:¬ own cs ab:=hA.add.csab
  have k2:∀ i,i<H1.n→¬ own cs i→H2.get i=H1.get i:=fun i h1 h2=>f2.same i h1 h2
  have gab2:H2.get ab=some (.cells [t,cs,.mp mb] true):=by rw [k2 ab (by omega) csab]; exact gab1
  have ownc:∀ i,own cs' i→own cs i∨(H1.n≤i∧i<H2.n):=f2.mine
  have cs'ab:¬ own cs' ab:=fun h=>by
   rcases ownc ab h with h | h
   ·exact csab h
   ·omega
  have hst:=g2.st (id:=ab) (off:=1) gab2 (by simp)
  simp only [fG,aa,bx,Nat.zero_add,hst,cx]
  rw [ci (by omega)]
  obtain ⟨H3,hH3⟩:∃ H3,H3=H2.set ab (some (.cells ([t,cs,.mp mb].set 1 cs') true)):=⟨_,rfl⟩
  rw [← hH3]
  have k3:∀ i,i≠ab→H3.get i=H2.get i:=fun i hi=>by rw [hH3]; simp [hi]
  have gab3:H3.get ab=some (.cells [t,cs',.mp mb] true):=by rw [hH3]; simp
  have n3:H3.n=H2.n:=by rw [hH3]; rfl
  clear hH3
  have c8:∀ i,own cs' i→¬ own y8 i:=fun i hi h=>by
   rcases ownc i hi with h1 | h1
   ·exact (h8.o i h).2.1 h1
   ·have:=h8.gs.lt h; omega
  have g3:Gs 1 H3 cs' (((C0++C2).map fun c=>[il c])++[[y8]]):=g2.keep (fun i hi=>k3 i (fun e=>cs'ab (e ▸ hi))) (by omega)
  have g83:Gs 7 H3 y8 (cl.map dN):=g81.keep (fun i hi=>by
   have h1:=(h8.o i hi)
   have:=h8.gs.lt hi
   rw [k3 i (by omega),k2 i (by omega) h1.2.1]) (by omega)
  obtain ⟨H4,z1,z2,z3,z4⟩:=vH (j:=0) g3 g83 (ba _ C5 _) rfl c8
  have hrow:([y8]:List AV).set 0 (.imm 7 (cl.map dN))=[il cl]:=rfl
  rw [hrow] at z3
  have z3':Gs 1 H4 cs' ((C0++(C2++[cl])).map fun c=>[il c]):=by simpa using z3
  have y8ab:¬ own y8 ab:=fun h=>by have:=(h8.o ab h).1; omega
  have same:∀ i,i<H1.n→i≠ab→¬ own cs i→¬ own y8 i→H4.get i=H1.get i:=fun i h1 h2 h3 h4=>by
   rw [z4 i (fun h=>by
    rcases ownc i h with h | h
    ·exact h3 h
    ·omega) h4,k3 i h2,k2 i h1 h3]
  refine Ka z1 ?_
  have o5':∀ i,own y5' i→H0.n≤i∧¬ own cs i∧¬ own y8 i:=fun i hi=>by
   rcases own5 i hi with h | h
   ·exact ⟨(hA.o5 i h).1,(hA.o5 i h).2,fun h'=>(h8.o i h').2.2 h⟩
   ·exact ⟨by omega,fun h'=>by have:=cslt i h'; omega,fun h'=>by have:=h8.gs.lt h'; omega⟩
  have g5:Gs 1 H4 y5' ((ns++[(C0++C2).length]).map qG):=by
   have:(I ((C0++C2).length:Int)).cells=qG (C0++C2).length:=rfl
   rw [this] at g1
   have h1:Gs 1 H1 y5' ((ns++[(C0++C2).length]).map qG):=by simpa using g1
   refine h1.keep (fun i hi=>same i (h1.lt hi) (fun e=>?_) (o5' i hi).2.1 (o5' i hi).2.2) (by omega)
   subst e
   have:=(o5' i hi).1
   omega
  refine hK H4 cs' C2 y5' y8 _ _ _ _ _ _ _ cl ⟨⟨?_,by omega,z3',cs'ab⟩,⟨by omega,fun i h1 h2 h3=>?_,fun i hi=>?_⟩,fun c hc=>?_,g5,fun i hi=>⟨(o5' i hi).1,fun h=>?_⟩⟩ (hQ C2 (List.prefix_refl _) (by simp)) hparts hrep (by simp at hcnt ⊢; omega)
  ·rw [z4 ab cs'ab y8ab]; exact gab3
  ·have hi5:¬ own y5 i:=fun h=>by have:=(hA.o5 i h).1; omega
   have hi8:¬ own y8 i:=fun h=>by have:=(h8.o i h).1; omega
   have hic:¬ own cs i:=fun h=>by
    rcases hA.fr.mine i h with h | h
    ·exact h3 h
    ·omega
   rw [same i (by omega) h2 hic hi8,k1 i (by omega) hi5]
   exact hA.fr.get i h1 h2 h3
  ·rcases ownc i hi with h | h
   ·exact hA.fr.mine i h
   ·exact .inr (by omega)
  ·rcases List.mem_append.1 hc with h | h
   ·exact hA.ok c h
   ·simp at h
    subst h
    exact ⟨by rw [hcl]; exact hs.1,hlk⟩
  ·rcases ownc i h with h | h
   ·exact (o5' i hi).2.1 h
   ·rcases own5 i hi with h' | h'
    ·have:=hA.out.lt h'; omega
    ·omega
 | succ n2 ih2 =>
  intro j H cs C2 y8 y11 y31 y32 y33 cl hn hj hA hQ h8 hparts hrep hlk hcnt
  have hlt:j<s.length:=by omega
  obtain ⟨p,hp⟩:=ce hlt
  have hpm:=List.mem_of_getElem? hp
  obtain ⟨hc1,hc2,hc3⟩:=hs.2 p hpm
  have hlt':(j:Int)<s.length:=by omega
  have hdp:s.drop j=p::s.drop (j+1):=cI hp
  rw [hdp,List.map_cons,List.sum_cons] at hcnt
  have hcl:cl.length=j:=by
   have:=congrArg List.length hparts
   simp at this
   omega
  refine al.L1_step ?_
  have hst1:stA 6 (H.new (.cells [I 0,Sx ⟨#[]⟩,.lit (.slice none 0 0),.lit (.slice none 0 0),.lit (.slice none 0 0),.lit (.slice none 0 0)] true)) (.ptr H.n 0) (.agg (bm p))=some ((H.new (.cells [I 0,Sx ⟨#[]⟩,.lit (.slice none 0 0),.lit (.slice none 0 0),.lit (.slice none 0 0),.lit (.slice none 0 0)] true)).set H.n (some (.cells (bm p) true))):=by
   simp
   rw [FX p (by simp)]
  obtain ⟨H1,hH1⟩:∃ H1,H1=(H.new (.cells [I 0,Sx ⟨#[]⟩,.lit (.slice none 0 0),.lit (.slice none 0 0),.lit (.slice none 0 0),.lit (.slice none 0 0)] true)).set H.n (some (.cells (bm p) true)):=⟨_,rfl⟩
  rw [← hH1] at hst1
  have k1:∀ i,i<H.n→H1.get i=H.get i:=fun i hi=>by
   have:i≠H.n:=by omega
   rw [hH1]; simp [this]
  have g1:H1.get H.n=some (.cells (bm p) true):=by rw [hH1]; simp
  have n1:H1.n=H.n+1:=by rw [hH1]; rfl
  clear hH1
  have hb:aT [I 0,Sx ⟨#[]⟩,.lit (.slice none 0 0),.lit (.slice none 0 0),.lit (.slice none 0 0),.lit (.slice none 0 0),.lit (.slice none 0 0)] [(0,6,.agg (bm p))]=some (bm p++[.lit (.slice none 0 0)]):=by
   simp only [aT,om,gg,iI,decide_true,nQ,Bool.not_false,Bool.and_true,pD]
   simp [bN]
  have hst2:stA 7 (H1.new (.cells [I 0,Sx ⟨#[]⟩,.lit (.slice none 0 0),.lit (.slice none 0 0),.lit (.slice none 0 0),.lit (.slice none 0 0),.lit (.slice none 0 0)] true)) (.ptr H1.n 0) (.agg (bm p++[.lit (.slice none 0 0)]))=some ((H1.new (.cells [I 0,Sx ⟨#[]⟩,.lit (.slice none 0 0),.lit (.slice none 0 0),.lit (.slice none 0 0),.lit (.slice none 0 0),.lit (.slice none 0 0)] true)).set H1.n (some (.cells (bm p++[.lit (.slice none 0 0)]) true))):=by
   simp
   rw [aQ (by simp)]
  obtain ⟨H2,hH2⟩:∃ H2,H2=(H1.new (.cells [I 0,Sx ⟨#[]⟩,.lit (.slice none 0 0),.lit (.slice none 0 0),.lit (.slice none 0 0),.lit (.slice none 0 0),.lit (.slice none 0 0)] true)).set H1.n (some (.cells (bm p++[.lit (.slice none 0 0)]) true)):=⟨_,rfl⟩
  rw [← hH2] at hst2
  have k2:∀ i,i<H1.n→H2.get i=H1.get i:=fun i hi=>by
   have:i≠H1.n:=by omega
   rw [hH2]; simp [this]
  have g2:H2.get H1.n=some (.cells (bm p++[.lit (.slice none 0 0)]) true):=by rw [hH2]; simp
  have n2':H2.n=H1.n+1:=by rw [hH2]; rfl
  clear hH2
  have g1':H2.get H.n=some (.cells (bm p) true):=by rw [k2 H.n (by omega)]; exact g1
  have hps:ldL false 1 ((bm p).drop 5)=some (.imm 4 (p.c.pseudos.map bA)):=by rw [dE,cD]; rfl
  simp only [ca,hlt',decide_true,aa,aj,if_true,cd hp,fL,yK,bl,hst1,bq,g1,bo,List.drop_zero,hb,hst2,bx,Nat.zero_add,g1',hps,eh,List.length_map]
  have up0:=hA.fr.up
  have kk:∀ i,i<H.n→H2.get i=H.get i:=fun i hi=>by rw [k2 i (by omega),k1 i hi]
  have hA2:AS t C0 ab mb H0 cs0 C2 cs H2 y5 ns:=hA.loc hab (by omega) (fun i hi=>kk i (by omega)) (fun i hi=>kk i (hA.add.gcs.lt hi)) (fun i hi=>kk i (hA.out.lt hi))
  refine GA ih hab hc2 hc3 (j:=j) (R:=((s.drop (j+1)).map (ux f)).sum+(1+R)) (P:=fun D=>C2 <+: D∧D.length=C2.length+ux f p) (by have:=hs.1; omega) (Nat.le_of_eq hcl) (fun H' cs' C3 y8' y11' lsl y31' y32' y33' b1 b2 b3 b4 b5 b6 b7=>?_) p.c.pseudos.length 0 H2 cs C2 y8 H1.n (.lit (.slice none 0 0)) [] (by omega) (Nat.zero_le _) hA2 (fun D h1 h2=>⟨h1,by rw [h2]; rfl⟩) (h8.loc (by omega) fun i hi=>kk i (h8.gs.lt hi)) g2 (by omega) (by omega) (fun h=>by have:=hA.add.gcs.lt h; omega) (fun h=>by have:=hA.out.lt h; omega) (fun h=>by have:=h8.gs.lt h; omega) ⟨.nil,fun i h=>h.elim⟩ (fun h=>h) (fun i h=>h.elim) rfl (fun j q ns' _ h=>by simp at h) (fun l h=>by cases h) (by have hcp:ux f p=(p.c.pseudos.map (fun q=>eK f q.list)).sum:=rfl; rw [hcp] at hcnt; simp only [List.drop_zero]; omega)
  obtain ⟨D,hD⟩:=b2.1
  refine ih2 (j+1) H' cs' C3 y8' y11' y31' y32' y33' (cl++[Lk.mk p lsl]) (by omega) (by omega) b1 (fun D2 h1 h2=>hQ D2 (b2.1.trans h1) ?_) b3 ?_ (fun k x hx=>?_) (fun x hx=>?_) b7
  ·rw [h2,b2.2,hdp,List.map_cons,List.sum_cons]
   omega
  ·rw [List.map_append,hparts,List.take_succ_eq_append_getElem hlt]
   rw [List.getElem?_eq_getElem hlt] at hp
   rw [Option.some.inj hp]
   rfl
  ·by_cases hk:k<cl.length
   ·rw [List.getElem?_append_left hk] at hx
    refine ⟨(hrep k x hx).1,fun j q ns' h1 h2=>?_⟩
    have:=((hrep k x hx).2 j q ns' h1 h2).mono (D:=D)
    rwa [List.append_assoc,hD] at this
   ·rw [List.getElem?_append_right (by omega)] at hx
    have h1:=(List.getElem?_eq_some_iff.1 hx).1
    simp at h1
    have:k - cl.length=0:=by omega
    rw [this] at hx
    simp at hx
    subst hx
    exact ⟨b4,b5⟩
  ·rcases List.mem_append.1 hx with h | h
   ·exact hlk x h
   ·simp at h
    subst h
    refine ⟨hc1,fun q hq=>(hc3 q hq).1,fun l hl=>?_⟩
    have:=b6 l hl
    rw [eC]
    omega
theorem Cm {f:Nat} (ih:uh σ f):uh σ (f+1):=by
 have hNB:NB=1048576:=rfl
 intro l hl t C ab mb cs H K hA hcnt hK
 have L0:∀ (n m:Nat) (H1:Hp) (cs1:AV) (C2:List (List Lk)) (y5 y8 y11 y21 y22 y23 y31 y32 y33:AV) (ns:List Nat),l.length - m=n→m≤l.length→AS t C ab mb H cs C2 cs1 H1 y5 ns→Rep (C++C2) (f+1) (l.take m) ns→C2.length=eK (f+1) (l.take m)→(C++C2).length+eK (f+1) (l.drop m)≤NB →
   al.L0 σ K (.ptr ab 0) y5 y8 y11 (sls l) (I l.length) (I (m:Int)) y21 y22 y23 y31 y32 y33 H1:=by
  intro n
  induction n with
  | zero =>
   intro m H1 cs1 C2 y5 y8 y11 y21 y22 y23 y31 y32 y33 ns hn hm h1 hr hc hb
   have:m=l.length:=by omega
   subst this
   rw [List.take_length] at hr hc
   refine al.L0_step ?_
   simp only [ca,Int.lt_irrefl,decide_false,aa,aj,Bool.false_eq_true,if_false]
   exact hK H1 cs1 C2 y5 ns h1.add hr hc h1.ok h1.out h1.o5 h1.fr
  | succ n ihn =>
   intro m H1 cs1 C2 y5 y8 y11 y21 y22 y23 y31 y32 y33 ns hn hm h1 hr hc hb
   have hlt:m<l.length:=by omega
   obtain ⟨s,hs⟩:=ce hlt
   have hsm:=List.mem_of_getElem? hs
   have hsk:Kl f s:=hl.2 s hsm
   have hlt':(m:Int)<l.length:=by omega
   have hds:l.drop m=s::l.drop (m+1):=cI hs
   have hlb:=hl.1
   have hnl:ns.length=m:=by rw [hr.1,List.length_take]; omega
   have hcons:eK (f+1) (s::l.drop (m+1))=1+(s.map (ux f)).sum+eK (f+1) (l.drop (m+1)):=by
    simp [eK]
    rfl
   rw [hds,hcons] at hb
   have htk:eK (f+1) (l.take (m+1))=eK (f+1) (l.take m)+(1+(s.map (ux f)).sum):=by
    have:l.take (m+1)=l.take m++[s]:=by rw [List.take_add_one,hs]; rfl
    rw [this]
    simp [eK]
    rfl
   refine al.L0_step ?_
   have hix:aR 1 (sls l) (I (m:Int))=some (.ip (aX s)):=cd hs
   have hst:stA 1 (H1.new (.cells [.lit (.slice none 0 0)] true)) (.ptr H1.n 0) (.agg (aX s))=some ((H1.new (.cells [.lit (.slice none 0 0)] true)).set H1.n (some (.cells (aX s) true))):=by
    simp [aX]
   simp only [ca,hlt',decide_true,aa,aj,if_true,hix,fL,rL,bl,hst,bx,Nat.zero_add,bq,aw,bo,List.drop_zero,kP,eh,List.length_map]
   have up0:=h1.fr.up
   have hab:=hA.nab
   have kk:∀ i,i<H1.n→((H1.new (.cells [.lit (.slice none 0 0)] true)).set H1.n (some (.cells (aX s) true))).get i=H1.get i:=fun i hi=>by
    have:i≠H1.n:=by omega
    simp [this]
   have h1':=h1.loc (H':=(H1.new (.cells [.lit (.slice none 0 0)] true)).set H1.n (some (.cells (aX s) true))) hab (by simp) (fun i hi=>kk i (by omega)) (fun i hi=>kk i (h1.add.gcs.lt hi)) (fun i hi=>kk i (h1.out.lt hi))
   refine Hh ih hab (by omega) hsk (m0:=m) (by omega) (R:=eK (f+1) (l.drop (m+1))) (Q:=fun D=>C2 <+: D∧D.length=C2.length+(s.map (ux f)).sum) (fun H' cs' C3 y5' y8' y11' y21' y22' y23' y31' y32' y33' cl b1 b2 b3 b4 b5=>?_) s.length 0 _ cs1 C2 (.lit (.slice none 0 0)) _ _ _ _ [] (by omega) (Nat.zero_le _) h1' (fun D g1 g2=>⟨g1,by simpa using g2⟩) ⟨.nil,fun i h=>h.elim⟩ rfl (fun k x h=>by simp at h) (fun x h=>by cases h) (by simp at hb ⊢; omega)
   obtain ⟨D,hD⟩:=b2.1
   refine ihn (m+1) H' cs' (C3++[cl]) y5' y8' y11' y21' y22' y23' y31' y32' y33' _ (by omega) (by omega) b1 ⟨by simp [hnl]; omega,fun i s' n' hs' hn'=>?_⟩ ?_ (by simp at b5 ⊢; omega)
   ·by_cases hi:i<m
    ·rw [List.getElem?_take,if_pos (by omega)] at hs'
     rw [List.getElem?_append_left (by omega)] at hn'
     have hr2:Rep (C++(C3++[cl])) (f+1) (l.take m) ns:=by
      have:=hr.mono (D:=D++[cl])
      rwa [show C++C2++(D++[cl])=C++(C3++[cl]) by rw [← hD]; simp] at this
     exact hr2.2 i s' n' (by rw [List.getElem?_take,if_pos hi]; exact hs') hn'
    ·rw [List.getElem?_append_right (by omega)] at hn'
     have h2:=(List.getElem?_eq_some_iff.1 hn').1
     simp at h2
     have him:i=m:=by omega
     subst him
     rw [List.getElem?_take,if_pos (by omega),hs] at hs'
     cases hs'
     simp [hnl] at hn'
     subst hn'
     refine ⟨cl,by simp,b3,fun k x hx=>⟨(b4 k x hx).1,fun j q ns' g1 g2=>?_⟩⟩
     have:=((b4 k x hx).2 j q ns' g1 g2).mono (D:=[cl])
     rwa [List.append_assoc] at this
   ·rw [htk,List.length_append,b2.2,hc]
    simp
    omega
 refine al.run ?_
 simp
 refine L0 l.length 0 H cs [] _ _ _ _ _ _ _ _ _ [] (by omega) (Nat.zero_le _) ⟨by simpa using hA,.refl _ _ _,fun c h=>(by cases h),.nil,fun i h=>h.elim⟩ ⟨rfl,fun i s n h=>by simp at h⟩ (by simp [eK]) (by simpa using hcnt)
theorem AE:∀ (f:Nat),uh σ f
 | 0=>fun l h=>h.elim
 | f+1=>Cm (AE f)
end
end Go.Proofs.YthmaggcfghjmfaaGreat.Ev
namespace Go.Proofs.YthmaggcfghjmfaaGreat.Ev
set_option linter.unusedVariables false
set_option linter.unusedSimpArgs false
variable {σ:Sig}
theorem DY {sz:Nat} {H:Hp} {x:AV} {rows:List (List AV)} (hg:Gs sz H x rows) (hn:dV rows=true) :
  ∃ Hd H2:Hp,Hd.n=H.n∧H2.n=H.n∧(∀ id k,Hd.get id=some k→H.get id=some k∧H2.get id=none)∧(∀ id k2,H2.get id=some k2→∃ k1,H.get id=some k1∧FzB Hd k1 k2)∧Fz Hd x (.imm sz rows)∧∀ j,¬ own x j→H2.get j=H.get j:=by
 cases hg with
 | nil =>
  let Hd:Hp:=⟨H.n,Hp.empty.t⟩
  have hd0:∀ id,Hd.get id=none:=fun id=>by simp [Hd,Hp.empty,Hp.get,Tr.get]
  exact ⟨Hd,H,rfl,rfl,fun id k h=>(by rw [hd0] at h; cases h),fun id k2 h=>⟨k2,h,.refl _ _⟩,.nil,fun j _=>rfl⟩
 | sl hlt hg hsz =>
  rename_i id exx
  let Hd:Hp:=(⟨H.n,Hp.empty.t⟩:Hp).set id (some (.cells rows.flatten exx))
  have hd0:∀ j,Hd.get j=if j=id then some (.cells rows.flatten exx) else none:=fun j=>by
   show ((⟨H.n,Hp.empty.t⟩:Hp).set id _).get j=_
   rw [aw]
   split
   ·rfl
   ·simp [Hp.empty,Hp.get,Tr.get]
  have hf:Fz Hd (.sl id 0 sz rows.length none) (.imm sz rows):=.rows (cs:=rows.flatten) (ex:=exx) (by rw [hd0,if_pos rfl]) hsz (by rw [List.drop_zero]; exact List.take_of_length_le (by rw [dt hsz]; exact Nat.le_refl _)) hn
  refine ⟨Hd,H.set id none,rfl,rfl,fun j k h=>?_,fun j k2 h=>?_,hf,fun j ho=>?_⟩
  ·rw [hd0] at h
   split at h
   ·rename_i e; subst e; cases h
    exact ⟨hg,by simp⟩
   ·cases h
  ·rw [aw] at h
   split at h
   ·cases h
   ·exact ⟨k2,h,.refl _ _⟩
  ·have:j≠id:=fun e=>ho (by rw [e]; rfl)
   simp [this]
theorem HB {f:Nat} {l:List Sl} (hl:jR f l) {t:AV} {C:List (List Lk)} {ab mb:Nat} {cs:AV} {H:Hp} {K:AV→Hp→Prop} (hA:sN t C ab mb cs H) (hc:C.length+eK f l≤NB)
  (hK:∀ (H':Hp) (cs':AV) (C2:List (List Lk)) (ns:List Nat),sN t (C++C2) ab mb cs' H'→Rep (C++C2) f l ns→C2.length=eK f l→(∀ c ∈ C2,EY c)→AFr H cs ab H' cs'→K (lF ns) H'):ai Tryz.prog σ dy [.ptr ab 0,sls l] H K:=by
 obtain ⟨r,H1,hg,cs',C2,ns,h1,h2,h3,h4,h5,h6,h7⟩:=AE (σ:=σ) f l hl t C ab mb cs H (fun r H'=>∃ cs' C2 ns,sN t (C++C2) ab mb cs' H'∧Rep (C++C2) f l ns∧C2.length=eK f l∧(∀ c ∈ C2,EY c)∧Gs 1 H' r (ns.map qG)∧(∀ j,own r j→H.n≤j∧¬ own cs' j)∧AFr H cs ab H' cs') hA hc fun H' cs' C2 r ns a b c d e f g=>⟨cs',C2,ns,a,b,c,d,e,f,g⟩
 obtain ⟨Hd,H2,a1,a2,a3,a4,a5,a6⟩:=DY h5 (ba _ (fun _=>rfl) ns)
 have hab:=hA.nab
 refine au (hg.frzH a2 a1 a3 a4 (.inr a5)) (hK H2 cs' C2 ns (h1.loc (by omega) (a6 _ fun h=>?_) fun j hj=>a6 _ fun h=>(h6 j h).2 hj) h2 h3 h4 (h7.loc (by omega) fun j hj=>a6 _ fun h=>?_))
 ·have:=(h6 _ h).1; omega
 ·have:=(h6 _ h).1; omega
theorem Cg {C D:List (List Lk)} {n:Nat} (h:n<C.length):mq (C++D) n=mq C n:=by
 unfold mq
 rw [List.getD_eq_getElem?_getD,List.getD_eq_getElem?_getD,List.getElem?_append_left h]
theorem Fi {L:List Nd} {C D:List (List Lk)} {n:Nat} (h:n<C.length) (i e:Nat) (a:Bool):Tru L (C++D) n i e a=Tru L C n i e a:=by
 unfold Tru
 rw [Cg h]
theorem lh.app {L:List Nd} {C D:List (List Lk)} {es:List (AV × AV)} (h:lh C.length (Tru L C) es):lh (C++D).length (Tru L (C++D)) es:=fun p hp=>by
 obtain ⟨n,i,e,a,h1,h2,h3⟩:=h p hp
 exact ⟨n,i,e,a,by rw [List.length_append]; omega,by rw [Fi h1]; exact h2,h3⟩
theorem rg (f:Nat) (s:Sl) (l:List Sl):eK f (s::l)=eK f [s]+eK f l:=by
 cases f with
 | zero=>rfl
 | succ f=>simp [eK]
theorem kj.one {f:Nat} {l:List Sl} (h:kj f l) {s:Sl} (hs:s ∈ l):kj f [s]:=by
 cases f with
 | zero=>exact h
 | succ f=>exact fun s' hs'=>by rw [List.mem_singleton.1 hs']; exact h s hs
theorem jR.one {f:Nat} {l:List Sl} (h:jR f l) {s:Sl} (hs:s ∈ l):jR f [s]:=by
 cases f with
 | zero=>exact h
 | succ f=>exact ⟨(by show 1≤NB; decide),fun s' hs'=>by rw [List.mem_singleton.1 hs']; exact h.2 s hs⟩
theorem Ho {l:List Sl} {m:Nat} {s:Sl} (h:l[m]?=some s):tJ 1 (sls l) (some (I (m:Int))) (some (I ((m+1:Nat):Int))) none=some (sls [s]):=by
 have hlt:=(List.getElem?_eq_some_iff.1 h).1
 have e1:((m:Int)+1)≤l.length:=by omega
 have e2:(0:Int)≤(m:Int)+1:=by omega
 have e3:((m:Int)+1).toNat=m+1:=by omega
 have e4:(List.drop m (l.map aX)).take 1=[aX s]:=by
  rw [← List.map_drop,cI h]; rfl
 simp [tJ,nP,jJ,wM,sls,cR,eZ,iI,e1,e2,e3,e4,show ((m:Int)≤(m:Int)+1) from by omega]
def jK (L:List Nd) (f:Nat) (l:List Sl) (e:Nat):Bool:=l.any fun s=>dj f [s] 8&&AA L [s] e
structure McT (σ:Sig) (L:List Nd) (d:List Nat):Prop where
 hC:nr σ
 hB:dh L L.length d
 hN:L.length≤4096
 sm:∀ e,e<L.length→SmN (cm (cW L e))
structure kK (f:Nat) (l:List Sl):Prop where
 wf:gd cF l
 ok:jR f l
 nest:kj f l
 hf:f≤12
 cnt:eK f l≤NB
section
attribute [local irreducible] db.L0
theorem pT {L:List Nd} {d:List Nat} (M:McT σ L d) {f:Nat} {l:List Sl} (S:kK f l) (e:Int) (H:Hp) :
  aE Tryz.prog σ cX [dL L d,I e,sls l] H (Bo (decide (0≤e)&&decide (e<L.length)&&jK L f l e.toNat)) H:=by
 have hNB:NB=1048576:=rfl
 refine bO (fun K hK=>db.run (au (Jr L d e _) ?_)) (by simp [aU,bS,cb,nl]) rfl H
 simp only [eS,aa,aj]
 cases hin:(decide (0≤e)&&decide (e<L.length)) with
 | false=>rw [hin] at hK; simpa using hK _
 | true =>
 rw [hin] at hK
 simp only [Bool.true_and] at hK
 simp only [Bool.and_eq_true,decide_eq_true_eq] at hin
 obtain ⟨en,rfl⟩:∃ en:Nat,e=(en:Int):=⟨e.toNat,by omega⟩
 have he:en<L.length:=by omega
 rw [Int.toNat_natCast] at hK
 simp only [Bool.not_true,Bool.false_eq_true,if_false]
 have hlen:a8 (sls l)=some (I (l.length:Int)):=by unfold sls; simp
 have hlw:l.length≤NB:=by
  have:=S.ok
  revert this
  cases f with
  | zero=>exact fun h=>h.elim
  | succ f=>exact fun h=>h.1
 have L0:∀ (k m:Nat) (H1:Hp) (C:List (List Lk)) (ab mb:Nat) (cs:AV),l.length - m=k→m≤l.length→gG (dL L d) C (Tru L C) ab mb cs H1→¬ own cs ab→Mc σ L d C→C.length+eK f (l.drop m)≤NB→(∀ H,K (Bo (jK L f (l.drop m) en)) H) →
   db.L0 σ K (I (en:Int)) (sls l) (.ptr ab 0) (I l.length) (I (m:Int)) H1:=by
  intro k
  induction k with
  | zero =>
   intro m H1 C ab mb cs hk hm hA hcs hM hc hK
   have:m=l.length:=by omega
   subst this
   refine db.L0_step ?_
   simp
   simpa [jK] using hK H1
  | succ k ih =>
   intro m H1 C ab mb cs hk hm hA hcs hM hc hK
   have hlt:m<l.length:=by omega
   obtain ⟨s,hs⟩:=ce hlt
   have hsm:=List.mem_of_getElem? hs
   have hlt':(m:Int)<l.length:=by omega
   rw [cI hs] at hK hc
   rw [rg] at hc
   have hwf:gd cF [s]:=⟨(by show 1≤cF; decide),fun s' h=>by rw [List.mem_singleton.1 h]; exact S.wf.2 s hsm⟩
   have hn1:=S.nest.one hsm
   have hcons:jK L f (s::l.drop (m+1)) en=((dj f [s] 8&&AA L [s] en)||jK L f (l.drop (m+1)) en):=by simp [jK]
   rw [hcons] at hK
   refine db.L0_step ?_
   simp only [ca,hlt',decide_true,aa,aj,if_true,cx,ci (show m<9000000000000000000 by omega),Ho hs]
   refine au (CN f [s] 8 _ hwf hn1 (by omega)) ?_
   simp only [aj]
   cases hmay:dj f [s] 8 with
   | false =>
    rw [hmay] at hK
    simp only [Bool.false_and,Bool.false_or] at hK
    simp only [Bool.false_eq_true,if_false]
    exact ih (m+1) H1 C ab mb cs (by omega) (by omega) hA hcs hM (by omega) hK
   | true =>
    rw [hmay] at hK
    simp only [Bool.true_and] at hK
    simp only [if_true]
    have nmb:=hA.nmb
    have nab:=hA.nab
    refine HB (S.ok.one hsm) ⟨hA.gab,hA.nab,hA.gcs,hcs⟩ (by omega) fun H' cs' C2 ns b1 b2 b3 b4 b5=>?_
    have up:=b5.up
    have hA':gG (dL L d) (C++C2) (Tru L (C++C2)) ab mb cs' H':=by
     obtain ⟨es,g1,g2⟩:=hA.memo
     refine ⟨b1.gab,b1.nab,by omega,hA.ne,b1.gcs,fun h=>?_,es,by rw [b5.get mb nmb hA.ne.symm hA.csm]; exact g1,g2.app⟩
     rcases b5.mine mb h with h | h
     ·exact hA.csm h
     ·omega
    have hM':Mc σ L d (C++C2):=by
     have hre:NB≤reachBytes:=by rw [eC]; decide
     refine ⟨M.hC,M.hB,M.hN,M.sm,?_,fun c hc'=>?_,fun c hc'=>?_⟩
     ·rw [List.length_append,b3]; omega
     ·rcases List.mem_append.1 hc' with h | h
      ·exact hM.ll c h
      ·exact Nat.le_trans (b4 c h).len hre
     ·rcases List.mem_append.1 hc' with h | h
      ·exact hM.lk c h
      ·exact (b4 c h).lk
    have hns:ns.length≤reachBytes:=by
     have:ns.length=1:=by
      have:=b2
      revert this
      cases f with
      | zero=>exact fun h=>h.elim
      | succ f=>exact fun h=>h.1
     rw [this]; decide
    refine Aw hM' f S.hf [s] ns b2 hn1 S.hf hns en he ab mb cs' H' _ hA' fun H2 h2 kp2=>?_
    simp only [aj]
    cases haa:AA L [s] en with
    | true =>
     rw [haa] at hK
     simpa using hK H2
    | false =>
     rw [haa] at hK
     simp only [Bool.false_or] at hK
     simp only [Bool.false_eq_true,if_false]
     exact ih (m+1) H2 (C++C2) ab mb cs' (by omega) (by omega) h2 b1.csab hM' (by rw [List.length_append,b3]; omega) hK
 refine lg.run ?_
 have hb:aT [.lit (.pointer none),.lit (.slice none 0 0),.lit (.map none)] [(0,1,dL L d),(2,1,.mp Hp.empty.n)]=some [dL L d,.lit (.slice none 0 0),.mp Hp.empty.n]:=rfl
 simp only [hb,aa,fI,hlen]
 refine L0 l.length 0 _ [] _ Hp.empty.n (.lit (.slice none 0 0)) (by omega) (Nat.zero_le _) ⟨?_,?_,?_,?_,.nil,fun h=>h.elim,[],?_,fun p hp=>by cases hp⟩ (fun h=>h.elim) ⟨M.hC,M.hB,M.hN,M.sm,Nat.zero_le _,fun c hc=>(by cases hc),fun c hc=>(by cases hc)⟩ (by simpa using S.cnt) (by simpa using hK)
 ·simp
 ·simp
 ·simp only [Hp.n_new]; omega
 ·simp
 ·simp
end
end Go.Proofs.YthmaggcfghjmfaaGreat.Ev
namespace Go.Proofs.YthmaggcfghjmfaaGreat.Ev
set_option linter.unusedVariables false
set_option linter.unusedSimpArgs false
variable {σ:Sig}
theorem HI {H:Hp} {id:Nat} {s:Sl} {ex:Bool} {cap:Option Nat} (hg:H.get id=some (.cells (aX s) ex)):Fz H (.sl id 0 1 1 cap) (sls [s]):=by
 have h1:(aX s).length=1:=rfl
 have:Fz H (.sl id 0 1 [aX s].length cap) (.imm 1 [aX s]):=.rows hg (by simp [h1]) (by simp; exact List.take_of_length_le (by rw [h1]; exact Nat.le_refl _)) (by simp [dV,lO])
 exact this
theorem JP {H:Hp} {id id2:Nat} {p:Pt} {ex ex2:Bool} {cap cap2:Option Nat} (hg:H.get id2=some (.cells [.sl id 0 6 1 cap] ex2)) (hg2:H.get id=some (.cells (bm p) ex)):Fz H (.sl id2 0 1 1 cap2) (sls [[p]]):=by
 have h6:(bm p).length=6:=gg p
 have hi:Fz H (.sl id 0 6 [bm p].length cap) (.imm 6 [bm p]):=.rows hg2 (by simp [h6]) (by simp; exact List.take_of_length_le (by rw [h6]; exact Nat.le_refl _)) (by simp [dV,o8])
 refine Fz.sl (rows:=[aX [p]]) (fun _ _=>.sl id 0 6 1 cap) hg rfl (fun i row h=>?_) (fun i row j y h1 h2=>?_) (fun i row j y h1 h2=>?_)
 ·rcases i with _ | i
  ·simp at h; subst h; rfl
  ·simp at h
 ·rcases i with _ | i
  ·simp at h1; subst h1
   rcases j with _ | j
   ·simp
   ·simp [aX] at h2
  ·simp at h1
 ·rcases i with _ | i
  ·simp at h1; subst h1
   rcases j with _ | j
   ·simp [aX] at h2; subst h2; exact hi
   ·simp [aX] at h2
  ·simp at h1
def xE (L:List Nd) (f:Nat) (s:Sl) (e:Int):Bool:=decide (0≤e)&&decide (e<L.length)&&jK L f [s] e.toNat
theorem vG {L:List Nd} {d:List Nat} (M:McT σ L d) {f:Nat} {s:Sl} (S:kK f [s]) (e:Int) (H:Hp):aE Tryz.prog σ dP [dL L d,I e,.agg (aX s)] H (Bo (xE L f s e)) H:=by
 refine bO (fun K hK=>ja.run ?_) (by simp [aU,bS,cb,lO]) rfl H
 have hb:∀ H:Hp,ar [.slice none 0 0] 1 1 H [(0,1,.agg (aX s))]=some (.sl H.n 0 1 1 (some 1),H.new (.cells (aX s) true)):=fun H=>by
  unfold ar aX; rfl
 have hl:∀ H:Hp,ldA true 1 (H.new (.cells (aX s) true)) (.ptr H.n 0)=some (.agg (aX s)):=fun H=>by
  simp only [bq,ay,if_true,bo,List.drop_zero,rL]
 simp only [fI,hl,hb,aa]
 refine au ((pT M S e Hp.empty).frzA (.cons (.refl (cb L d)) (.cons (.refl rfl) (.cons (HI (ex:=true) (by simp)) .nil))) rfl) ?_
 exact hK _
theorem IC (c:Cp) (H:Hp):∃ H2:Hp,∀ K:AV→Hp→Prop,(∀ x,Fz H2 x (sls [[⟨0,c⟩]])→K x H2)→(eH (.agg (bG c)) H fun x1 H2=>bnd (ldA true 5 H2 x1) fun x3=>bnd (aT [I 0,Sx ⟨#[]⟩,.lit (.slice none 0 0),.lit (.slice none 0 0),.lit (.slice none 0 0),.lit (.slice none 0 0)] [(1,5,x3)]) fun l4=>bnd (ar [.int .i64 0,.string ⟨#[]⟩,.slice none 0 0,.slice none 0 0,.slice none 0 0,.slice none 0 0] 6 1 H2 [(0,6,.agg l4)]) fun p5=>bnd (aT [.lit (.slice none 0 0)] [(0,1,p5.1)]) fun l6=>bnd (ar [.slice none 0 0] 1 1 p5.2 [(0,1,.agg l6)]) fun p7=>K p7.1 p7.2):=by
 refine ⟨((H.new (.cells (bG c) true)).new (.cells (bm ⟨0,c⟩) true)).new (.cells [.sl (H.n+1) 0 6 1 (some 1)] true),fun K hK=>?_⟩
 have hl:ldA true 5 (H.new (.cells (bG c) true)) (.ptr H.n 0)=some (.agg (bG c)):=by
  simp only [bq,ay,if_true,bo,List.drop_zero]
  rw [cD]; rfl
 have hb:aT [I 0,Sx ⟨#[]⟩,.lit (.slice none 0 0),.lit (.slice none 0 0),.lit (.slice none 0 0),.lit (.slice none 0 0)] [(1,5,.agg (bG c))]=some (bm ⟨0,c⟩):=by
  simp only [aT,om,iO,iI,decide_true,nQ,Bool.not_false,Bool.and_true,pD]
  rw [show bm ⟨0,c⟩=I 0::bG c from rfl,cD]; simp [bN]
 have hb2:∀ H:Hp,ar [.int .i64 0,.string ⟨#[]⟩,.slice none 0 0,.slice none 0 0,.slice none 0 0,.slice none 0 0] 6 1 H [(0,6,.agg (bm ⟨0,c⟩))]=some (.sl H.n 0 6 1 (some 1),H.new (.cells (bm ⟨0,c⟩) true)):=fun H=>by
  have:aT (pO [.int .i64 0,.string ⟨#[]⟩,.slice none 0 0,.slice none 0 0,.slice none 0 0,.slice none 0 0] (1*6)) [(0,6,.agg (bm ⟨0,c⟩))]=some (bm ⟨0,c⟩):=by
   have hz:pO [.int .i64 0,.string ⟨#[]⟩,.slice none 0 0,.slice none 0 0,.slice none 0 0,.slice none 0 0] (1*6)=[I 0,Sx ⟨#[]⟩,.lit (.slice none 0 0),.lit (.slice none 0 0),.lit (.slice none 0 0),.lit (.slice none 0 0)]:=rfl
   rw [hz]
   simp only [aT,om,gg,iI,decide_true,nQ,Bool.not_false,Bool.and_true,pD]
   rw [aQ (by simp)]
   rfl
  unfold ar
  rw [this]
  simp [iI]
 have hb3:∀ n:Nat,aT [.lit (.slice none 0 0)] [(0,1,.sl n 0 6 1 (some 1))]=some [.sl n 0 6 1 (some 1)]:=fun n=>rfl
 have hb4:∀ (n:Nat) (H:Hp),ar [.slice none 0 0] 1 1 H [(0,1,.agg [.sl n 0 6 1 (some 1)])]=some (.sl H.n 0 1 1 (some 1),H.new (.cells [.sl n 0 6 1 (some 1)] true)):=fun n H=>rfl
 simp only [fI,hl,hb,hb2,hb3,hb4,aa,Hp.n_new]
 exact hK _ (JP (id:=H.n+1) (ex:=true) (ex2:=true) (cap:=some 1) (cap2:=some 1) (by simp) (by simp))
def cpB (L:List Nd) (f:Nat) (c:Cp) (e:Int):Bool:=xE L f [⟨0,c⟩] e
theorem FU {L:List Nd} {d:List Nat} (M:McT σ L d) {f:Nat} {c:Cp} (S:kK f [[⟨0,c⟩]]) (e:Int) (H:Hp):aE Tryz.prog σ b_ [dL L d,I e,.agg (bG c)] H (Bo (cpB L f c e)) H:=by
 refine bO (fun K hK=>jg.run ?_) (by simp [aU,bS,cb,lL]) rfl H
 obtain ⟨H2,h2⟩:=IC c Hp.empty
 refine h2 (fun x H=>ai Tryz.prog σ cX [dL L d,I e,x] H fun x5 H6=>K x5 H6) fun x hx=>?_
 refine au ((pT M S e Hp.empty).frzA (.cons (.refl (cb L d)) (.cons (.refl rfl) (.cons hx .nil))) rfl) ?_
 exact hK _
end Go.Proofs.YthmaggcfghjmfaaGreat.Ev
namespace Go.Proofs.YthmaggcfghjmfaaGreat.Ev
set_option linter.unusedVariables false
set_option linter.unusedSimpArgs false
variable {σ:Sig}
def GB (σ:Sig) (f:Nat):Prop:=∀ (s:Sl) (dp:Nat) (H:Hp),uY cF s→(∀ p ∈ s,∀ q ∈ p.c.pseudos,kj f q.list)→dp≤8→aE Tryz.prog σ fh [.agg (aX s),I (dp:Int)] H (Bo (!lQ (dj f) (8 - dp) s)) H
def If (σ:Sig) (f:Nat):Prop:=∀ (c:Cp) (dp:Nat) (H:Hp),pq cF c→(∀ q ∈ c.pseudos,kj f q.list)→dp≤8→aE Tryz.prog σ jB [.agg (bG c),I (dp:Int)] H (Bo (!lR (dj f) (8 - dp) c)) H
section
attribute [local irreducible] aV.L0 aV.J1 aV.L2 co.L0
theorem vU {f:Nat} (ih:If σ f):GB σ f:=by
 intro s dp H hw hn hd
 refine bO (fun K hK=>co.run ?_) (by simp [aU,bS,lO]) rfl H
 have L0:∀ (m k y2:Nat) (H:Hp),s.length - m=k→m≤s.length→H.get y2=some (.cells (aX s) true)→(∀ H,K (Bo (!(s.drop m).all fun p=>lR (dj f) (8 - dp) p.c)) H)→co.L0 σ K (I (dp:Int)) (.ptr y2 0) (I (m:Int)) H:=by
  intro m k
  revert m
  induction k with
  | zero =>
   intro m y2 H hk hm hg hK
   have:m=s.length:=by omega
   subst this
   refine co.L0_step ?_
   simp only [bx,Nat.zero_add,aa,bq,hg,bo,List.drop_zero,kP,eh,List.length_map,ca,Int.lt_irrefl,decide_false,aj,Bool.false_eq_true,if_false]
   simpa using hK H
  | succ k ihk =>
   intro m y2 H hk hm hg hK
   have hlt:m<s.length:=by omega
   obtain ⟨p,hp⟩:=ce hlt
   have hpm:=List.mem_of_getElem? hp
   have hpw:=(Pt.wf_iff.1 (hw.2 p hpm)).2
   rw [cI hp,List.all_cons] at hK
   have hlt':(m:Int)<s.length:=by omega
   refine co.L0_step ?_
   have hd1:(bm p).drop 1=bG p.c:=by rw [dE]; rfl
   have hld:ldL true 5 ((bm p).drop 1)=some (.agg (bG p.c)):=by rw [hd1,BU]
   have hsh:ae (.ip (bm p)) 1=some (.ip ((bm p).drop 1)):=by rw [dE,cD]; rfl
   simp only [bx,Nat.zero_add,aa,bq,hg,bo,List.drop_zero,kP,eh,List.length_map,ca,hlt',decide_true,aj,if_true,cd hp,hsh,fL,hld]
   refine au (ih p.c dp _ hpw (fun q hq=>hn p hpm q hq) hd) ?_
   simp only [aj]
   cases hb:lR (dj f) (8 - dp) p.c with
   | false =>
    rw [hb] at hK
    simpa using hK _
   | true =>
    rw [hb] at hK
    simp only [Bool.not_true,Bool.false_eq_true,if_false,cx,aa,dr hlt hw.1]
    exact ihk (m+1) y2 H (by omega) (by omega) hg (by simpa using hK)
 have hS:lQ (dj f) (8 - dp) s=(decide (s.length≤50)&&s.all fun p=>lR (dj f) (8 - dp) p.c):=rfl
 rw [hS] at hK
 simp only [fI,bx,aa,Nat.zero_add,bq,ay,if_true,bo,List.drop_zero,kP,eh,List.length_map,eQ,aj,decide_eq_true_eq]
 split
 ·rename_i h50
  have:¬ (s.length≤50):=by omega
  simpa [this] using hK _
 ·rename_i h50
  have:s.length≤50:=by omega
  refine L0 0 _ _ _ rfl (Nat.zero_le _) (by simp) ?_
  simpa [this] using hK
theorem wT {f:Nat} (ih:∀ f',f=f'+1→GB σ f'):If σ f:=by
 intro c dp H hc hn hd
 refine bO (fun K hK=>aV.run ?_) (by simp [aU,bS,lL]) rfl H
 have L0:∀ (k m y2:Nat) (H:Hp) (y6 y7:AV),c.pseudos.length - m=k→m≤c.pseudos.length→y2<H.n→H.get y2=some (.cells (bG c) true)→(∀ H,K (Bo (!(c.pseudos.drop m).all (mu (dj f) (8 - dp)))) H)→aV.L0 σ K (I (dp:Int)) (.ptr y2 0) (I (m:Int)) y6 y7 H:=by
  intro k
  induction k with
  | zero =>
   intro m y2 H y6 y7 hk hm hy2 hg hK
   have:m=c.pseudos.length:=by omega
   subst this
   refine aV.L0_step ?_
   simp only [bx,Nat.zero_add,aa,bq,hg,bo,pR,eh,List.length_map,ca,Int.lt_irrefl,decide_false,aj,Bool.false_eq_true,if_false]
   simpa using hK H
  | succ k ihk =>
   intro m y2 H y6 y7 hk hm hy2 hg hK
   have hlt:m<c.pseudos.length:=by omega
   obtain ⟨q,hq⟩:=ce hlt
   have hqm:=List.mem_of_getElem? hq
   have hqw:=(Ps.wf_iff.1 (hc.ps q hqm)).2.2.2
   rw [cI hq,List.all_cons] at hK
   have hlt':(m:Int)<c.pseudos.length:=by omega
   have next:∀ (H:Hp) (y6 y7:AV),y2<H.n→H.get y2=some (.cells (bG c) true)→mu (dj f) (8 - dp) q=true→aV.J1 σ K (I (dp:Int)) (.ptr y2 0) (I (m:Int)) y6 y7 H:=by
    intro H y6 y7 h1 h2 ht
    refine aV.J1_step ?_
    simp only [cx,aa,dr hlt hc.psL]
    refine ihk (m+1) y2 H y6 y7 (by omega) (by omega) h1 h2 fun H'=>?_
    have:=hK H'
    rwa [ht,Bool.true_and] at this
   have ask:∀ (H:Hp) (y6:Nat) (y7:AV),(q.kind=7∨q.kind=8)→y2<H.n→H.get y2=some (.cells (bG c) true)→H.get y6=some (.cells (bA q) true)→ifB (Bo (decide ((8:Int)≤(dp:Int)))) (K (Bo true) H) (aV.L2 σ K (I (dp:Int)) (.ptr y2 0) (I (m:Int)) (.ptr y6 0) (I 0) H):=by
    intro H y6 y7 hkq hy hg2 hg6
    simp only [aj,decide_eq_true_eq]
    have hQ:mu (dj f) (8 - dp) q=(!decide (8 - dp=0)&&dj f q.list (8 - dp - 1)):=by unfold mu; rw [if_pos hkq]
    split
    ·rename_i h0
     have h0':8 - dp=0:=by omega
     have:=hK H
     rw [hQ] at this
     simpa [h0'] using this
    ·rename_i h0
     have h0':¬ (8 - dp=0):=by omega
     have hnq:=hn q hqm
     cases f with
     | zero=>exact hnq.elim
     | succ f' =>
     have hQ2:mu (dj (f'+1)) (8 - dp) q=q.list.all (lQ (dj f') (8 - (dp+1))):=by
      rw [hQ]
      simp only [h0',decide_false,Bool.not_false,Bool.true_and]
      rw [show 8 - (dp+1)=8 - dp - 1 by omega]
      rfl
     have L2:∀ (k2 j:Nat) (H:Hp),q.list.length - j=k2→j≤q.list.length→y2<H.n→H.get y2=some (.cells (bG c) true)→H.get y6=some (.cells (bA q) true)→(∀ i,i<j→∀ s,q.list[i]?=some s→lQ (dj f') (8 - (dp+1)) s=true)→aV.L2 σ K (I (dp:Int)) (.ptr y2 0) (I (m:Int)) (.ptr y6 0) (I (j:Int)) H:=by
      intro k2
      induction k2 with
      | zero =>
       intro j H hk2 hj hy hg2 hg6 hall
       have:j=q.list.length:=by omega
       subst this
       refine aV.L2_step ?_
       simp only [bx,Nat.zero_add,aa,bq,hg6,bo,nB,sls,eh,List.length_map,ca,Int.lt_irrefl,decide_false,aj,Bool.false_eq_true,if_false]
       refine next H _ _ hy hg2 ?_
       rw [hQ2,List.all_eq_true]
       intro s hs
       obtain ⟨i,hi⟩:=List.getElem?_of_mem hs
       exact hall i (List.getElem?_eq_some_iff.1 hi).1 s hi
      | succ k2 ih2 =>
       intro j H hk2 hj hy hg2 hg6 hall
       have hjlt:j<q.list.length:=by omega
       obtain ⟨s,hs⟩:=ce hjlt
       have hsm:=List.mem_of_getElem? hs
       have hjlt':(j:Int)<q.list.length:=by omega
       refine aV.L2_step ?_
       have hix:aR 1 (.imm 1 (q.list.map aX)) (I (j:Int))=some (.ip (aX s)):=cd hs
       have e1:wr .i64 ((dp:Int)+1)=((dp+1:Nat):Int):=by rw [fw (by omega) (by omega)]; rfl
       simp only [bx,Nat.zero_add,aa,bq,hg6,bo,nB,sls,eh,List.length_map,ca,hjlt',decide_true,aj,if_true,hix,fL,rL,cx,e1]
       refine au (ih f' rfl s (dp+1) _ (hqw.2 s hsm) (fun p hp q2 hq2=>hnq s hsm p hp q2 hq2) (by omega)) ?_
       simp only [aj]
       cases hb:lQ (dj f') (8 - (dp+1)) s with
       | false =>
        have:=hK H
        have hf:q.list.all (lQ (dj f') (8 - (dp+1)))=false:=by
         rw [List.all_eq_false]
         exact ⟨s,hsm,by rw [hb]; simp⟩
        rw [hQ2,hf] at this
        simpa using this
       | true =>
        simp only [Bool.not_true,Bool.false_eq_true,if_false,aa,dr hjlt hqw.1]
        refine ih2 (j+1) H (by omega) (by omega) hy hg2 hg6 fun i hi s' hs'=>?_
        by_cases hij:i<j
        ·exact hall i hij s' hs'
        ·have:i=j:=by omega
         subst this
         rw [hs] at hs'
         cases hs'
         exact hb
     exact L2 _ 0 H rfl (Nat.zero_le _) hy hg2 hg6 fun i hi=>by omega
   refine aV.L0_step ?_
   have hst:stA 4 (H.new (.cells [I 0,I 0,I 0,.lit (.slice none 0 0)] true)) (.ptr H.n 0) (.agg (bA q))=some ((H.new (.cells [I 0,I 0,I 0,.lit (.slice none 0 0)] true)).set H.n (some (.cells (bA q) true))):=by
    simp
    rw [wj q (by simp)]
   simp only [bx,Nat.zero_add,aa,bq,hg,bo,pR,eh,List.length_map,ca,hlt',decide_true,aj,if_true,cd hq,fL,qf,bl,hst,aw,List.drop_zero,tD,jA,iF]
   have hne:¬ (y2=H.n):=by omega
   have hg2:((H.new (.cells [I 0,I 0,I 0,.lit (.slice none 0 0)] true)).set H.n (some (.cells (bA q) true))).get y2=some (.cells (bG c) true):=by simp [hne,hg]
   have hn2:y2<((H.new (.cells [I 0,I 0,I 0,.lit (.slice none 0 0)] true)).set H.n (some (.cells (bA q) true))).n:=by simp; omega
   have hask:=fun h=>ask _ H.n (I 0) h hn2 hg2 (by simp)
   simp only [aj] at hask
   by_cases h7:q.kind=7
   ·simp only [h7,decide_true,Bool.not_true,Bool.false_eq_true,if_false]
    exact hask (.inl h7)
   ·simp only [h7,decide_false,Bool.not_false,if_true]
    by_cases h8:q.kind=8
    ·simp only [h8,decide_true,Bool.not_true,Bool.false_eq_true,if_false]
     exact hask (.inr h8)
    ·simp only [h8,decide_false,Bool.not_false,if_true]
     exact next _ _ _ hn2 hg2 (by unfold mu; rw [if_neg (by omega)])
 simp only [fI]
 exact L0 _ 0 _ _ _ _ rfl (Nat.zero_le _) (by simp) (by simp) (by simpa [lR] using hK)
theorem F4:∀ (f:Nat),If σ f
 | 0=>wT fun f' h=>by omega
 | f+1=>wT fun f' h=>by
  have:f'=f:=by omega
  rw [this]
  exact vU (F4 f)
theorem JM (f:Nat):GB σ f:=vU (F4 f)
end
end Go.Proofs.YthmaggcfghjmfaaGreat.Ev
namespace Go.Proofs.YthmaggcfghjmfaaGreat.Ev
set_option linter.unusedVariables false
set_option linter.unusedSimpArgs false
variable {σ:Sig}
end Go.Proofs.YthmaggcfghjmfaaGreat.Ev
namespace Go.Proofs.YthmaggcfghjmfaaGreat.Ev
set_option linter.unusedVariables false
set_option linter.unusedSimpArgs false
variable {σ:Sig}
end Go.Proofs.YthmaggcfghjmfaaGreat.Ev
namespace Go.Proofs.YthmaggcfghjmfaaGreat.Ev
set_option linter.unusedVariables false
set_option linter.unusedSimpArgs false
variable {σ:Sig}
end Go.Proofs.YthmaggcfghjmfaaGreat.Ev
namespace Go.Proofs.YthmaggcfghjmfaaGreat.Ev
set_option linter.unusedVariables false
set_option linter.unusedSimpArgs false
variable {σ:Sig}
end Go.Proofs.YthmaggcfghjmfaaGreat.Ev
namespace Go.Proofs.YthmaggcfghjmfaaGreat.Ev
set_option linter.unusedVariables false
set_option linter.unusedSimpArgs false
variable {σ:Sig}
end Go.Proofs.YthmaggcfghjmfaaGreat.Ev
namespace Go.Proofs.YthmaggcfghjmfaaGreat.Ev
set_option linter.unusedVariables false
set_option linter.unusedSimpArgs false
variable {σ:Sig}
end Go.Proofs.YthmaggcfghjmfaaGreat.Ev
namespace Go.Proofs.YthmaggcfghjmfaaGreat.Ev
set_option linter.unusedVariables false
set_option linter.unusedSimpArgs false
variable {σ:Sig}
section
variable {L:List Nd} {d:List Nat} {e:Nat} {c:Cp} {n:Nd} {dp:Nat} {b6 b9:Nat} {K:AV→Hp→Prop}
structure JI (c:Cp):Prop where
 ids:c.ids.length≤reachBytes
 classes:c.classes.length≤reachBytes
 attrs:c.attrs.length≤reachBytes
 ps:c.pseudos.length≤reachBytes
 texts:∀ a ∈ c.attrs,a.text.data.size<4294967281
end
end Go.Proofs.YthmaggcfghjmfaaGreat.Ev
namespace Go.Proofs.YthmaggcfghjmfaaGreat.Ev
set_option linter.unusedVariables false
set_option linter.unusedSimpArgs false
variable {σ:Sig}
section
end
structure Kn (L:List Nd) (s:Sl) (kb M:Nat) (H:Hp):Prop where
 lt:kb<H.n
 get:∃ ks,H.get kb=some (.cells ks true)∧ks.length=M∧∀ e k,e<L.length→k<s.length→∃ v:Int,ks[e*s.length+k]?=some (I v)∧(v=0∨(v=1∧d5 (AA L) L s k e=true)∨(v=2∧d5 (AA L) L s k e=false))
theorem Kn.keep {L:List Nd} {s:Sl} {kb M:Nat} {H H':Hp} (h:Kn L s kb M H) (hn:H.n≤H'.n) (hg:H'.get kb=H.get kb):Kn L s kb M H':=by
 obtain ⟨ks,h1,h2,h3⟩:=h.get
 exact ⟨Nat.lt_of_lt_of_le h.lt hn,ks,by rw [hg]; exact h1,h2,h3⟩
theorem Kn.new {L:List Nd} {s:Sl} {kb M:Nat} {H:Hp} (h:Kn L s kb M H) (b:Blk):Kn L s kb M (H.new b):=by
 refine h.keep (by simp) ?_
 have:kb≠H.n:=by have:=h.lt; omega
 simp [this]
theorem DM {n a b x y:Nat} (hx:x<n) (hy:y<n) (h:a*n+x=b*n+y):a=b∧x=y:=by
 have h1:(a*n+x) / n=(b*n+y) / n:=by rw [h]
 have hn:0<n:=by omega
 rw [Nat.mul_comm a,Nat.mul_comm b,Nat.mul_add_div hn,Nat.mul_add_div hn,Nat.div_eq_of_lt hx,Nat.div_eq_of_lt hy] at h1
 simp only [Nat.add_zero] at h1
 subst h1
 exact ⟨rfl,by omega⟩
theorem Gf:∀ (cs:List AV) (i:Nat) (x:AV),i<cs.length→bN cs i [x]=cs.set i x:=by
 intro cs
 induction cs with
 | nil=>intro i x hi; simp at hi
 | cons c r ih =>
  intro i x hi
  cases i with
  | zero=>simp
  | succ i=>rw [xI,List.set_cons_succ,ih i x (by simpa using hi)]
theorem Kn.put {L:List Nd} {s:Sl} {kb M:Nat} {H:Hp} (h:Kn L s kb M H) {e k:Nat} (he:e<L.length) (hk:k<s.length) {v:Int} (hv:v=0∨(v=1∧d5 (AA L) L s k e=true)∨(v=2∧d5 (AA L) L s k e=false)) :
  ∃ H',stA 1 H (.ptr kb (e*s.length+k)) (I v)=some H'∧Kn L s kb M H'∧Kp kb H H'∧ldA false 1 H' (.ptr kb (e*s.length+k))=some (I v):=by
 obtain ⟨ks,h1,h2,h3⟩:=h.get
 obtain ⟨v0,hv0,_⟩:=h3 e k he hk
 have hlt:=(List.getElem?_eq_some_iff.1 hv0).1
 refine ⟨H.set kb (some (.cells (ks.set (e*s.length+k) (I v)) true)),?_,⟨by simpa using h.lt,_,by simp; rfl,by simpa using h2,fun e' k' he' hk'=>?_⟩,⟨by simp,fun j hj hne=>by simp [hne]⟩,?_⟩
 ·have hlt':e*s.length+k+[I v].length≤ks.length:=by simp; omega
  rw [GO,h1]
  simp only [cw]
  rw [if_pos ⟨hlt',rfl⟩,Gf _ _ _ hlt]
 ·by_cases hi:e*s.length+k=e'*s.length+k'
  ·obtain ⟨rfl,rfl⟩:=DM hk hk' hi
   exact ⟨v,by simp [hlt],hv⟩
  ·obtain ⟨w,hw,hw'⟩:=h3 e' k' he' hk'
   exact ⟨w,by simp [List.getElem?_set,hi,hw],hw'⟩
 ·simp only [bq,aw,if_true,bo]
  rw [List.drop_eq_getElem_cons (by simpa using hlt),jx]
  simp
section
variable {L:List Nd} {d:List Nat} {s:Sl} {dp kb M:Nat} {cap:Option Nat}
end
end Go.Proofs.YthmaggcfghjmfaaGreat.Ev
namespace Go.Proofs.YthmaggcfghjmfaaGreat.Ev
set_option linter.unusedVariables false
set_option linter.unusedSimpArgs false
variable {σ:Sig} {L:List Nd} {d:List Nat}
def frB (L:List Nd) (s:Sl) (e:Nat):Bool:=!decide (s.length=0)&&d5 (AA L) L s (s.length - 1) e
section
end
end Go.Proofs.YthmaggcfghjmfaaGreat.Ev
namespace Go.Proofs.YthmaggcfghjmfaaGreat.Ev
set_option linter.unusedVariables false
set_option linter.unusedSimpArgs false
inductive Sk where
 | same
 | sl (sz:Nat) (row:List Sk)
 | agg (row:List Sk)
 | ptr (row:List Sk)
def jz (sz:Nat) (g:List AV→Option (List AV)):Nat→List AV→Option (List (List AV))
 | 0,_=>some []
 | n+1,l=>match g (l.take sz) with
  | some r=>match jz sz g n (l.drop sz) with
   | some rs=>some (r::rs)
   | none=>none
  | none=>none
mutual
def xD (H:Hp):Sk→AV→Option AV
 | .same,x=>bif bS x then some x else none
 | .sl sz row,x=>match x with
  | .lit (.slice none 0 0)=>some (.imm sz [])
  | .emp=>some (.imm sz [])
  | .se _ _ _=>some (.imm sz [])
  | .imm s rows=>bif bS (.imm s rows) then some (.imm s rows) else none
  | .sl id off s len _=>bif Nat.beq s sz then match H.get id with
    | some (.cells cs _)=>match jz sz (fun l=>frzR H row l) len (cs.drop off) with
     | some rows=>bif Nat.beq row.length sz then some (.imm sz rows) else none
     | none=>none
    | _=>none
   else none
  | _=>none
 | .agg row,x=>match x with
  | .agg xs=>match frzR H row xs with
   | some ys=>some (.agg ys)
   | none=>none
  | _=>none
 | .ptr row,x=>match x with
  | .ptr id off=>match H.get id with
   | some (.cells cs _)=>match frzR H row ((cs.drop off).take row.length) with
    | some ys=>some (.ip ys)
    | none=>none
   | _=>none
  | _=>none
def frzR (H:Hp):List Sk→List AV→Option (List AV)
 | [],xs=>match xs with
  | []=>some []
  | _=>none
 | k::ks,xs=>match xs with
  | x::xs=>match xD H k x with
   | some y=>match frzR H ks xs with
    | some ys=>some (y::ys)
    | none=>none
   | none=>none
  | []=>none
end
theorem mr {sz:Nat} {g:List AV→Option (List AV)} {H:Hp} (hg:∀ l r,g l=some r→FzL H l r):∀ (n:Nat) (l:List AV) (rows:List (List AV)),jz sz g n l=some rows→rows.length=n∧∀ (i:Nat) (row:List AV),rows[i]?=some row→FzL H ((l.drop (i*sz)).take sz) row
 | 0,l,rows,h=>by
  simp only [jz,Option.some.injEq] at h
  subst h
  exact ⟨rfl,fun i row h=>by simp at h⟩
 | n+1,l,rows,h=>by
  simp only [jz] at h
  split at h
  case h_2=>cases h
  rename_i r hr
  split at h
  case h_2=>cases h
  rename_i rs hrs
  simp only [Option.some.injEq] at h
  subst h
  obtain ⟨h1,h2⟩:=mr hg n _ _ hrs
  refine ⟨by simp [h1],fun i row hi=>?_⟩
  cases i with
  | zero =>
   simp at hi
   subst hi
   simpa using hg _ _ hr
  | succ i =>
   simp at hi
   have:=h2 i row hi
   rw [List.drop_drop] at this
   rw [Nat.succ_mul,Nat.add_comm]
   exact this
theorem FzL.len {H:Hp} {xs ys:List AV} (h:FzL H xs ys):xs.length=ys.length:=h.get.1
mutual
theorem m5 {H:Hp}:∀ (k:Sk) (x y:AV),xD H k x=some y→Fz H x y
 | .same,x,y,h=>by
  simp only [xD] at h
  cases hn:bS x with
  | false=>rw [hn] at h; cases h
  | true=>rw [hn] at h; cases h; exact .refl hn
 | .sl sz row,x,y,h=>by
  simp only [xD] at h
  split at h
  ·cases h; exact .nil
  ·cases h; exact .emp
  ·cases h; exact .se
  ·rename_i s rows
   cases hn:bS (.imm s rows) with
   | false=>rw [hn] at h; cases h
   | true=>rw [hn] at h; cases h; exact .refl hn
  ·rename_i id off s len cap
   cases hs:Nat.beq s sz with
   | false=>rw [hs] at h; cases h
   | true =>
    rw [hs] at h
    have:=Nat.eq_of_beq_eq_true hs
    subst this
    simp only [cond_true] at h
    split at h
    case h_2=>cases h
    rename_i cs ex hg
    split at h
    case h_2=>cases h
    rename_i rows hr
    cases hl:Nat.beq row.length s with
    | false=>rw [hl] at h; cases h
    | true =>
     rw [hl] at h
     cases h
     have hlen:=Nat.eq_of_beq_eq_true hl
     obtain ⟨h1,h2⟩:=mr (fun l r hh=>m9 row l r hh) _ _ _ hr
     have hrow:∀ (i:Nat) (r:List AV),rows[i]?=some r→r.length=s:=by
      intro i r hi
      obtain ⟨_,hh⟩:=mr (g:=fun l=>frzR H row l) (fun l r hh=>m9 row l r hh) _ _ _ hr
      exact oL (fun l r hh=>by rw [← hlen]; exact uC row l r hh) _ _ _ hr i r hi
     refine .sl (fun i j=>cs.getD (off+(i*s+j)) .any) hg h1 hrow (fun i r j y hi hy=>?_) (fun i r j y hi hy=>?_)
     ·obtain ⟨x,hx,_⟩:=(h2 i r hi).get.2 j y hy
      have hj:j<s:=by rw [← hrow i r hi]; exact (List.getElem?_eq_some_iff.1 hy).1
      rw [List.getElem?_take,if_pos hj,List.getElem?_drop,List.getElem?_drop] at hx
      simp [hx]
     ·obtain ⟨x,hx,hf⟩:=(h2 i r hi).get.2 j y hy
      have hj:j<s:=by rw [← hrow i r hi]; exact (List.getElem?_eq_some_iff.1 hy).1
      rw [List.getElem?_take,if_pos hj,List.getElem?_drop,List.getElem?_drop] at hx
      simp [hx]
      exact hf
  ·cases h
 | .agg row,x,y,h=>by
  simp only [xD] at h
  split at h
  case h_2=>cases h
  split at h
  case h_2=>cases h
  rename_i hr
  cases h
  exact Fz.aggL (m9 row _ _ hr)
 | .ptr row,x,y,h=>by
  simp only [xD] at h
  split at h
  case h_2=>cases h
  rename_i id off
  split at h
  case h_2=>cases h
  rename_i cs ex hg
  split at h
  case h_2=>cases h
  rename_i ys hr
  cases h
  have hl:=(m9 row _ _ hr).get
  refine .ptr (fun j=>cs.getD (off+j) .any) hg (fun j y hy=>?_) (fun j y hy=>?_)
  ·obtain ⟨x,hx,_⟩:=hl.2 j y hy
   rw [List.getElem?_take] at hx
   split at hx
   ·rw [List.getElem?_drop] at hx
    simp [hx]
   ·cases hx
  ·obtain ⟨x,hx,hf⟩:=hl.2 j y hy
   rw [List.getElem?_take] at hx
   split at hx
   ·rw [List.getElem?_drop] at hx
    simp [hx]
    exact hf
   ·cases hx
theorem m9 {H:Hp}:∀ (ks:List Sk) (xs ys:List AV),frzR H ks xs=some ys→FzL H xs ys
 | [],xs,ys,h=>by
  simp only [frzR] at h
  split at h
  ·cases h; exact .nil
  ·cases h
 | k::ks,xs,ys,h=>by
  simp only [frzR] at h
  split at h
  case h_2=>cases h
  rename_i x xs
  split at h
  case h_2=>cases h
  rename_i y hy
  split at h
  case h_2=>cases h
  rename_i zs hz
  cases h
  exact .cons (m5 k x y hy) (m9 ks xs zs hz)
theorem uC {H:Hp}:∀ (ks:List Sk) (xs ys:List AV),frzR H ks xs=some ys→ys.length=ks.length
 | [],xs,ys,h=>by
  simp only [frzR] at h
  split at h
  ·cases h; rfl
  ·cases h
 | k::ks,xs,ys,h=>by
  simp only [frzR] at h
  split at h
  case h_2=>cases h
  split at h
  case h_2=>cases h
  split at h
  case h_2=>cases h
  rename_i zs hz
  cases h
  simp [uC ks _ _ hz]
theorem oL {sz:Nat} {g:List AV→Option (List AV)} (hg:∀ l r,g l=some r→r.length=sz):∀ (n:Nat) (l:List AV) (rows:List (List AV)),jz sz g n l=some rows→∀ (i:Nat) (r:List AV),rows[i]?=some r→r.length=sz
 | 0,l,rows,h,i,r,hi=>by
  simp only [jz,Option.some.injEq] at h
  subst h
  simp at hi
 | n+1,l,rows,h,i,r,hi=>by
  simp only [jz] at h
  split at h
  case h_2=>cases h
  rename_i r0 hr0
  split at h
  case h_2=>cases h
  rename_i rs hrs
  cases h
  cases i with
  | zero=>simp at hi; subst hi; exact hg _ _ hr0
  | succ i=>exact oL hg n _ _ hrs i r (by simpa using hi)
end
def vL:Sk:=.sl 1 [.same]
def Jb:Sk:=.sl 3 [.same,.same,.same]
def Jo:Sk:=.sl 2 [.same,.same]
def KL:List Sk:=[.same,.same,.same,vL,Jo]
def JF:Sk:=.sl 5 KL
def Jf (pss:Sk):List Sk:=[.same,vL,vL,Jb,pss]
def F5:Nat→Sk
 | 0=>.same
 | n+1=>.sl 4 [.same,.same,.same,.sl 1 [.sl 6 (.same::Jf (F5 n))]]
def Kb (n:Nat):Sk:=.sl 6 (.same::Jf (F5 n))
def skS (n:Nat):Sk:=.agg [Kb n]
end Go.Proofs.YthmaggcfghjmfaaGreat.Ev
namespace Go.Proofs.YthmaggcfghjmfaaGreat.Ev
theorem aE.conv {P:Program} {σ:Sig} {f:Nat} {xs ys:List AV} {r:AV} {H H2 H3:Hp} (k:Wk σ ys H xs H2) (h:aE P σ f xs H2 r H3):aE P σ f ys H r H3:=by
 refine ⟨h.1,fun B w0 E w vs hσ hst hxs=>?_⟩
 obtain ⟨E2,h1,h2,h3⟩:=k hσ hst hxs
 refine (h.2 B w0 E2 w vs hσ h2 h3).mono fun e w' hh=>?_
 obtain ⟨E',v,rfl,hext,st2,hrel⟩:=hh
 exact ⟨E',v,rfl,h1.trans hext,st2,hrel⟩
def Hp.bare (n:Nat):Hp:=⟨n,.leaf⟩
@[simp] theorem Hp.bare_n (n:Nat):(Hp.bare n).n=n:=rfl
@[simp] theorem Hp.bare_get (n j:Nat):(Hp.bare n).get j=none:=by simp [Hp.bare,Hp.get,Tr.get]
theorem FzL.t {H:Hp} {xs ys:List AV} (h:FzL H xs ys):FzT H xs ys:=by
 induction h with
 | nil=>exact .nil
 | cons h hs ih=>exact .fz h ih
theorem aE.drop {P:Program} {σ:Sig} {f:Nat} {xs ys:List AV} {r:AV} {H:Hp} (h:∀ H,aE P σ f xs H r H) (hx:FzL H ys xs):aE P σ f ys H r (Hp.bare H.n) :=
 aE.conv (Wk.frz (H2:=Hp.bare H.n) (Hd:=H) rfl rfl (fun id k hk=>⟨hk,by simp⟩) (fun id k2 hk=>by simp at hk) hx.t) (h _)
theorem nZ {α:Type} {o:Option α} {x:α} {K:α→Prop} (h:o=some x) (k:K x):bnd o K:=by rw [h]; exact k
end Go.Proofs.YthmaggcfghjmfaaGreat.Ev
namespace Go.Proofs.YthmaggcfghjmfaaGreat.Ev
set_option linter.unusedVariables false
set_option linter.unusedSimpArgs false
inductive Gsc (sz:Nat) (H:Hp):AV→List (List AV)→Prop where
 | gs {x:AV} {rows:List (List AV)} (h:Gs sz H x rows):Gsc sz H x rows
 | full {id:Nat} {ex:Bool} {rows:List (List AV)} (hlt:id<H.n) (hg:H.get id=some (.cells rows.flatten ex)) (hsz:∀ row ∈ rows,row.length=sz) (h0:rows≠[]):Gsc sz H (.sl id 0 sz rows.length (some rows.length)) rows
theorem Gsc.lit {sz:Nat} {H:Hp} {row:List AV} (hl:row.length=sz):Gsc sz (H.new (.cells row true)) (.sl H.n 0 sz 1 (some 1)) [row]:=by
 refine .full (id:=H.n) (rows:=[row]) (by simp) (by simp; rfl) (by simp [hl]) (by simp)
theorem bj.drop {P:Program} {C:Ctx P} {c:Code} {T T2:List AV} {H:Hp} {Q:Exit→List AV→Hp→Prop} (hT:FzT H T T2) (h:bj C c T2 (Hp.bare H.n) Q):bj C c T H Q :=
 bj.conv (Wk.frz (H2:=Hp.bare H.n) (Hd:=H) rfl rfl (fun id k hk=>⟨hk,by simp⟩) (fun id k2 hk=>by simp at hk) hT) h
end Go.Proofs.YthmaggcfghjmfaaGreat.Ev
namespace Go.Proofs.YthmaggcfghjmfaaGreat.Ev
end Go.Proofs.YthmaggcfghjmfaaGreat.Ev
namespace Go.Proofs.YthmaggcfghjmfaaGreat.Ev
set_option linter.unusedVariables false
set_option linter.unusedSimpArgs false
variable {σ:Sig} {L:List Nd} {d:List Nat}
def TxL:Nat→List Sl→Prop
 | 0,_=>False
 | f+1,l=>∀ s ∈ l,∀ p ∈ s,(∀ a ∈ p.c.attrs,a.text.data.size<4294967281)∧∀ q ∈ p.c.pseudos,TxL f q.list
theorem TxL.one {f:Nat} {l:List Sl} (h:TxL f l) {s:Sl} (hs:s ∈ l):TxL f [s]:=by
 cases f with
 | zero=>exact h
 | succ f=>exact fun s' hs'=>by rw [List.mem_singleton.1 hs']; exact h s hs
theorem JI.of {c:Cp} (h:sv c) (ht:∀ a ∈ c.attrs,a.text.data.size<4294967281):JI c:=⟨h.ids,h.classes,h.attrs,h.ps,ht⟩
theorem Hv {f:Nat} {s:Sl} (hn:kj f [s]) (hf:f≤12) (e:Nat):AA L [s] e=frB L s e:=by
 rw [← FO hn hf]
 simp [oo,frB]
theorem tV {f:Nat} {s:Sl} {dp:Nat}:dj (f+1) [s] dp=lQ (dj f) dp s:=by simp [dj]
end Go.Proofs.YthmaggcfghjmfaaGreat.Ev
namespace Go.Proofs.YthmaggcfghjmfaaGreat.Ev
set_option linter.unusedVariables false
set_option linter.unusedSimpArgs false
theorem mV {α:Type} {f:α→List AV} {P:α→Prop}:∀ {rows:List (List AV)},(∀ row ∈ rows,∃ x,row=f x∧P x)→∃ l:List α,rows=l.map f∧∀ x ∈ l,P x
 | [],_=>⟨[],rfl,fun x hx=>by cases hx⟩
 | r::rs,h=>by
  obtain ⟨x,hx,px⟩:=h r (by simp)
  obtain ⟨l,hl,pl⟩:=mV (rows:=rs) fun row hr=>h row (by simp [hr])
  refine ⟨x::l,by rw [hx,hl]; rfl,fun y hy=>?_⟩
  rcases List.mem_cons.1 hy with rfl | hy
  ·exact px
  ·exact pl y hy
theorem JQ {ts:List Nat} {zs:List AV} (h:Sh tiT.get (tX::ts) zs):∃ n ys,zs=I n::ys∧i64 n∧Sh tiT.get ts ys:=by
 obtain ⟨i,hi,hd,_⟩:=Cs
 obtain ⟨n,ys,e,hw,hs⟩:=It hi hd h
 refine ⟨n,ys,e,?_,hs⟩
 simp [Lit.wf,IntKind.min,IntKind.max,IntKind.signed,IntKind.bits] at hw
 unfold i64
 omega
theorem F6 {ts:List Nat} {zs:List AV} (h:Sh tiT.get (cU::ts) zs):∃ s ys,zs=Sx s::ys∧s.data.size≤cF∧Sh tiT.get ts ys:=by
 obtain ⟨i,hi,hd,_⟩:=jC
 obtain ⟨s,ys,e,hw,hs⟩:=zu hi hd h
 exact ⟨s,ys,e,Nat.le_trans hw (by decide),hs⟩
theorem Fg {t e sz:Nat} (hT:∃ i,tiT.get t=some i∧i.d=.slice e∧i.size=1) (hE:∃ i,tiT.get e=some i∧i.size=sz) {ts:List Nat} {zs:List AV} (h:Sh tiT.get (t::ts) zs) :
  ∃ rows ys,zs=.imm sz rows::ys∧(∀ row ∈ rows,Sh tiT.get [e] row)∧rows.length≤cF∧Sh tiT.get ts ys:=by
 obtain ⟨i,hi,hd,_⟩:=hT
 obtain ⟨j',hj',hs'⟩:=hE
 rcases Ah hi hd h with ⟨ys,_,_⟩ | ⟨j,rows,ys,hj,e,hr,hl,hm,_,hs⟩
 ·cases h with
  | sl h' hd' he hc hl hm hb hs=>rw [hi] at h'; cases h'; rw [hd] at hd'; cases hd'; rw [hj'] at he; cases he; exact ⟨_,_,by rw [hs'],hc,hm,hs⟩
  | _=>simp_all
 ·rw [hj'] at hj
  cases hj
  rw [hs'] at e
  exact ⟨rows,ys,e,hr,hm,hs⟩
theorem t7 {t:Nat} {fs:List (Nat × Nat)} {sz:Nat} (hT:∃ i,tiT.get t=some i∧i.d=.struct fs∧i.size=sz) {ts:List Nat} {zs:List AV} (h:Sh tiT.get (t::ts) zs):Sh tiT.get (fs.map (·.2)++ts) zs:=by
 obtain ⟨i,hi,hd,_⟩:=hT
 exact xH hi hd h
theorem A1 {t sz:Nat} {d:TD} (h:∃ i,tiT.get t=some i∧i.d=d∧i.size=sz):∃ i,tiT.get t=some i∧i.size=sz:=by
 obtain ⟨i,a,_,b⟩:=h
 exact ⟨i,a,b⟩
def vV:List Nat:=[tX,cU,HC,ig,qQ,uX,qT,uM,pG,oT,rM,mM,qn,dk,kF,fO,kx]
theorem ku:o7 tiT.get vV=true:=by kernel_rfl
end Go.Proofs.YthmaggcfghjmfaaGreat.Ev
namespace Go.Proofs.YthmaggcfghjmfaaGreat.Ev
theorem Gd {t sz:Nat} {d:TD} (hT:∃ i,tiT.get t=some i∧i.d=d∧i.size=sz) (ha:d.agg=false) {x:AV} (h:ShV tiT.get t x):Sh tiT.get [t] [x]:=by
 obtain ⟨i,hi,hd,_⟩:=hT
 unfold ShV at h
 rw [hi] at h
 simp only [hd,ha] at h
 exact h
theorem F8 {x:AV} (h:ShV tiT.get cU x):∃ s,x=Sx s∧s.data.size≤cF:=by
 obtain ⟨n,ys,e,w,hn⟩:=F6 (Gd jC rfl h)
 cases e
 exact ⟨n,rfl,w⟩
end Go.Proofs.YthmaggcfghjmfaaGreat.Ev
namespace Go.Proofs.YthmaggcfghjmfaaGreat.Ev
theorem sK {ts:List Nat} {zs:List AV} (h:Sh tiT.get (cU::ts) zs):∃ s ys,zs=Sx s::ys∧s.data.size≤reachBytes∧Sh tiT.get ts ys:=by
 obtain ⟨i,hi,hd,_⟩:=jC
 obtain ⟨s,ys,e,hw,hs⟩:=zu hi hd h
 exact ⟨s,ys,e,hw,hs⟩
theorem tE {t e sz B:Nat} (hT:∃ i,tiT.get t=some i∧i.d=.slice e∧i.size=1) (hE:∃ i,tiT.get e=some i∧i.size=sz) (hB:(tiT.get e).map (·.bytes)=some B) {ts:List Nat} {zs:List AV} (h:Sh tiT.get (t::ts) zs) :
  ∃ rows ys,zs=.imm sz rows::ys∧(∀ row ∈ rows,Sh tiT.get [e] row)∧rows.length*B≤reachBytes∧Sh tiT.get ts ys:=by
 obtain ⟨i,hi,hd,_⟩:=hT
 obtain ⟨j',hj',hs'⟩:=hE
 rw [hj'] at hB
 simp only [Option.map_some,Option.some.injEq] at hB
 cases h with
 | sl h' hd' he hc hl hm hb hs=>rw [hi] at h'; cases h'; rw [hd] at hd'; cases hd'; rw [hj'] at he; cases he; exact ⟨_,_,by rw [hs'],hc,by rw [← hB]; exact hb,hs⟩
 | _=>simp_all
theorem Dj {ts:List Nat} {zs:List AV} (h:Sh tiT.get (ig::ts) zs):∃ l ys,zs=d_ l::ys∧l.length*16≤reachBytes∧Sh tiT.get ts ys:=by
 obtain ⟨rows,ys,e,hr,hm,hs⟩:=tE qc (A1 jC) (B:=16) (by kernel_rfl) h
 obtain ⟨l,hl,hp⟩:=mV (f:=fun s=>[Sx s]) (P:=fun s=>True) fun row hrow=>by
  obtain ⟨s,ys,e,hw,hs⟩:=F6 (hr row hrow)
  rw [uZ hs] at e
  exact ⟨s,e,trivial⟩
 exact ⟨l,ys,by rw [e,hl]; rfl,by rw [hl] at hm; simpa using hm,hs⟩
theorem Fs {ts:List Nat} {zs:List AV} (h:Sh tiT.get (fO::ts) zs):∃ (l:List (ByteArray × ByteArray)) (ys:List AV),zs=.imm 2 (l.map cK)::ys∧(l.length*32≤reachBytes∧∀ x ∈ l,x.1.data.size≤reachBytes)∧Sh tiT.get ts ys:=by
 obtain ⟨rows,ys,e,hr,hm,hs⟩:=tE oB (A1 lX) (B:=32) (by kernel_rfl) h
 obtain ⟨l,hl,hp⟩:=mV (f:=cK) (P:=fun x=>x.1.data.size≤reachBytes) fun row hrow=>by
  obtain ⟨a,y1,e1,w1,h2⟩:=sK (t7 lX (hr row hrow))
  obtain ⟨b,y2,e2,w2,h3⟩:=sK h2
  rw [uZ h3] at e2
  exact ⟨⟨a,b⟩,by rw [e1,e2]; rfl,w1⟩
 exact ⟨l,ys,by rw [e,hl],⟨by rw [hl] at hm; simpa using hm,hp⟩,hs⟩
theorem FA {ts:List Nat} {zs:List AV} (h:Sh tiT.get (dk::ts) zs):∃ (l:List Nd) (ys:List AV),zs=nds l::ys∧(∀ x ∈ l,lS x)∧l.length≤cF∧Sh tiT.get ts ys:=by
 obtain ⟨rows,ys,e,hr,hm,hs⟩:=Fg jU (A1 l9) h
 obtain ⟨l,hl,hp⟩:=mV (f:=bF) (P:=lS) fun row hrow=>by
  obtain ⟨p,y1,e1,w1,h2⟩:=JQ (t7 l9 (hr row hrow))
  obtain ⟨t,y2,e2,w2,h3⟩:=sK h2
  obtain ⟨i,y3,e3,w3,h4⟩:=sK h3
  obtain ⟨c,y4,e4,w4,h5⟩:=Dj h4
  obtain ⟨a,y5,e5,w5,h6⟩:=Fs h5
  rw [uZ h6] at e5
  exact ⟨⟨p,t,i,c,a⟩,by rw [e1,e2,e3,e4,e5]; rfl,w1,w2,w4,w5.1,w5.2⟩
 exact ⟨l,ys,by rw [e,hl]; rfl,hp,by rw [hl] at hm; simpa using hm,hs⟩
theorem DL {x:AV} (h:ShV tiT.get dk x):∃ l,x=nds l∧(∀ n ∈ l,lS n)∧l.length≤cF:=by
 obtain ⟨l,ys,e,w,hl,hn⟩:=FA (Gd jU rfl h)
 cases e
 exact ⟨l,rfl,w,hl⟩
end Go.Proofs.YthmaggcfghjmfaaGreat.Ev
namespace Go.Proofs.YthmaggcfghjmfaaGreat.Ev
set_option linter.unusedVariables false
set_option linter.unusedSimpArgs false
theorem pJ {α:Type} {f:α→List AV} {g:α→Nat}:∀ {l:List α},(∀ x ∈ l,g x≤bkL (f x))→(l.map g).sum≤cP (l.map f)
 | [],_=>by simp [cP]
 | x::r,h=>by
  have h1:=h x (by simp)
  have h2:=pJ (f:=f) (g:=g) (l:=r) fun y hy=>h y (by simp [hy])
  simp only [List.map_cons,List.sum_cons,cP]
  omega
theorem lj {α:Type} {f:α→List AV} {l:List α} (h:∀ x ∈ l,1≤bkL (f x)):l.length≤cP (l.map f):=by
 have h1:=pJ (f:=f) (g:=fun _=>1) (l:=l) h
 have h2:∀ l:List α,(l.map fun _=>1).sum=l.length:=by
  intro l
  induction l with
  | nil=>rfl
  | cons a r ih=>simp only [List.map_cons,List.sum_cons,List.length_cons,ih]; omega
 rw [h2] at h1
 exact h1
theorem sQ {α:Type} {f:α→List AV} {l:List α} {x:α} (h:x ∈ l):bkL (f x)≤cP (l.map f):=uv (List.mem_map_of_mem h)
theorem ye (s:ByteArray):bk (Sx s)=s.data.size+1:=by simp [bk]
theorem IU (n:Int):bk (I n)=1:=by simp [bk]
theorem rU (sz:Nat) (rows:List (List AV)):bk (.imm sz rows)=cP rows+1:=by simp [bk]
theorem DN (l:List ByteArray):bk (d_ l)=cP (l.map fun s=>[Sx s])+1:=by unfold d_; rw [rU]
theorem lE (c:Cp):bkL (bG c)=(c.tag.data.size+1)+((cP (c.ids.map fun s=>[Sx s])+1)+((cP (c.classes.map fun s=>[Sx s])+1)+((cP (c.attrs.map bU)+1)+(cP (c.pseudos.map bA)+1)))):=by
 rw [cD]
 simp only [bkL,ye,DN,rU,Nat.add_zero]
theorem wO (p:Pt):bkL (bm p)=1+bkL (bG p.c):=by rw [dE]; simp only [bkL,IU]
theorem rk (q:Ps):bkL (bA q)=1+(1+(1+(cP (q.list.map aX)+1))):=by rw [dF]; simp only [bkL,IU,rU,Nat.add_zero]
theorem ru (s:Sl):bkL (aX s)=cP (s.map bm)+1:=by unfold aX; simp only [bkL,rU,Nat.add_zero]
theorem zL (a:At):bkL (bU a)=(a.name.data.size+1)+(1+(a.text.data.size+1)):=by unfold bU; simp only [bkL,ye,IU,Nat.add_zero]
structure PtB (f:Nat) (p:Pt):Prop where
 c:sv p.c
 ps:p.c.pseudos.length≤NB
 q:∀ q ∈ p.c.pseudos,(i64 q.a∧i64 q.b)∧jR f q.list
 tx:∀ a ∈ p.c.attrs,a.text.data.size<4294967281
 tq:∀ q ∈ p.c.pseudos,TxL f q.list
 cnt:(p.c.pseudos.map fun q=>eK f q.list).sum+6≤bkL (bm p)
theorem E_ {f:Nat} (ih:∀ l,gd cF l→nN f l→cP (l.map aX)≤NB→jR f l∧TxL f l∧eK f l≤cP (l.map aX)) {p:Pt} (hw:pq cF p.c) (hf:Fm f p) (hb:bkL (bG p.c)≤NB):PtB f p:=by
 have hN:NB=1048576:=rfl
 have r:reachBytes=140737488351232:=rfl
 rw [lE,hN] at hb
 have l1:p.c.ids.length≤cP (p.c.ids.map fun s=>[Sx s]):=lj fun s _=>by simp only [bkL,ye]; omega
 have l2:p.c.classes.length≤cP (p.c.classes.map fun s=>[Sx s]):=lj fun s _=>by simp only [bkL,ye]; omega
 have l3:p.c.attrs.length≤cP (p.c.attrs.map bU):=lj fun s _=>by rw [zL]; omega
 have l4:p.c.pseudos.length≤cP (p.c.pseudos.map bA):=lj fun s _=>by rw [rk]; omega
 have ht:∀ a ∈ p.c.attrs,a.text.data.size≤1048576:=fun a ha=>by
  have h1:=sQ (f:=bU) ha
  rw [zL] at h1
  omega
 have hq:∀ q ∈ p.c.pseudos,jR f q.list∧TxL f q.list∧eK f q.list≤cP (q.list.map aX):=fun q hq=>by
  have h1:=sQ (f:=bA) hq
  rw [rk] at h1
  exact ih q.list (Ps.wf_iff.1 (hw.ps q hq)).2.2.2 (hf.2 q hq) (by rw [hN]; omega)
 refine ⟨⟨by omega,by omega,by omega,fun a ha=>⟨by have:=ht a ha; omega⟩,by omega⟩,by omega,fun q h=>⟨⟨(Ps.wf_iff.1 (hw.ps q h)).2.1,(Ps.wf_iff.1 (hw.ps q h)).2.2.1⟩,(hq q h).1⟩,fun a ha=>by have:=ht a ha; omega,fun q h=>(hq q h).2.1,?_⟩
 have h5:(p.c.pseudos.map fun q=>eK f q.list).sum≤cP (p.c.pseudos.map bA):=pJ fun q h=>by
  have:=(hq q h).2.2
  rw [rk]; omega
 rw [wO,lE]
 omega
theorem qF:∀ (f:Nat) (l:List Sl),gd cF l→nN f l→cP (l.map aX)≤NB→jR f l∧TxL f l∧eK f l≤cP (l.map aX)
 | 0,l,_,h,_=>h.elim
 | f+1,l,hw,hf,hb=>by
  have hN:NB=1048576:=rfl
  have hl:l.length≤cP (l.map aX):=lj fun s _=>by rw [ru]; omega
  have hs:∀ s ∈ l,s.length≤NB∧∀ p ∈ s,PtB f p:=fun s h=>by
   have h1:=sQ (f:=aX) h
   rw [ru] at h1
   have h2:s.length≤cP (s.map bm):=lj fun p _=>by rw [wO]; omega
   refine ⟨by omega,fun p hp=>?_⟩
   have h3:=sQ (f:=bm) hp
   rw [wO] at h3
   exact E_ (qF f) (Pt.wf_iff.1 ((hw.2 s h).2 p hp)).2 ((hf s h).2 p hp) (by omega)
  refine ⟨⟨by omega,fun s h=>⟨(hs s h).1,fun p hp=>⟨((hs s h).2 p hp).c,((hs s h).2 p hp).ps,((hs s h).2 p hp).q⟩⟩⟩,fun s h p hp=>⟨((hs s h).2 p hp).tx,((hs s h).2 p hp).tq⟩,?_⟩
  rw [eK]
  refine pJ fun s h=>?_
  rw [ru]
  have:(s.map fun p=>(p.c.pseudos.map fun q=>eK f q.list).sum).sum≤cP (s.map bm):=pJ fun p hp=>by
   have:=((hs s h).2 p hp).cnt
   omega
  omega
theorem pI {l:List Sl} (hw:gd cF l) (hf:nN 11 l) (hb:cP (l.map aX)≤NB):kK 11 l∧TxL 11 l:=by
 obtain ⟨h1,h2,h3⟩:=qF 11 l hw hf hb
 exact ⟨⟨hw,h1,hf.nest,by decide,by omega⟩,h2⟩
end Go.Proofs.YthmaggcfghjmfaaGreat.Ev
namespace Go.Proofs.YthmaggcfghjmfaaGreat.Ev
set_option linter.unusedVariables false
set_option linter.unusedSimpArgs false
set_option maxRecDepth 100000
variable {σ:Sig}
def alL:List Nd:=[⟨-1,emp,emp,[],[]⟩,⟨0,emp,emp,[],[]⟩,⟨0,emp,emp,[],[]⟩,⟨0,emp,emp,[],[]⟩]
def alS:Sl:=[⟨0,.mk emp [] [] [] [.mk 6 2 1 []]⟩]
theorem alB:dh alL alL.length [0,1,1,1]:=by
 have h1:dh alL 1 [0]:=dh.first (by decide) rfl
 have h2:dh alL 2 [0,1]:=h1.next (p:=0) (x:=0) (by decide) (by decide) rfl (by decide) rfl (by decide)
 have h3:dh alL 3 [0,1,1]:=h2.next (p:=0) (x:=0) (by decide) (by decide) rfl (by decide) rfl (by decide)
 exact h3.next (p:=0) (x:=0) (by decide) (by decide) rfl (by decide) rfl (by decide)
theorem alW:∀ n ∈ alL,lS n:=by
 intro n hn
 simp only [alL,List.mem_cons,List.not_mem_nil,or_false] at hn
 rcases hn with rfl | rfl | rfl | rfl<;>exact ⟨by unfold i64; decide,by decide,by decide,by decide,by intro p hp; cases hp⟩
theorem KB:∀ e,e<alL.length→SmN (cm (cW alL e)):=by
 intro e he
 have:e=0∨e=1∨e=2∨e=3:=by simp [alL] at he; omega
 rcases this with rfl | rfl | rfl | rfl<;>exact ⟨by decide,by decide,by intro p hp; cases hp⟩
theorem alM (hC:nr σ):McT σ alL [0,1,1,1]:=⟨hC,alB,by decide,KB⟩
theorem Gq:kK 2 [alS]:=by
 refine ⟨⟨by decide,fun s hs=>?_⟩,⟨by decide,fun s hs=>?_⟩,fun s hs p hp q hq=>?_,by decide,by decide⟩
 ·rw [List.mem_singleton.1 hs]
  refine ⟨by decide,fun p hp=>?_⟩
  rw [List.mem_singleton.1 hp,Pt.wf_iff]
  refine ⟨by unfold i64; decide,by decide,⟨by decide,fun s h=>by cases h⟩,⟨by decide,fun s h=>by cases h⟩,by decide,(fun s h=>by cases h),by decide,fun q hq=>?_⟩
  rw [List.mem_singleton.1 hq,Ps.wf_iff]
  exact ⟨by unfold i64; decide,by unfold i64; decide,by unfold i64; decide,by decide,fun s h=>by cases h⟩
 ·rw [List.mem_singleton.1 hs]
  refine ⟨by decide,fun p hp=>?_⟩
  rw [List.mem_singleton.1 hp]
  refine ⟨⟨by decide,by decide,by decide,(fun s h=>by cases h),by decide⟩,by decide,fun q hq=>?_⟩
  rw [List.mem_singleton.1 hq]
  exact ⟨⟨by unfold i64; decide,by unfold i64; decide⟩,by decide,fun s h=>by cases h⟩
 ·rw [List.mem_singleton.1 hs] at hp
  rw [List.mem_singleton.1 hp] at hq
  rw [List.mem_singleton.1 hq]
  exact fun s h=>by cases h
theorem al1:xE alL 2 alS 1=true:=by kernel_rfl
theorem al2:xE alL 2 alS 2=false:=by kernel_rfl
theorem al3:xE alL 2 alS 3=true:=by kernel_rfl
theorem ES (hC:nr σ) (H:Hp):aE Tryz.prog σ hJ [] H (Bo true) H:=by
 refine bO (fun K hK=>kY.run ?_) rfl rfl H
 iterate 5 refine nZ rfl ?_
 refine au (aE.drop (fun H=>rJ alB alW (by decide) H) (.cons (m5 JF _ _ (by kernel_rfl)) .nil)) ?_
 simp only [nc,List.getElem?_cons_zero,List.getElem?_cons_succ,aa]
 iterate 6 refine nZ rfl ?_
 simp only [bl]
 refine nZ rfl ?_
 refine nZ rfl ?_
 refine au ((vG (alM hC) Gq 1 Hp.empty).frzA (.cons (.refl (cb _ _)) (.cons (.refl rfl) (.cons (m5 (skS 1) _ _ (by kernel_rfl)) .nil))) rfl) ?_
 simp only [al1,aj,if_true]
 refine nZ rfl ?_
 refine au ((vG (alM hC) Gq 2 Hp.empty).frzA (.cons (.refl (cb _ _)) (.cons (.refl rfl) (.cons (m5 (skS 1) _ _ (by kernel_rfl)) .nil))) rfl) ?_
 simp only [al2,eS,aa,aj,if_true,Bool.not_false]
 refine nZ rfl ?_
 refine au ((vG (alM hC) Gq 3 Hp.empty).frzA (.cons (.refl (cb _ _)) (.cons (.refl rfl) (.cons (m5 (skS 1) _ _ (by kernel_rfl)) .nil))) rfl) ?_
 rw [al3]
 exact hK _
end Go.Proofs.YthmaggcfghjmfaaGreat.Ev
namespace Go.Proofs.YthmaggcfghjmfaaGreat.Ev
set_option linter.unusedVariables false
set_option linter.unusedSimpArgs false
variable {σ:Sig}
def mQ (s:ByteArray):Bool:=decide (60<(s.data.size:Int))
def qN (p:ByteArray × ByteArray):Bool:=mQ p.1||decide (100<(p.2.data.size:Int))
def zi (n:Nd):Bool:=decide (8<(n.classes.length:Int))||(decide (8<(n.attrs.length:Int))||(mQ n.tag||(mQ n.id||(n.classes.any mQ||n.attrs.any qN))))
def xS (L:List Nd):Bool:=if 40<L.length then (if L.length≤4096 then true else decide (4100<L.length)) else decide (4100<L.length)
def nh (L:List Nd) (m:Nat):Bool:=((L.drop m).take (100 - m)).any zi||xS L
structure xY (n:Nd):Prop where
 classes:n.classes.length≤8
 attrs:n.attrs.length≤8
 tag:n.tag.data.size≤60
 id:n.id.data.size≤60
 cl:∀ s ∈ n.classes,s.data.size≤60
 at':∀ p ∈ n.attrs,p.1.data.size≤60∧p.2.data.size≤100
theorem xY.of {n:Nd} (h:zi n=false):xY n:=by
 unfold zi qN mQ at h
 simp only [Bool.or_eq_false_iff,decide_eq_false_iff_not,List.any_eq_false,Bool.or_eq_true,decide_eq_true_eq,not_or] at h
 obtain ⟨h1,h2,h3,h4,h5,h6⟩:=h
 exact ⟨by omega,by omega,by omega,by omega,fun s hs=>by have:=h5 s hs; omega,fun p hp=>by have:=h6 p hp; omega⟩
theorem xf {L:List Nd} {m:Nat} {n:Nd} (h:L[m]?=some n) (hm:m<100):nh L m=(zi n||nh L (m+1)):=by
 unfold nh
 obtain ⟨j,hj⟩:∃ j,100 - m=j+1:=⟨99 - m,by omega⟩
 rw [cI h,hj,List.take_succ_cons,List.any_cons,Bool.or_assoc,show 100 - (m+1)=j by omega]
section
attribute [local irreducible] aY.L0 aY.L1 aY.L2
theorem Gn {L:List Nd} {m:Nat} {n:Nd} (hn:L[m]?=some n) (hm:m<100) {K:AV→Hp→Prop} {y4:AV} (hl:n.attrs.length≤8)
  (h0:∀ H y4 y5,(∀ H,K (Bo (nh L (m+1))) H)→aY.L0 σ K (nds L) (I ((m+1:Nat):Int)) y4 y5 H):∀ (f k:Nat) (H:Hp),n.attrs.length - k=f→k≤n.attrs.length→(∀ H,K (Bo ((n.attrs.drop k).any qN||nh L (m+1))) H) →
  aY.L2 σ K (nds L) (I (m:Int)) y4 (I (k:Int)) H:=by
 have hix:aR 5 (nds L) (I (m:Int))=some (.ip (bF n)):=cd hn
 intro f
 induction f with
 | zero =>
  intro k H hf hk hK
  have:k=n.attrs.length:=by omega
  subst this
  refine aY.L2_step ?_
  have hw:wr .i64 ((m:Int)+1)=((m+1:Nat):Int):=ci (by omega)
  simp only [hix,aa,pC,fL,qH,eh,List.length_map,ca,Int.lt_irrefl,decide_false,aj,Bool.false_eq_true,if_false,cx,hw]
  refine h0 _ _ _ ?_
  simpa using hK
 | succ f ih =>
  intro k H hf hk hK
  have hlt:k<n.attrs.length:=by omega
  obtain ⟨p,hp⟩:=ce hlt
  rw [cI hp,List.any_cons] at hK
  have hlt':(k:Int)<n.attrs.length:=by omega
  have hixp:aR 2 (.imm 2 (n.attrs.map cK)) (I (k:Int))=some (.ip (cK p)):=cd hp
  have hw:wr .i64 ((k:Int)+1)=((k+1:Nat):Int):=ci (by omega)
  refine aY.L2_step ?_
  simp only [hix,aa,pC,fL,qH,eh,List.length_map,ca,hlt',decide_true,aj,if_true,hixp,List.drop_zero,yI,wW,hY,eQ,decide_eq_true_eq,cx,hw]
  split
  ·rename_i h
   have:qN p=true:=by unfold qN mQ; rw [decide_eq_true h,Bool.true_or]
   rw [this] at hK
   simpa using hK H
  rename_i h1
  split
  ·rename_i h
   have:qN p=true:=by unfold qN; rw [decide_eq_true h,Bool.or_true]
   rw [this] at hK
   simpa using hK H
  ·rename_i h
   have:qN p=false:=by unfold qN mQ; rw [decide_eq_false h,decide_eq_false h1]; rfl
   rw [this] at hK
   exact ih (k+1) H (by omega) (by omega) (by simpa using hK)
theorem GL {L:List Nd} {m:Nat} {n:Nd} (hn:L[m]?=some n) (hm:m<100) {K:AV→Hp→Prop} {y5:AV} (hl:n.attrs.length≤8) (hl2:n.classes.length≤8)
  (h0:∀ H y4 y5,(∀ H,K (Bo (nh L (m+1))) H)→aY.L0 σ K (nds L) (I ((m+1:Nat):Int)) y4 y5 H):∀ (f k:Nat) (H:Hp),n.classes.length - k=f→k≤n.classes.length→(∀ H,K (Bo ((n.classes.drop k).any mQ||(n.attrs.any qN||nh L (m+1)))) H) →
  aY.L1 σ K (nds L) (I (m:Int)) (I (k:Int)) y5 H:=by
 have hix:aR 5 (nds L) (I (m:Int))=some (.ip (bF n)):=cd hn
 intro f
 induction f with
 | zero =>
  intro k H hf hk hK
  have:k=n.classes.length:=by omega
  subst this
  refine aY.L1_step ?_
  simp only [hix,aa,pC,fL,py,pe,ca,Int.lt_irrefl,decide_false,aj,Bool.false_eq_true,if_false]
  exact Gn hn hm hl h0 _ 0 H rfl (Nat.zero_le _) (by simpa using hK)
 | succ f ih =>
  intro k H hf hk hK
  have hlt:k<n.classes.length:=by omega
  obtain ⟨p,hp⟩:=ce hlt
  rw [cI hp,List.any_cons] at hK
  have hlt':(k:Int)<n.classes.length:=by omega
  have hixp:aR 1 (d_ n.classes) (I (k:Int))=some (.ip [Sx p]):=cd hp
  have lx:∀ H,ldA false 1 H (.ip [Sx p])=some (Sx p):=fun _=>rfl
  have hw:wr .i64 ((k:Int)+1)=((k+1:Nat):Int):=ci (by omega)
  refine aY.L1_step ?_
  simp only [hix,aa,pC,fL,py,pe,ca,hlt',decide_true,aj,if_true,hixp,jx,hY,eQ,decide_eq_true_eq,cx,hw]
  split
  ·rename_i h
   have:mQ p=true:=decide_eq_true h
   rw [this] at hK
   simpa using hK H
  ·rename_i h
   have:mQ p=false:=decide_eq_false h
   rw [this] at hK
   exact ih (k+1) H (by omega) (by omega) (by simpa using hK)
theorem rY {L:List Nd} {K:AV→Hp→Prop} {H:Hp} (hK:∀ H,K (Bo (xS L)) H):bnd (a8 (nds L)) fun x24=>bnd (af .gtr x24 (I 40)) fun x25=>ifB x25 (bnd (a8 (nds L)) fun x26=>bnd (af .leq x26 (I 4096)) fun x27=>ifB x27 (K (Bo true) H) (bnd (a8 (nds L)) fun x28=>bnd (af .gtr x28 (I 4100)) fun x29=>K x29 H)) (bnd (a8 (nds L)) fun x30=>bnd (af .gtr x30 (I 4100)) fun x31=>K x31 H):=by
 simp only [gY,aa,eQ,oE,aj,decide_eq_true_eq]
 have e:decide ((4100:Int)<(L.length:Int))=decide (4100<L.length):=by rw [decide_eq_decide]; omega
 rw [e]
 unfold xS at hK
 by_cases h1:40<L.length
 ·have h1':(40:Int)<(L.length:Int):=by omega
  rw [if_pos h1] at hK
  rw [if_pos h1']
  by_cases h2:L.length≤4096
  ·have h2':(L.length:Int)≤4096:=by omega
   rw [if_pos h2] at hK
   rw [if_pos h2']
   exact hK H
  ·have h2':¬ (L.length:Int)≤4096:=by omega
   rw [if_neg h2] at hK
   rw [if_neg h2']
   exact hK H
 ·have h1':¬ (40:Int)<(L.length:Int):=by omega
  rw [if_neg h1] at hK
  rw [if_neg h1']
  exact hK H
theorem uT (L:List Nd) (H:Hp):aE Tryz.prog σ kE [nds L] H (Bo (nh L 0)) H:=by
 refine bO (fun K hK=>aY.run ?_) (by simp [aU,bS]) rfl H
 have L0:∀ (f m:Nat) (H:Hp) (y4 y5:AV),100 - m=f→m≤L.length→m≤100→(∀ H,K (Bo (nh L m)) H)→aY.L0 σ K (nds L) (I (m:Int)) y4 y5 H:=by
  intro f
  induction f with
  | zero =>
   intro m H y4 y5 hf hm hm2 hK
   obtain rfl:m=100:=by omega
   have hK:∀ H,K (Bo (xS L)) H:=by simpa [nh] using hK
   refine aY.L0_step ?_
   have e0:¬ (((100:Nat):Int)<100):=by decide
   by_cases h:((100:Nat):Int)<L.length
   ·simp only [gY,aa,ca,h,decide_true,aj,if_true,e0,decide_false,Bool.false_eq_true,if_false]
    have hE:=rY (H:=H) hK
    simp only [gY,aa,eQ,oE] at hE ⊢
    exact hE
   ·simp only [gY,aa,ca,h,decide_false,aj,Bool.false_eq_true,if_false]
    have hE:=rY (H:=H) hK
    simp only [gY,aa,eQ,oE] at hE ⊢
    exact hE
  | succ f ih =>
   intro m H y4 y5 hf hm hm2 hK
   refine aY.L0_step ?_
   have e0:((m:Nat):Int)<100:=by omega
   by_cases h:m<L.length
   ·have h':(m:Int)<L.length:=by omega
    obtain ⟨n,hn⟩:=ce h
    rw [xf hn (by omega)] at hK
    have hix:aR 5 (nds L) (I (m:Int))=some (.ip (bF n)):=cd hn
    simp only [gY,aa,ca,h',decide_true,aj,if_true,e0,hix,pC,fL,py,qH,xz,BV,pe,eh,List.length_map,hY,eQ,decide_eq_true_eq]
    unfold zi at hK
    split
    ·rename_i h1; simp only [h1,decide_true,Bool.true_or] at hK; exact hK H
    rename_i h1
    split
    ·rename_i h2; simp only [h2,decide_true,Bool.true_or,Bool.or_true] at hK; exact hK H
    rename_i h2
    split
    ·rename_i h3
     have:mQ n.tag=true:=decide_eq_true h3
     simp only [this,Bool.true_or,Bool.or_true] at hK; exact hK H
    rename_i h3
    split
    ·rename_i h4
     have:mQ n.id=true:=decide_eq_true h4
     simp only [this,Bool.true_or,Bool.or_true] at hK; exact hK H
    rename_i h4
    have t3:mQ n.tag=false:=decide_eq_false h3
    have t4:mQ n.id=false:=decide_eq_false h4
    simp only [h1,h2,t3,t4,decide_false,Bool.false_or,Bool.or_assoc] at hK
    exact GL hn (by omega) (by omega) (by omega) (fun H y4 y5 hK'=>ih (m+1) H y4 y5 (by omega) (by omega) (by omega) hK') _ 0 H rfl (Nat.zero_le _) (by simpa using hK)
   ·have h':¬ (m:Int)<L.length:=by omega
    have:m=L.length:=by omega
    subst this
    have hK:∀ H,K (Bo (xS L)) H:=by simpa [nh] using hK
    simp only [gY,aa,ca,h',decide_false,aj,Bool.false_eq_true,if_false]
    have hE:=rY (H:=H) hK
    simp only [gY,aa,eQ,oE] at hE ⊢
    exact hE
 exact L0 _ 0 _ _ _ rfl (Nat.zero_le _) (by decide) hK
end
theorem t0 {P:Program} {σ:Sig} {f:Nat} {xs:List AV} {r:AV} (h:∀ K:AV→Hp→Prop,(∀ H,K r H)→∃ r' H1,aE P σ f xs Hp.empty r' H1∧K r' H1) (hx:aU xs=true) (hr:bS r=true) (H:Hp):aE P σ f xs H r H:=by
 obtain ⟨r',H1,hg,e⟩:=h (fun r' _=>r'=r) (fun _=>rfl)
 subst e
 exact hg.frzR hx (.refl hr) H
structure oz (L:List Nd) (d:List Nat):Prop where
 len:L.length≤40
 hB:dh L L.length d
 sm:∀ n ∈ L,xY n
theorem A4 (L:List Nd) (hW:∀ n ∈ L,lS n):(∀ H,aE Tryz.prog σ fH [nds L] H (.tup [.lit (.pointer none),.lit (.pointer none),Bo false]) H) ∨
  (∃ d,oz L d∧∀ H,aE Tryz.prog σ fH [nds L] H (.tup [dL L d,AT L d,Bo true]) H):=by
 rcases xQ (σ:=σ) L hW with ⟨_,e,he,hg⟩ | ⟨d,hN,hB,hg⟩
 ·refine .inl fun H=>bO (fun K hK=>h_.run (au (uT L _) (au (hg _) ?_))) (by simp [aU,bS]) rfl H
  simp only [nc,List.getElem?_cons_zero,List.getElem?_cons_succ,aa,aj,jA,he,decide_false,Bool.not_false,if_true]
  cases nh L 0<;>simp only [Bool.false_eq_true,if_true,if_false]<;>exact hK _
 ·cases hb:nh L 0 with
  | true =>
   refine .inl fun H=>bO (fun K hK=>h_.run (au (uT L _) (au (hg _) ?_))) (by simp [aU,bS]) rfl H
   simp only [nc,List.getElem?_cons_zero,List.getElem?_cons_succ,aa,hb,aj,if_true]
   exact hK _
  | false =>
   have hT:oz L d:=by
    unfold nh xS at hb
    simp only [Bool.or_eq_false_iff,List.drop_zero] at hb
    have hl:L.length≤40:=by
     have h2:=hb.2
     by_cases h:40<L.length
     ·rw [if_pos h,if_pos hN] at h2; cases h2
     ·omega
    refine ⟨hl,hB,fun n hn=>xY.of ?_⟩
    have:=List.any_eq_false.1 hb.1 n (by rw [List.take_of_length_le (by omega)]; exact hn)
    simpa using this
   refine .inr ⟨d,hT,fun H=>t0 (fun K hK=>h_.run (au (uT L _) (au (hg _) ?_))) (by simp [aU,bS]) ?_ H⟩
   ·simp only [nc,List.getElem?_cons_zero,List.getElem?_cons_succ,aa,hb,aj,jA,decide_true,Bool.not_true,Bool.false_eq_true,if_false]
    refine au (rJ hB hW hN _) ?_
    simp only [nc,List.getElem?_cons_zero,List.getElem?_cons_succ,aa]
    exact hK _
   ·simp [bS,aU,cb,xN]
end Go.Proofs.YthmaggcfghjmfaaGreat.Ev
namespace Go.Proofs.YthmaggcfghjmfaaGreat.Ev
set_option linter.unusedVariables false
set_option linter.unusedSimpArgs false
variable {σ:Sig}
def mz (c:Int):Bool:=decide (0≤c)&&(decide (c≤1114111)&&(decide (c<55296)||decide (57343<c)))
def qC (c:Int):Bool:=decide (c=9)||(decide (c=10)||decide (c=32))
def oV (c:Int):Bool:=decide (48≤c)&&decide (c≤57)
def nsB (c:Int):Bool:=(decide (97≤c)&&decide (c≤122))||((decide (65≤c)&&decide (c≤90))||(decide (c=95)||decide (128≤c)))
def npB (c:Int):Bool:=nsB c||(oV c||decide (c=45))
def uj (c:Int):Int:=if 48≤c∧c≤57 then c - 48 else if 97≤c∧c≤102 then c - 87 else if 65≤c∧c≤70 then c - 55 else -1
theorem mN (c:Int) (H:Hp):aE Tryz.prog σ eM [I c] H (Bo (mz c)) H:=by
 refine bO (fun K hK=>mi.run ?_) rfl rfl H
 unfold mz at hK
 simp only [iF,oE,ca,eQ,aa,aj,decide_eq_true_eq]
 by_cases h1:0≤c<;>by_cases h2:c≤1114111<;>by_cases h3:c<55296<;>simp [h1,h2,h3] at hK ⊢<;>exact hK _
theorem nF (c:Int) (H:Hp):aE Tryz.prog σ dn [I c] H (Bo (qC c)) H:=by
 refine bO (fun K hK=>mt.run ?_) rfl rfl H
 unfold qC at hK
 simp only [bZ,aa,aj,decide_eq_true_eq]
 by_cases h1:c=9
 ·simp [h1] at hK ⊢; exact hK _
 ·by_cases h2:c=10
  ·simp [h2] at hK ⊢; exact hK _
  ·simp [h1,h2] at hK ⊢; exact hK _
theorem ij (c:Int) (H:Hp):aE Tryz.prog σ cS [I c] H (Bo (oV c)) H:=by
 refine bO (fun K hK=>ml.run ?_) rfl rfl H
 unfold oV at hK
 simp only [iF,oE,aa,aj,decide_eq_true_eq]
 by_cases h1:48≤c<;>simp [h1] at hK ⊢<;>exact hK _
theorem ko (c:Int) (H:Hp):aE Tryz.prog σ dR [I c] H (Bo (nsB c)) H:=by
 refine bO (fun K hK=>je.run ?_) rfl rfl H
 unfold nsB at hK
 simp only [iF,oE,bZ,aa,aj,decide_eq_true_eq]
 by_cases h1:97≤c<;>by_cases h2:c≤122<;>by_cases h3:65≤c<;>by_cases h4:c≤90<;>by_cases h5:c=95<;>simp [h1,h2,h3,h4,h5] at hK ⊢<;>first | exact hK _ | omega
theorem mI (c:Int) (H:Hp):aE Tryz.prog σ c6 [I c] H (Bo (npB c)) H:=by
 refine bO (fun K hK=>iX.run (au (ko c _) ?_)) rfl rfl H
 unfold npB at hK
 simp only [aj]
 cases h1:nsB c with
 | true=>rw [h1] at hK; simpa using hK _
 | false =>
  rw [h1] at hK
  simp only [Bool.false_eq_true,if_false]
  refine au (ij c _) ?_
  simp only [aj]
  cases h2:oV c with
  | true=>rw [h2] at hK; simpa using hK _
  | false =>
   rw [h2] at hK
   simpa using hK _
theorem uR (c:Int) (H:Hp):aE Tryz.prog σ gW [I c] H (I (uj c)) H:=by
 refine bO (fun K hK=>pb.run ?_) rfl rfl H
 simp only [iF,oE,kL,cx,aa,aj,decide_eq_true_eq]
 have h:∀ (n:Int) (H:Hp),n=uj c→K (I n) H:=fun n H e=>e ▸ hK H
 unfold uj at h
 repeat' split
 all_goals
  refine h _ _ ?_
  try rw [show wr .i64 (c - 97)=c - 97 from fw (by omega) (by omega)]
  try rw [show wr .i64 (c - 65)=c - 65 from fw (by omega) (by omega)]
  try rw [fw (by omega) (by omega)]
  repeat' split
  all_goals omega
def yv (c:Int):Int:=if c=58 then 11 else if c=59 then 12 else if c=44 then 13 else if c=123 then 14 else if c=125 then 15 else if c=40 then 16 else if c=41 then 17 else if c=91 then 18 else if c=93 then 19 else 0
theorem wt (c:Int) (H:Hp):aE Tryz.prog σ aZ [I c] H (I (yv c)) H:=by
 refine bO (fun K hK=>nJ.run ?_) rfl rfl H
 simp only [bZ,aa,aj,decide_eq_true_eq]
 have h:∀ (n:Int) (H:Hp),n=yv c→K (I n) H:=fun n H e=>e ▸ hK H
 unfold yv at h
 repeat' split
 all_goals
  refine h _ _ ?_
  simp [*]
theorem G0 (c:Int):-1≤uj c∧uj c≤15∧(0≤uj c→0≤c):=by
 unfold uj
 repeat' split
 all_goals omega
theorem Gu {c:Int} (h:npB c=true):0≤c:=by
 unfold npB nsB oV at h
 simp only [Bool.or_eq_true,Bool.and_eq_true,decide_eq_true_eq] at h
 omega
theorem wm {c:Int} (h:oV c=true):0≤c:=by
 unfold oV at h
 simp only [Bool.and_eq_true,decide_eq_true_eq] at h
 omega
theorem rE {c:Int} (h:qC c=true):0≤c:=by
 unfold qC at h
 simp only [Bool.or_eq_true,decide_eq_true_eq] at h
 omega
def zrw (n:Int):List AV:=[I n]
def zs (l:List Int):AV:=.imm 1 (l.map zrw)
theorem EM (l:List Int):bS (zs l)=true:=by unfold zs; simp only [bS]; exact ba _ (fun _=>rfl) l
theorem su (l:List Int):a8 (zs l)=some (I (l.length:Int)):=by simp [zs]
def ct (l:List Int) (i:Nat):Int:=match l[i]? with
 | none=>-1
 | some c=>if mz c then c else 65533
theorem xy {c:Int} (h:mz c=true):0≤c:=by
 unfold mz at h
 simp only [Bool.and_eq_true,decide_eq_true_eq] at h
 exact h.1
theorem fF (l:List Int) (i:Nat):-1≤ct l i∧(0≤ct l i ↔ i<l.length):=by
 unfold ct
 split
 ·rename_i h
  have:=List.getElem?_eq_none_iff.1 h
  omega
 ·rename_i c h
  obtain ⟨hlt,_⟩:=List.getElem?_eq_some_iff.1 h
  split
  ·rename_i hr
   have:=xy hr
   omega
  ·omega
def Rd (b:Nat) (l:List Int) (a:Nat) (H:Hp):Prop:=H.get b=some (.cells [zs l,I (a:Int)] true)
structure Kpb (b:Nat) (H H':Hp):Prop where
 n:H.n≤H'.n
 g:∀ j,j<H.n→j≠b→H'.get j=H.get j
theorem Kpb.refl {b:Nat} {H:Hp}:Kpb b H H:=⟨Nat.le_refl _,fun _ _ _=>rfl⟩
theorem Kpb.trans {b:Nat} {H H1 H2:Hp} (h:Kpb b H H1) (h':Kpb b H1 H2):Kpb b H H2:=⟨Nat.le_trans h.n h'.n,fun j hj hb=>(h'.g j (Nat.lt_of_lt_of_le hj h.n) hb).trans (h.g j hj hb)⟩
theorem Rd.l0 {b a:Nat} {l:List Int} {H:Hp} (h:Rd b l a H):ldA false 1 H (.ptr b (0+0))=some (zs l):=by rw [bq,h]; rfl
theorem Rd.l1 {b a:Nat} {l:List Int} {H:Hp} (h:Rd b l a H):ldA false 1 H (.ptr b (0+1))=some (I (a:Int)):=by rw [bq,h]; rfl
theorem cg {b a:Nat} {l:List Int} {H:Hp} {K:AV→Hp→Prop} {k:Int} (n:Nat) (hk:k=(n:Int)) (h:Rd b l a H) (hn:a+n<4000000000) (hK:K (I (ct l (a+n))) H):ai Tryz.prog σ ak [.ptr b 0,I k] H K:=by
 subst hk
 refine ir.run ?_
 have e:wr .i64 ((a:Int)+(n:Int))=((a+n:Nat):Int):=by rw [fw (by omega) (by omega)]; omega
 simp only [fG,bx,aa,h.l0,h.l1,cx,e,su,iF,aj,decide_eq_true_eq]
 unfold ct at hK
 by_cases hi:(l.length:Int)≤((a+n:Nat):Int)
 ·rw [if_pos hi]
  rw [List.getElem?_eq_none (by omega)] at hK
  exact hK
 ·rw [if_neg hi]
  obtain ⟨c,hc⟩:=ce (show a+n<l.length by omega)
  rw [hc] at hK
  have hK:K (I (if mz c=true then c else 65533)) H:=hK
  have hix:aR 1 (zs l) (I ((a+n:Nat):Int))=some (.ip (zrw c)):=cd hc
  have lc:ldA false 1 H (.ip (zrw c))=some (I c):=rfl
  simp only [hix,lc,aa]
  refine au (mN c H) ?_
  simp only [eS,aa,aj]
  cases hr:mz c with
  | true=>rw [hr] at hK; simpa using hK
  | false=>rw [hr] at hK; simpa using hK
theorem kW {b a:Nat} {l:List Int} {H:Hp} {K:Hp→Prop} {k:Int} (m:Nat) (hk:k=(m:Int)) (h:Rd b l a H) (hm:a+m<4000000000) (hK:∀ H',Rd b l (a+m) H'→Kpb b H H'→H'.n=H.n→K H') :
  bnd (aq (.ptr b 0)) fun x1=>bnd (ae x1 1) fun x2=>bnd (ldA false 1 H x2) fun x3=>bnd (af .add x3 (I k)) fun x4=>bnd (aq (.ptr b 0)) fun x5=>bnd (ae x5 1) fun x6=>bnd (stA 1 H x6 x4) K:=by
 subst hk
 have e:wr .i64 ((a:Int)+(m:Int))=((a+m:Nat):Int):=by rw [fw (by omega) (by omega)]; omega
 have s:stA 1 H (.ptr b (0+1)) (I ((a+m:Nat):Int))=some (H.set b (some (.cells [zs l,I ((a+m:Nat):Int)] true))):=iz h rfl rfl rfl (by simp)
 simp only [fG,bx,aa,h.l1,cx,e,s]
 refine hK _ (by unfold Rd; rw [aw,if_pos rfl]) ⟨by simp,fun j _ hj=>by rw [aw,if_neg hj]⟩ (by simp)
def sI (l:List Int) (i:Nat):Bool:=decide (ct l i=92)&&(decide (0≤ct l (i+1))&&!decide (ct l (i+1)=10))
theorem IM {l:List Int} {i:Nat} (h:sI l i=true):i+2≤l.length:=by
 unfold sI at h
 simp only [Bool.and_eq_true,decide_eq_true_eq] at h
 have:=(fF l (i+1)).2.1 h.2.1
 omega
theorem lP {b a:Nat} {l:List Int} {H:Hp} {K:AV→Hp→Prop} {k:Int} (n:Nat) (hk:k=(n:Int)) (h:Rd b l a H) (hn:a+n<3000000000) (hK:K (Bo (sI l (a+n))) H):ai Tryz.prog σ bV [.ptr b 0,I k] H K:=by
 subst hk
 refine fW.run ?_
 refine cg n rfl h (by omega) ?_
 unfold sI at hK
 have e:wr .i64 ((n:Int)+1)=((n+1:Nat):Int):=ci (by omega)
 simp only [bZ,aa,aj,decide_eq_true_eq]
 by_cases h1:ct l (a+n)=92
 ·rw [if_pos h1]
  rw [cx,aa,e]
  refine cg (n+1) rfl h (by omega) ?_
  simp only [iF,aa,aj,decide_eq_true_eq]
  by_cases h2:0≤ct l (a+(n+1))
  ·rw [if_pos h2]
   try rw [cx,aa,e]
   refine cg (n+1) rfl h (by omega) ?_
   rw [jA,aa]
   have e2:a+n+1=a+(n+1):=by omega
   rw [e2] at hK
   simpa [h1,h2] using hK
  ·rw [if_neg h2]
   have e2:a+n+1=a+(n+1):=by omega
   rw [e2] at hK
   simpa [h1,h2] using hK
 ·rw [if_neg h1]
  simpa [h1] using hK
def qK (l:List Int) (i:Nat):Bool:=if ct l i=45 then nsB (ct l (i+1))||(decide (ct l (i+1)=45)||sI l (i+1)) else nsB (ct l i)||sI l i
theorem G5 {l:List Int} {i:Nat} (h:qK l i=true):npB (ct l i)=true∨sI l i=true:=by
 unfold qK at h
 split at h
 ·rename_i e
  left
  rw [e]; rfl
 ·rw [Bool.or_eq_true] at h
  rcases h with h | h
  ·left; unfold npB; rw [h]; rfl
  ·exact .inr h
theorem nU {b a:Nat} {l:List Int} {H:Hp} {K:AV→Hp→Prop} {k:Int} (n:Nat) (hk:k=(n:Int)) (h:Rd b l a H) (hn:a+n<2000000000) (hK:K (Bo (qK l (a+n))) H):ai Tryz.prog σ bt [.ptr b 0,I k] H K:=by
 subst hk
 refine fU.run ?_
 refine cg n rfl h (by omega) ?_
 unfold qK at hK
 have e:wr .i64 ((n:Int)+1)=((n+1:Nat):Int):=ci (by omega)
 have e2:a+n+1=a+(n+1):=by omega
 rw [e2] at hK
 simp only [bZ,aa,aj,decide_eq_true_eq]
 by_cases h1:ct l (a+n)=45
 ·rw [if_pos h1] at hK ⊢
  rw [cx,aa,e]
  refine cg (n+1) rfl h (by omega) (au (ko _ H) ?_)
  rw [aj]
  cases h2:nsB (ct l (a+(n+1))) with
  | true=>rw [h2] at hK; simpa using hK
  | false =>
   rw [h2] at hK
   simp only [Bool.false_eq_true,if_false,cx,aa,e]
   refine cg (n+1) rfl h (by omega) ?_
   simp only [bZ,aa,aj,decide_eq_true_eq]
   by_cases h3:ct l (a+(n+1))=45
   ·rw [if_pos h3]
    simpa [h3] using hK
   ·rw [if_neg h3]
    try rw [cx,aa,e]
    refine lP (n+1) rfl h (by omega) ?_
    simpa [h3] using hK
 ·rw [if_neg h1] at hK ⊢
  refine au (ko _ H) ?_
  rw [aj]
  cases h2:nsB (ct l (a+n)) with
  | true=>rw [h2] at hK; simpa using hK
  | false =>
   rw [h2] at hK
   simp only [Bool.false_eq_true,if_false]
   refine lP n rfl h (by omega) ?_
   simpa using hK
def uz (l:List Int) (i:Nat):Bool:=oV (ct l i)||(decide (ct l i=46)&&oV (ct l (i+1)))
def vd (l:List Int) (a:Nat):Bool:=if ct l a=43∨ct l a=45 then uz l (a+1) else uz l a
theorem xl {b a:Nat} {l:List Int} {H:Hp} {K:AV→Hp→Prop} (h:Rd b l a H) (hn:a<2000000000) (hK:K (Bo (vd l a)) H):ai Tryz.prog σ d6 [.ptr b 0] H K:=by
 refine bL.run ?_
 have J0:∀ (n:Nat),n≤1→K (Bo (uz l (a+n))) H→bL.J0 σ K (.ptr b 0) (I (n:Int)) H:=by
  intro n hn1 hK
  refine bL.J0_step ?_
  refine cg n rfl h (by omega) (au (ij _ H) ?_)
  unfold uz at hK
  have e:wr .i64 ((n:Int)+1)=((n+1:Nat):Int):=ci (by omega)
  have e2:a+n+1=a+(n+1):=by omega
  rw [e2] at hK
  rw [aj]
  cases h2:oV (ct l (a+n)) with
  | true=>rw [h2] at hK; simpa using hK
  | false =>
   rw [h2] at hK
   simp only [Bool.false_eq_true,if_false]
   refine cg n rfl h (by omega) ?_
   simp only [bZ,aa,aj,decide_eq_true_eq]
   by_cases h3:ct l (a+n)=46
   ·rw [if_pos h3,cx,aa,e]
    refine cg (n+1) rfl h (by omega) (au (ij _ H) ?_)
    simpa [h3] using hK
   ·rw [if_neg h3]
    simpa [h3] using hK
 refine cg 0 rfl h (by omega) ?_
 unfold vd at hK
 simp only [bZ,aa,aj,decide_eq_true_eq,Nat.add_zero]
 by_cases h1:ct l a=43
 ·rw [if_pos h1]
  rw [if_pos (.inl h1)] at hK
  exact J0 1 (by omega) hK
 ·rw [if_neg h1]
  refine cg 0 rfl h (by omega) ?_
  simp only [bZ,aa,aj,decide_eq_true_eq,Nat.add_zero]
  by_cases h2:ct l a=45
  ·rw [if_pos h2]
   rw [if_pos (.inr h2)] at hK
   exact J0 1 (by omega) hK
  ·rw [if_neg h2]
   rw [if_neg (by omega)] at hK
   exact J0 0 (by omega) hK
section
attribute [local irreducible] aC.L0 aC.J1
theorem pk {b a:Nat} {l:List Int} {H:Hp} {K:AV→Hp→Prop} (h:Rd b l a H) (ha:a+2≤l.length) (hl:l.length≤1000000) (hK:∀ (c:Int) (a':Nat) (H':Hp),Rd b l a' H'→Kpb b H H'→H'.n=H.n→a<a'→a'≤l.length→K (I c) H'):ai Tryz.prog σ bT [.ptr b 0] H K:=by
 refine aC.run ?_
 refine kW 1 rfl h (by omega) fun H1 h1 k1 n1=>?_
 refine cg 0 rfl h1 (by omega) (au (uR _ H1) ?_)
 simp only [ca,aa,aj,decide_eq_true_eq]
 by_cases hx:uj (ct l (a+1+0))<0
 ·rw [if_pos hx]
  refine kW 1 rfl h1 (by omega) fun H2 h2 k2 n2=>?_
  exact hK _ (a+1+1) H2 h2 (k1.trans k2) (by omega) (by omega) (by omega)
 ·rw [if_neg hx]
  have J1:∀ (n k:Int) (a1:Nat) (H2:Hp),Rd b l a1 H2→Kpb b H H2→H2.n=H.n→a<a1→a1≤l.length→aC.J1 σ K (.ptr b 0) (I n) (I k) H2:=by
   intro n k a1 H2 h2 k2 n2 g1 g2
   refine aC.J1_step ?_
   simp only [bZ,aa,aj,decide_eq_true_eq]
   split
   ·exact hK _ a1 H2 h2 k2 n2 g1 g2
   ·refine au (mN n H2) ?_
    simp only [eS,aa,aj]
    split<;>exact hK _ a1 H2 h2 k2 n2 g1 g2
  have W:∀ (n k:Int) (a1:Nat) (H2:Hp),Rd b l a1 H2→Kpb b H H2→H2.n=H.n→a<a1→a1≤l.length→ai Tryz.prog σ ak [.ptr b 0,I 0] H2 fun x32 H33=>ai Tryz.prog σ dn [x32] H33 fun x34 H35=>ifB x34 (bnd (aq (.ptr b 0)) fun x36=>bnd (ae x36 1) fun x37=>bnd (ldA false 1 H35 x37) fun x38=>bnd (af .add x38 (I 1)) fun x39=>bnd (aq (.ptr b 0)) fun x40=>bnd (ae x40 1) fun x41=>bnd (stA 1 H35 x41 x39) fun H42=>aC.J1 σ K (.ptr b 0) (I n) (I k) H42) (aC.J1 σ K (.ptr b 0) (I n) (I k) H35):=by
   intro n k a1 H2 h2 k2 n2 g1 g2
   refine cg 0 rfl h2 (by omega) (au (nF _ H2) ?_)
   rw [aj]
   split
   ·rename_i hw
    have:=(fF l (a1+0)).2.1 (rE hw)
    refine kW 1 rfl h2 (by omega) fun H3 h3 k3 n3=>?_
    exact J1 n k (a1+1) H3 h3 (k2.trans k3) (by omega) (by omega) (by omega)
   ·exact J1 n k a1 H2 h2 k2 n2 g1 g2
  have L0:∀ (f:Nat) (n:Int) (k a1:Nat) (H2:Hp),6 - k=f→k≤6→Rd b l a1 H2→Kpb b H H2→H2.n=H.n→a<a1→a1≤l.length→aC.L0 σ K (.ptr b 0) (I n) (I (k:Int)) H2:=by
   intro f
   induction f with
   | zero =>
    intro n k a1 H2 hf hk h2 k2 n2 g1 g2
    have:¬ ((k:Int)<6):=by omega
    refine aC.L0_step ?_
    simp only [ca,aa,this,decide_false,aj,Bool.false_eq_true,if_false]
    exact W n k a1 H2 h2 k2 n2 g1 g2
   | succ f ih =>
    intro n k a1 H2 hf hk h2 k2 n2 g1 g2
    have:(k:Int)<6:=by omega
    refine aC.L0_step ?_
    simp only [ca,aa,this,decide_true,aj,if_true]
    refine cg 0 rfl h2 (by omega) (au (uR _ H2) ?_)
    simp only [iF,aa,aj,decide_eq_true_eq]
    split
    ·rename_i hx
     have hlt:=(fF l (a1+0)).2.1 ((G0 _).2.2 hx)
     rw [pY,aa]
     refine cg 0 rfl h2 (by omega) (au (uR _ H2) ?_)
     rw [cx,aa]
     refine kW 1 rfl h2 (by omega) fun H3 h3 k3 n3=>?_
     rw [cx,aa,ci (by omega)]
     exact ih _ (k+1) (a1+1) H3 (by omega) (by omega) h3 (k2.trans k3) (by omega) (by omega) (by omega)
    ·exact W n k a1 H2 h2 k2 n2 g1 g2
  exact L0 _ 0 0 (a+1) H1 rfl (by omega) h1 k1 n1 (by omega) (by omega)
end
def B8 (l:List UInt8):List (List AV):=l.map fun c=>[dq c]
theorem nz:∀ l:List UInt8,(B8 l).flatten=l.map dq
 | []=>rfl
 | c::l=>by
  have:=nz l
  unfold B8 at this ⊢
  rw [List.map_cons,List.flatten_cons,this]; rfl
theorem iq (l:List UInt8):(B8 l).length=l.length:=by unfold B8; rw [List.length_map]
theorem sT {H:Hp} {x:AV} {l:List UInt8} (h:Gs 1 H x (B8 l)):e_ H x=some (Sx ⟨l.toArray⟩):=by
 generalize hr:B8 l=rows at h
 cases h with
 | nil =>
  cases l with
  | nil=>rfl
  | cons c l=>cases hr
 | sl hlt hg hsz =>
  subst hr
  rw [nz] at hg
  rename_i id ex
  simp only [e_,gS,hg,iq]
  have e:List.take l.length (l.map dq)=l.map dq:=by
   have:=List.take_length (l:=l.map dq)
   rwa [List.length_map] at this
  simp only [List.drop_zero,Nat.mul_one,iI,e,List.length_map,decide_true,Bool.and_self,cond_true,qo,md]
  rfl
def u8 (v:Int):UInt8:=UInt8.ofNat (wr .u8 v).toNat
theorem GP (n:Int):0≤wr .u8 n∧wr .u8 n≤255:=by
 rw [mF]
 simp only [IntKind.wrap,IntKind.bits,IntKind.signed]
 simp
 omega
theorem cv8 (v:Int):ee .u8 (I v)=some (dq (u8 v)):=by
 show some (AV.lit (.int .u8 (wr .u8 v)))=_
 have:=GP v
 unfold dq u8
 rw [UInt8.toNat_ofNat_of_lt' (by show _<256; omega)]
 congr 3
 omega
theorem jS {H:Hp} {x:AV} {l bs:List UInt8} (hx:Gs 1 H x (B8 l)) (hn:l.length≤1000000) (hb:bs.length≤10) {n:Nat} (hnl:n=bs.length) {K:AV × Hp→Prop} (hK:∀ x' H',Gs 1 H' x' (B8 (l++bs))→Fr H x H' x'→K (x',H')) :
  bnd (aW false 1 1 (H.new (.cells (bs.map dq) true)) x (.sl H.n 0 1 n (some n))) K:=by
 subst hnl
 have hk:Gs 1 (H.new (.cells (bs.map dq) true)) x (B8 l):=by
  refine hx.keep (fun j hj=>?_) (by simp)
  have:j≠H.n:=by have:=hx.lt hj; omega
  simp [this]
 have e:List.take bs.length (bs.map dq)=bs.map dq:=by
  have:=List.take_length (l:=bs.map dq)
  rwa [List.length_map] at this
 refine mO (rows2:=B8 bs) hk rfl ?_ (fun row hr=>?_) ?_ (by rw [iq,iq]; omega) (by rw [iq,iq]; omega) fun x' H' g' fr=>hK x' H' ?_ ⟨fun j hj ho=>?_,?_,fun j hj=>?_⟩
 ·rw [nz,iq]
  simp [gS,iI,e]
 ·obtain ⟨c,_,rfl⟩:=List.mem_map.1 hr
  rfl
 ·rw [nz]; exact qo bs
 ·unfold B8 at g' ⊢; rw [List.map_append]; exact g'
 ·have hne:j≠H.n:=by omega
  rw [fr.same j (by simp; omega) ho]
  simp [hne]
 ·have:=fr.grow; simp at this; omega
 ·rcases fr.mine j hj with h | ⟨h1,h2⟩
  ·exact .inl h
  ·simp at h1; exact .inr ⟨by omega,h2⟩
section
attribute [local irreducible] eP.J0
theorem EF {H:Hp} {x:AV} {l:List UInt8} (hx:Gs 1 H x (B8 l)) (hn:l.length≤1000000) (c:Int) {K:AV→Hp→Prop} (hK:∀ x' H' bs,Gs 1 H' x' (B8 (l++bs))→bs.length≤4→Fr H x H' x'→K x' H'):ai Tryz.prog σ bX [x,I c] H K:=by
 have sh:∀ (v:Int) (k:Nat),∃ w,af .shr (I v) (.lit (.int .u64 (k:Int)))=some (I w):=fun v k=>⟨_,by simp [af,lit?,eT]; rfl⟩
 have an:∀ v w:Int,∃ z,af .and (I v) (I w)=some (I z):=fun v w=>⟨_,by simp [af,lit?,eT]; rfl⟩
 have or':∀ v w:Int,∃ z,af .or (I v) (I w)=some (I z):=fun v w=>⟨_,by simp [af,lit?,eT]; rfl⟩
 have J0:∀ c:Int,eP.J0 σ K x (I c) H:=by
  intro c
  refine eP.J0_step ?_
  obtain ⟨a6,ha6⟩:=sh c 6
  obtain ⟨a12,ha12⟩:=sh c 12
  obtain ⟨a18,ha18⟩:=sh c 18
  obtain ⟨m6,hm6⟩:=an a6 63
  obtain ⟨m12,hm12⟩:=an a12 63
  obtain ⟨m0,hm0⟩:=an c 63
  obtain ⟨o6,ho6⟩:=or' 192 a6
  obtain ⟨o12,ho12⟩:=or' 224 a12
  obtain ⟨o18,ho18⟩:=or' 240 a18
  obtain ⟨q6,hq6⟩:=or' 128 m6
  obtain ⟨q12,hq12⟩:=or' 128 m12
  obtain ⟨q0,hq0⟩:=or' 128 m0
  have ha6:af .shr (I c) (.lit (.int .u64 6))=some (I a6):=ha6
  have ha12:af .shr (I c) (.lit (.int .u64 12))=some (I a12):=ha12
  have ha18:af .shr (I c) (.lit (.int .u64 18))=some (I a18):=ha18
  simp only [ca,aa,aj,decide_eq_true_eq,ha6,ha12,ha18,hm6,hm12,hm0,ho6,ho12,ho18,hq6,hq12,hq0,cv8]
  split
  ·have eb:ar [.int .u8 0] 1 1 H [(0,1,dq (u8 c))]=some (.sl H.n 0 1 1 (some 1),H.new (.cells ([u8 c].map dq) true)):=rfl
   rw [eb,aa]
   exact jS (bs:=[u8 c]) hx hn (by simp) rfl fun x' H' g f=>hK x' H' _ g (by simp) f
  ·split
   ·have eb:ar [.int .u8 0] 1 2 H [(0,1,dq (u8 o6)),(1,1,dq (u8 q0))]=some (.sl H.n 0 1 2 (some 2),H.new (.cells ([u8 o6,u8 q0].map dq) true)):=rfl
    rw [eb,aa]
    exact jS (bs:=[u8 o6,u8 q0]) hx hn (by simp) rfl fun x' H' g f=>hK x' H' _ g (by simp) f
   ·split
    ·have eb:ar [.int .u8 0] 1 3 H [(0,1,dq (u8 o12)),(1,1,dq (u8 q6)),(2,1,dq (u8 q0))]=some (.sl H.n 0 1 3 (some 3),H.new (.cells ([u8 o12,u8 q6,u8 q0].map dq) true)):=rfl
     rw [eb,aa]
     exact jS (bs:=[u8 o12,u8 q6,u8 q0]) hx hn (by simp) rfl fun x' H' g f=>hK x' H' _ g (by simp) f
    ·have eb:ar [.int .u8 0] 1 4 H [(0,1,dq (u8 o18)),(1,1,dq (u8 q12)),(2,1,dq (u8 q6)),(3,1,dq (u8 q0))]=some (.sl H.n 0 1 4 (some 4),H.new (.cells ([u8 o18,u8 q12,u8 q6,u8 q0].map dq) true)):=rfl
     rw [eb,aa]
     exact jS (bs:=[u8 o18,u8 q12,u8 q6,u8 q0]) hx hn (by simp) rfl fun x' H' g f=>hK x' H' _ g (by simp) f
 refine eP.run ?_
 refine au (mN c H) ?_
 simp only [eS,aa,aj]
 split
 ·exact J0 _
 ·exact J0 _
end
end Go.Proofs.YthmaggcfghjmfaaGreat.Ev
namespace Go.Proofs.YthmaggcfghjmfaaGreat.Ev
set_option linter.unusedVariables false
set_option linter.unusedSimpArgs false
variable {σ:Sig}
structure BW (b:Nat) (l:List Int) (H0:Hp) (a:Nat) (x:AV) (bs:List UInt8) (H:Hp):Prop where
 rd:Rd b l a H
 kp:Kpb b H0 H
 gs:Gs 1 H x (B8 bs)
 ow:∀ j,own x j→H0.n≤j
theorem BW.ob {b a:Nat} {l:List Int} {H0 H:Hp} {x:AV} {bs:List UInt8} (h:BW b l H0 a x bs H) (hb:b<H0.n) {j:Nat} (hj:own x j):j≠b:=by
 have:=h.ow j hj; omega
theorem BW.put {b a:Nat} {l:List Int} {H0 H:Hp} {x:AV} {bs:List UInt8} (h:BW b l H0 a x bs H) (hb:b<H0.n) (hn:bs.length≤1000000) {c:Int} {K:AV→Hp→Prop} (hK:∀ x' H' bs',BW b l H0 a x' (bs++bs') H'→bs'.length≤4→K x' H'):ai Tryz.prog σ bX [x,I c] H K:=by
 refine EF h.gs hn c fun x' H' bs' g hl fr=>hK x' H' bs' ⟨?_,⟨?_,fun j hj hjb=>?_⟩,g,fun j hj=>?_⟩ hl
 ·unfold Rd
  rw [fr.same b (by have:=h.kp.n; omega) fun ho=>h.ob hb ho rfl]
  exact h.rd
 ·have:=h.kp.n; have:=fr.grow; omega
 ·rw [fr.same j (by have:=h.kp.n; omega) fun ho=>by have:=h.ow j ho; omega]
  exact h.kp.g j hj hjb
 ·rcases fr.mine j hj with h1 | ⟨h1,_⟩
  ·exact h.ow j h1
  ·have:=h.kp.n; omega
theorem BW.to {b a a':Nat} {l:List Int} {H0 H H':Hp} {x:AV} {bs:List UInt8} (h:BW b l H0 a x bs H) (hb:b<H0.n) (hr:Rd b l a' H') (hk:Kpb b H H'):BW b l H0 a' x bs H' :=
 ⟨hr,h.kp.trans hk,h.gs.keep (fun j hj=>hk.g j (h.gs.lt hj) (h.ob hb hj)) hk.n,h.ow⟩
theorem BW.adv {b a:Nat} {l:List Int} {H0 H:Hp} {x:AV} {bs:List UInt8} (h:BW b l H0 a x bs H) (hb:b<H0.n) {K:Hp→Prop} {k:Int} (m:Nat) (hk:k=(m:Int)) (hm:a+m<4000000000) (hK:∀ H',BW b l H0 (a+m) x bs H'→K H') :
  bnd (aq (.ptr b 0)) fun x1=>bnd (ae x1 1) fun x2=>bnd (ldA false 1 H x2) fun x3=>bnd (af .add x3 (I k)) fun x4=>bnd (aq (.ptr b 0)) fun x5=>bnd (ae x5 1) fun x6=>bnd (stA 1 H x6 x4) K :=
 kW m hk h.rd hm fun H' h1 h2 _=>hK H' (h.to hb h1 h2)
section
attribute [local irreducible] bR.L0
theorem oW {b a:Nat} {l:List Int} {H:Hp} {K:AV→Hp→Prop} (h:Rd b l a H) (hb:b<H.n) (hl:l.length≤200) (ha:a≤l.length+4)
  (hK:∀ (s:ByteArray) (a':Nat) (H':Hp),Rd b l a' H'→Kpb b H H'→a≤a'→(a'≤l.length∨a'=a)→s.data.size≤900→((npB (ct l a)=true∨sI l a=true)→a<a')→K (Sx s) H'):ai Tryz.prog σ az [.ptr b 0] H K:=by
 refine bR.run ?_
 have L0:∀ (f a1:Nat) (H1:Hp) (y3:AV) (bs:List UInt8),l.length+5 - a1≤f→a≤a1→(a1≤l.length∨a1=a)→BW b l H a1 y3 bs H1→bs.length≤4*a1→bR.L0 σ K (.ptr b 0) (.lit (.string ⟨#[]⟩)) y3 H1:=by
  intro f
  induction f with
  | zero=>intro a1 H1 y3 bs hf h1 h2 hB hlen; omega
  | succ f ih =>
   intro a1 H1 y3 bs hf h1 h2 hB hlen
   refine bR.L0_step ?_
   refine cg 0 rfl hB.rd (by omega) (au (mI _ H1) ?_)
   rw [aj,Nat.add_zero]
   cases hn:npB (ct l a1) with
   | true =>
    have hlt:=(fF l a1).2.1 (Gu hn)
    simp only [if_true]
    refine hB.put hb (by omega) fun x' H2 bs' hB2 hb4=>?_
    refine hB2.adv hb 1 rfl (by omega) fun H3 hB3=>?_
    exact ih (a1+1) H3 x' _ (by omega) (by omega) (.inl (by omega)) hB3 (by rw [List.length_append]; omega)
   | false =>
    simp only [Bool.false_eq_true,if_false]
    refine lP 0 rfl hB.rd (by omega) ?_
    rw [aj,Nat.add_zero]
    cases he:sI l a1 with
    | true =>
     simp only [if_true]
     refine pk hB.rd (IM he) (by omega) fun c a' H2 hr k2 _ hlt hle=>?_
     refine (hB.to hb hr k2).put hb (by omega) fun x' H3 bs' hB3 hb4=>?_
     exact ih a' H3 x' _ (by omega) (by omega) (.inl hle) hB3 (by rw [List.length_append]; omega)
    | false =>
     simp only [Bool.false_eq_true,if_false,sT hB.gs,aa]
     refine hK _ a1 H1 hB.rd hB.kp h1 h2 (by simp; omega) fun hc=>?_
     rcases Nat.lt_or_ge a a1 with h | h
     ·exact h
     ·have:a1=a:=by omega
      subst this
      rw [hn,he] at hc
      rcases hc with hc | hc<;>cases hc
 exact L0 _ a H _ [] (Nat.le_refl _) (Nat.le_refl _) (.inr rfl) ⟨h,.refl,.nil,fun j hj=>hj.elim⟩ (by simp)
end
structure Tn where
 kind:Int
 text:ByteArray
 n:Int
 whole:Bool
 c:Int
def bJ (t:Tn):List AV:=[I t.kind,Sx t.text,I t.n,Bo t.whole,I t.c]
structure iw (t:Tn):Prop where
 text:t.text.data.size≤900
 n:-2147483647≤t.n∧t.n≤2147483647
theorem vM {H:Hp} {r:Nat} {cs:List AV} {t:Tn} {K:AV→Hp→Prop} (hg:H.get r=some (.cells cs true)) (hl:cs.length=5) (hK:∀ H',H'.n=H.n→(∀ j,j≠r→H'.get j=H.get j)→K (.agg (bJ t)) H') :
  bnd (stA 5 H (.ptr r 0) (.agg (bJ t))) fun H6=>bnd (ldA true 5 H6 (.ptr r 0)) fun r7=>K r7 H6:=by
 have s:stA 5 H (.ptr r 0) (.agg (bJ t))=some (H.set r (some (.cells (bJ t) true))):=by
  rw [fV,hg,if_pos (show (bJ t).length=5 from rfl),cw,if_pos ⟨by rw [hl]; show 0+5≤5; omega,rfl⟩,aQ (by rw [hl]; rfl)]
 have l2:ldA true 5 (H.set r (some (.cells (bJ t) true))) (.ptr r 0)=some (.agg (bJ t)):=by
  rw [bq,aw,if_pos rfl,bo,List.drop_zero,cQ (show (bJ t).length=5 from rfl)]
 rw [s,aa,l2,aa]
 exact hK _ (by simp) fun j hj=>by rw [aw,if_neg hj]
def zTn:List AV:=[I 0,.lit (.string ⟨#[]⟩),I 0,.lit (.bool false),I 0]
section
attribute [local irreducible] aS.L0
theorem BO {b a:Nat} {l:List Int} {H:Hp} {K:AV→Hp→Prop} (h:Rd b l a H) (hb:b<H.n) (hl:l.length≤200) (ha:a<l.length)
  (hK:∀ (t:Tn) (a':Nat) (H':Hp),Rd b l a' H'→Kpb b H H'→a<a'→a'≤l.length→iw t→K (.agg (bJ t)) H'):ai Tryz.prog σ cu [.ptr b 0] H K:=by
 refine aS.run ?_
 rw [bl]
 obtain ⟨r,hr⟩:∃ r,r=H.n:=⟨_,rfl⟩
 obtain ⟨H0,hH0⟩:∃ H0,H0=H.new (.cells zTn true):=⟨_,rfl⟩
 have e0:H.new (.cells [I 0,.lit (.string ⟨#[]⟩),I 0,.lit (.bool false),I 0] true)=H0:=hH0.symm
 have n0:H0.n=H.n+1:=by rw [hH0]; rfl
 have g0:H0.get r=some (.cells zTn true):=by rw [hH0,hr]; simp
 have k0:Kpb b H H0:=⟨by omega,fun j hj _=>by rw [hH0,ay,if_neg (by omega)]⟩
 have h0:Rd b l a H0:=by unfold Rd; rw [hH0,ay,if_neg (by omega)]; exact h
 rw [e0,← hr]
 clear hH0 e0
 have hrb:r≠b:=by omega
 refine cg 0 rfl h0 (by omega) ?_
 generalize ct l (a+0)=en
 refine kW 1 rfl h0 (by omega) fun H1 h1 k1 n1=>?_
 have fin:∀ (H1:Hp) (t:Tn) (a1:Nat),Rd b l a1 H1→Kpb b H0 H1→a<a1→a1≤l.length→iw t→bnd (stA 5 H1 (.ptr r 0) (.agg (bJ t))) fun H6=>bnd (ldA true 5 H6 (.ptr r 0)) fun r7=>K r7 H6:=by
  intro H1 t a1 h1 k1 g1 g2 ht
  refine vM (cs:=zTn) (by rw [k1.g r (by omega) hrb]; exact g0) rfl fun H2 n2 o2=>hK t a1 H2 ?_ ⟨?_,fun j hj hjb=>?_⟩ g1 g2 ht
  ·unfold Rd; rw [o2 b (Ne.symm hrb)]; exact h1
  ·have:=k0.n; have:=k1.n; omega
  ·rw [o2 j (by omega),k1.g j (by omega) hjb]
   exact k0.g j hj hjb
 have L0:∀ (f a1:Nat) (H1:Hp) (y4:AV) (bs:List UInt8),l.length+1 - a1≤f→a<a1→a1≤l.length→BW b l H0 a1 y4 bs H1→bs.length≤4*a1→aS.L0 σ K (.ptr b 0) (.ptr r 0) (I en) y4 H1:=by
  intro f
  induction f with
  | zero=>intro a1 H1 y4 bs hf g1 g2 hB hlen; omega
  | succ f ih =>
   intro a1 H1 y4 bs hf g1 g2 hB hlen
   have hb0:b<H0.n:=by omega
   have stepA:a1<l.length→∀ c:Int,ai Tryz.prog σ bX [y4,I c] H1 fun x51 H52=>bnd (aq (.ptr b 0)) fun x53=>bnd (ae x53 1) fun x54=>bnd (ldA false 1 H52 x54) fun x55=>bnd (af .add x55 (I 1)) fun x56=>bnd (aq (.ptr b 0)) fun x57=>bnd (ae x57 1) fun x58=>bnd (stA 1 H52 x58 x56) fun H59=>aS.L0 σ K (.ptr b 0) (.ptr r 0) (I en) x51 H59:=by
    intro hlt c
    refine hB.put hb0 (by omega) fun x' H2 bs' hB2 hb4=>?_
    refine hB2.adv hb0 1 rfl (by omega) fun H3 hB3=>?_
    exact ih (a1+1) H3 x' _ (by omega) (by omega) (by omega) hB3 (by rw [List.length_append]; omega)
   have stepE:a1+2≤l.length→ai Tryz.prog σ bT [.ptr b 0] H1 fun x47 H48=>ai Tryz.prog σ bX [y4,x47] H48 fun x49 H50=>aS.L0 σ K (.ptr b 0) (.ptr r 0) (I en) x49 H50:=by
    intro h2
    refine pk hB.rd h2 (by omega) fun c a' H2 hr k2 _ hlt hle=>?_
    refine (hB.to hb0 hr k2).put hb0 (by omega) fun x' H3 bs' hB3 hb4=>?_
    exact ih a' H3 x' _ (by omega) (by omega) hle hB3 (by rw [List.length_append]; omega)
   have stepM:∀ (m:Nat) (k:Int),k=(m:Int)→1≤m→a1+m≤l.length→bnd (aq (.ptr b 0)) fun x28=>bnd (ae x28 1) fun x29=>bnd (ldA false 1 H1 x29) fun x30=>bnd (af .add x30 (I k)) fun x31=>bnd (aq (.ptr b 0)) fun x32=>bnd (ae x32 1) fun x33=>bnd (stA 1 H1 x33 x31) fun H34=>aS.L0 σ K (.ptr b 0) (.ptr r 0) (I en) y4 H34:=by
    intro m k hk hm hle
    refine hB.adv hb0 m hk (by omega) fun H3 hB3=>?_
    exact ih (a1+m) H3 y4 _ (by omega) (by omega) hle hB3 (by omega)
   have b1:aT [I 0,.lit (.string ⟨#[]⟩),I 0,.lit (.bool false),I 0] [(0,1,I 4),(1,1,Sx ⟨bs.toArray⟩)]=some (bJ ⟨4,⟨bs.toArray⟩,0,false,0⟩):=rfl
   have b2:aT [I 0,.lit (.string ⟨#[]⟩),I 0,.lit (.bool false),I 0] [(0,1,I 5)]=some (bJ ⟨5,⟨#[]⟩,0,false,0⟩):=rfl
   have t1:iw ⟨4,⟨bs.toArray⟩,0,false,0⟩:=⟨by simp; omega,(by decide:(-2147483647:Int)≤0),(by decide:(0:Int)≤2147483647)⟩
   have t2:iw ⟨5,⟨#[]⟩,0,false,0⟩:=⟨by decide,by decide⟩
   have sb:=fF l a1
   have sb1:=fF l (a1+1)
   refine aS.L0_step ?_
   refine cg 0 rfl hB.rd (by omega) ?_
   rw [Nat.add_zero,ca,aa,aj]
   simp only [decide_eq_true_eq]
   by_cases c0:ct l a1<0
   ·rw [if_pos c0,sT hB.gs,aa,b1,aa]
    exact fin H1 _ a1 hB.rd hB.kp g1 g2 t1
   rw [if_neg c0,bZ,aa,aj]
   simp only [decide_eq_true_eq]
   have hlt:a1<l.length:=sb.2.1 (by omega)
   by_cases c1:ct l a1=en
   ·rw [if_pos c1]
    refine hB.adv hb0 1 rfl (by omega) fun H3 hB3=>?_
    rw [sT hB3.gs,aa,b1,aa]
    exact fin H3 _ (a1+1) hB3.rd hB3.kp (by omega) (by omega) t1
   rw [if_neg c1,bZ,aa,aj]
   simp only [decide_eq_true_eq]
   by_cases c2:ct l a1=10
   ·rw [if_pos c2,b2,aa]
    exact fin H1 _ a1 hB.rd hB.kp g1 g2 t2
   rw [if_neg c2]
   simp only [bZ,aa,aj,decide_eq_true_eq]
   by_cases c3:ct l a1=92
   ·simp only [if_pos c3]
    refine cg 1 rfl hB.rd (by omega) ?_
    rw [ca,aa,aj]
    simp only [decide_eq_true_eq]
    by_cases c4:ct l (a1+1)<0
    ·rw [if_pos c4]
     exact stepM 1 1 rfl (by omega) (by omega)
    have h2l:a1+1<l.length:=sb1.2.1 (by omega)
    rw [if_neg c4]
    refine cg 1 rfl hB.rd (by omega) ?_
    simp only [bZ,aa,aj,decide_eq_true_eq]
    by_cases c5:ct l (a1+1)=10
    ·rw [if_pos c5]
     exact stepM 2 2 rfl (by omega) (by omega)
    ·rw [if_neg c5]
     exact stepE (by omega)
   ·simp only [if_neg c3]
    exact stepA hlt _
 exact L0 _ (a+1) H1 _ [] (Nat.le_refl _) (by omega) (by omega) ⟨h1,k1,.nil,fun j hj=>hj.elim⟩ (by simp)
end
theorem Gj (v:Int) (H:Hp) {K:AV→Hp→Prop} (hK:∀ m:Int,-2147483647≤m→m≤2147483647→K (I m) H):ai Tryz.prog σ kD [I v] H K:=by
 refine pg.run ?_
 simp only [eQ,ca,aa,aj,decide_eq_true_eq]
 split
 ·exact hK _ (by omega) (by omega)
 ·split
  ·exact hK _ (by omega) (by omega)
  ·exact hK _ (by omega) (by omega)
section
attribute [local irreducible] aB.J0 aB.L1 aB.J2 aB.L3 aB.J4 aB.J5
theorem HX (s:ByteArray) (hs:s.data.size≤1000000) (H:Hp) {K:AV→Hp→Prop} (hK:∀ (m:Int) (ok:Bool),-2147483647≤m→m≤2147483647→K (.tup [I m,Bo ok]) H):ai Tryz.prog σ jZ [Sx s] H K:=by
 refine aB.run ?_
 have ls:cJ (Sx s)=some (I (s.data.size:Int)):=rfl
 have hz:=hK 0 false (by decide) (by decide)
 have ix:∀ i:Nat,i<s.data.size→∃ c:UInt8,gI (Sx s) (I (i:Int))=some (.lit (.int .u8 c.toNat)):=fun i hi=>by
  obtain ⟨c,hc⟩:=ce (show i<(tl s).length by rw [gX]; exact hi)
  exact ⟨c,vQ hc⟩
 have cv:∀ c:UInt8,ee .i64 (.lit (.int .u8 (c.toNat:Int)))=some (I (c.toNat:Int)):=fun c=>by
  show some (AV.lit (.int .i64 (wr .i64 (c.toNat:Int))))=_
  have:=c.toNat_lt
  rw [fw (by omega) (by omega)]
 have J5:∀ (y4 y7 y8 y9 y10:AV) (b5:Bool) (v:Int),aB.J5 σ K (Sx s) y4 (Bo b5) (I v) y7 y8 y9 y10 H:=by
  intro y4 y7 y8 y9 y10 b5 v
  refine aB.J5_step ?_
  exact Gj v H fun m h1 h2=>hK m true h1 h2
 have J4:∀ (i:Int) (b5 b9:Bool) (v n7 n8:Int) (y10:AV),aB.J4 σ K (Sx s) (I i) (Bo b5) (I v) (I n7) (I n8) (Bo b9) y10 H:=by
  intro i b5 b9 v n7 n8 y10
  refine aB.J4_step ?_
  have j5:(if b5=true then aB.J5 σ K (Sx s) (I i) (Bo b5) (I (wr .i64 (0 - v))) (I n7) (I n8) (Bo b9) y10 H else aB.J5 σ K (Sx s) (I i) (Bo b5) (I v) (I n7) (I n8) (Bo b9) y10 H):=by
   split
   ·exact J5 _ _ _ _ _ _ _
   ·exact J5 _ _ _ _ _ _ _
  simp only [ls,aa,jA,bZ,eS,Kg,aj]
  repeat' split
  all_goals first | exact hz | exact J5 _ _ _ _ _ _ _
 have L3:∀ (f i:Nat) (b5 b9:Bool) (v n7 n8 n10:Int),s.data.size+1 - i≤f→i≤s.data.size→aB.L3 σ K (Sx s) (I (i:Int)) (Bo b5) (I v) (I n7) (I n8) (Bo b9) (I n10) H:=by
  intro f
  induction f with
  | zero=>intro i b5 b9 v n7 n8 n10 hf hi; omega
  | succ f ih =>
   intro i b5 b9 v n7 n8 n10 hf hi
   refine aB.L3_step ?_
   simp only [ls,aa,ca,aj,decide_eq_true_eq]
   by_cases hlt:(i:Int)<s.data.size
   ·rw [if_pos hlt]
    obtain ⟨c,hc⟩:=ix i (by omega)
    simp only [hc,aa,cv]
    refine au (ij _ H) ?_
    rw [aj]
    split
    ·simp only [kL,pY,cx,aa,F_ _ 10 .i64 (by decide)]
     rw [ci (by omega)]
     exact ih (i+1) _ _ _ _ _ _ (by omega) (by omega)
    ·exact J4 _ _ _ _ _ _ _
   ·rw [if_neg hlt]
    exact J4 _ _ _ _ _ _ _
 have L1:∀ (f i:Nat) (b5:Bool) (v n7:Int) (y8 y9 y10:AV),s.data.size+1 - i≤f→i≤s.data.size→aB.L1 σ K (Sx s) (I (i:Int)) (Bo b5) (I v) (I n7) y8 y9 y10 H:=by
  intro f
  induction f with
  | zero=>intro i b5 v n7 y8 y9 y10 hf hi; omega
  | succ f ih =>
   intro i b5 v n7 y8 y9 y10 hf hi
   have J2:∀ v:Int,i<s.data.size→aB.J2 σ K (Sx s) (I (i:Int)) (Bo b5) (I v) (I n7) y8 y9 y10 H:=by
    intro v hlt
    refine aB.J2_step ?_
    simp only [cx,aa]
    rw [ci (show i<9000000000000000000 by omega)]
    exact ih (i+1) _ _ _ _ _ _ (by omega) (by omega)
   have pt:∀ v:Int,(if (i:Int)<(s.data.size:Int) then bnd (gI (Sx s) (I (i:Int))) fun x16=>bnd (af .eql x16 (.lit (.int .u8 46))) fun x17=>ifB x17 (bnd (af .add (I (i:Int)) (I 1)) fun x18=>aB.L3 σ K (Sx s) x18 (Bo b5) (I v) (I n7) (I 0) x17 (I 100) H) (aB.J4 σ K (Sx s) (I (i:Int)) (Bo b5) (I v) (I n7) (I 0) x17 y10 H) else aB.J4 σ K (Sx s) (I (i:Int)) (Bo b5) (I v) (I n7) (I 0) (Bo false) y10 H):=by
    intro v
    split
    ·rename_i hlt
     obtain ⟨c,hc⟩:=ix i (by omega)
     simp only [hc,aa,bZ,aj,cx]
     split
     ·rw [ci (by omega)]
      exact L3 _ (i+1) _ _ _ _ _ _ (Nat.le_refl _) (by omega)
     ·exact J4 _ _ _ _ _ _ _
    ·exact J4 _ _ _ _ _ _ _
   refine aB.L1_step ?_
   simp only [ls,aa,ca,aj,decide_eq_true_eq]
   by_cases hlt:(i:Int)<s.data.size
   ·rw [if_pos hlt]
    obtain ⟨c,hc⟩:=ix i (by omega)
    simp only [hc,aa,cv]
    refine au (ij _ H) ?_
    rw [aj]
    split
    ·simp only [kL,pY,cx,eQ,aa,aj]
     split
     ·exact J2 _ (by omega)
     ·exact J2 _ (by omega)
    ·have:=pt (wr .i64 (v*1000))
     rw [if_pos hlt] at this
     simp only [hc,aa] at this
     simp only [pY,aa,if_pos hlt]
     exact this
   ·rw [if_neg hlt]
    have:=pt (wr .i64 (v*1000))
    rw [if_neg hlt] at this
    simp only [pY,aa,if_neg hlt]
    exact this
 have J0:∀ (i:Nat) (b5:Bool) (y6 y7 y8 y9 y10:AV),i≤s.data.size→aB.J0 σ K (Sx s) (I (i:Int)) (Bo b5) y6 y7 y8 y9 y10 H:=by
  intro i b5 y6 y7 y8 y9 y10 hi
  exact aB.J0_step (L1 _ i _ _ _ _ _ _ (Nat.le_refl _) hi)
 have w1:wr .i64 ((0:Int)+1)=((1:Nat):Int):=rfl
 simp only [ls,aa,ca,aj,decide_eq_true_eq]
 split
 ·rename_i h0
  obtain ⟨c,hc⟩:=ix 0 (by omega)
  have hc:gI (Sx s) (I 0)=some (.lit (.int .u8 c.toNat)):=hc
  simp only [hc,aa,bZ,aj,cx,w1]
  split
  ·exact J0 1 _ _ _ _ _ _ (by omega)
  ·split
   ·exact J0 1 _ _ _ _ _ _ (by omega)
   ·exact J0 0 _ _ _ _ _ _ (by omega)
 ·exact J0 0 _ _ _ _ _ _ (by omega)
end
end Go.Proofs.YthmaggcfghjmfaaGreat.Ev
