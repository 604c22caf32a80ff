/- The walks, part 7: the evaluator, the functions, the laws. Conditions: none. -/
import Derived.Test.YthmaggcfghjmfaaGreatZ6
namespace Go.Proofs.YthmaggcfghjmfaaGreat.Ev
set_option linter.unusedVariables false
set_option linter.unusedSimpArgs false
variable {σ:Sig}
section
attribute [local irreducible] av.L0
theorem B2 {L:List Nd} {d:List Nat} (hB:cH L L.length d) (hN:L.length≤4096) {e:Nat} (he:e<L.length) (hn:SmN (ca (cB L e))) {c:Cp} (hc:xo c) (hq:∀ q ∈ c.pseudos,i64 q.a∧i64 q.b) {dp:Nat} (hd:dp≤100)
  (hA:∀ q ∈ c.pseudos,(q.kind=7∨q.kind=8)→∀ H,az Tryz.prog σ dX [dZ L d,I (e:Int),sls q.list,I ((dp+1:Nat):Int)] H (Bo (AA L q.list e)) H) (H:Hp) :
  az Tryz.prog σ eX [dZ L d,I (e:Int),.agg (bR c),I (dp:Int)] H (Bo (lU (AA L) L e c)) H:=by
 refine bl (fun K hK=>av.run ?_) (by simp [aP,bF,ey,mJ]) rfl H
 have hP:∀ q ∈ c.pseudos,∀ H,az Tryz.prog σ cD [dZ L d,I (e:Int),.agg (bv q),I (dp:Int)] H (Bo (dI (AA L) L e q)) H:=fun q h=>xr hB hN he (hq q h) hd (hA q h)
 simp only [d7]
 refine am (sS L d he _) ?_
 simp only [dQ,aa,ah,Bool.not_true,Bool.false_eq_true,if_false,mZ,rsh,rld,rix he,e8,xB,bw,gU,sX,if_true]
 rw [aB,if_pos rfl]
 simp only [cC,sX,Iy]
 rw [if_pos ⟨by decide,trivial⟩]
 rw [a8 (by rfl)]
 simp only [aa]
 obtain ⟨H3,hH3⟩:∃ H3,H3=((Hp.empty.new (.cells (bR c) true)).new (.cells [I 0,.lit (.string ⟨#[]⟩),.lit (.string ⟨#[]⟩),.lit (.slice none 0 0),.lit (.slice none 0 0)] true)).set (Hp.empty.new (.cells (bR c) true)).n (some (.cells (bt (ca (cB L e))) true)):=⟨_,rfl⟩
 have h6:H3.get Hp.empty.n=some (.cells (bR c) true):=by rw [hH3]; simp
 have h9:H3.get (Hp.empty.new (.cells (bR c) true)).n=some (.cells (bt (ca (cB L e))) true):=by rw [hH3]; simp
 rw [← hH3]
 generalize Hp.empty.n=b6 at h6
 generalize (Hp.empty.new (.cells (bR c) true)).n=b9 at h9
 have d0:ldA false 1 H3 (.ptr b6 0)=some (Sx c.tag):=by simp [h6]
 have d1:ldA false 1 H3 (.ptr b9 1)=some (Sx (ca (cB L e)).tag):=by simp [h9]
 simp only [bj,Nat.zero_add,aa,d0,d1,tW,ah]
 have hK':∀ H,K (Bo (pY (ca (cB L e)) c&&(c.ids.all (idB (ca (cB L e)))&&(c.classes.all (kH (ca (cB L e)).classes)&&(c.attrs.all (fy (ca (cB L e)).attrs)&&c.pseudos.all (dI (AA L) L e)))))) H:=by
  intro H
  have:=hK H
  unfold lU pA at this
  simpa only [Bool.and_assoc] using this
 have go:pY (ca (cB L e)) c=true→av.L0 σ K (dZ L d) (I (e:Int)) (I (dp:Int)) (.ptr b6 0) (.ptr b9 0) (I 0) (.lit undef) (.lit undef) (.lit undef) H3:=by
  intro ht
  refine KR hc hn hP _ 0 H3 rfl (Nat.zero_le _) h6 h9 fun H=>?_
  have:=hK' H
  rw [ht,Bool.true_and] at this
  exact this
 by_cases ht:c.tag=⟨#[]⟩
 ·simp only [ht,decide_true,Bool.not_true,Bool.false_eq_true,if_false]
  exact go (by unfold pY emp; simp [ht])
 ·by_cases ht2:c.tag=(ca (cB L e)).tag
  ·simp only [ht,ht2,decide_true,decide_false,Bool.not_true,Bool.not_false,Bool.false_eq_true,if_true,if_false]
   have hne:¬ ((ca (cB L e)).tag=⟨#[]⟩):=by rw [← ht2]; exact ht
   simp only [hne,decide_false,Bool.not_false,if_true]
   exact go (by unfold pY; simp [ht2])
  ·simp only [ht,ht2,decide_false,Bool.not_false,if_true]
   have:=hK' H3
   have hb:pY (ca (cB L e)) c=false:=by unfold pY emp; simp [ht,ht2]
   rw [hb] at this
   simpa using this
end
structure Kn (L:List Nd) (s:Sl) (kb M:Nat) (H:Hp):Prop where
 lt:kb<H.n
 get:∃ ks,H.get kb=some (.cells ks true)∧ks.length=M∧∀ e k,e<L.length→k<s.length→∃ v:Int,ks[e*s.length+k]?=some (I v)∧(v=0∨(v=1∧bQ (AA L) L s k e=true)∨(v=2∧bQ (AA L) L s k e=false))
theorem Kn.keep {L:List Nd} {s:Sl} {kb M:Nat} {H H':Hp} (h:Kn L s kb M H) (hn:H.n≤H'.n) (hg:H'.get kb=H.get kb):Kn L s kb M H':=by
 obtain ⟨ks,h1,h2,h3⟩:=h.get
 exact ⟨Nat.lt_of_lt_of_le h.lt hn,ks,by rw [hg]; exact h1,h2,h3⟩
theorem Kn.new {L:List Nd} {s:Sl} {kb M:Nat} {H:Hp} (h:Kn L s kb M H) (b:Blk):Kn L s kb M (H.new b):=by
 refine h.keep (by simp) ?_
 have:kb≠H.n:=by have:=h.lt; omega
 simp [this]
theorem xP {n a b x y:Nat} (hx:x<n) (hy:y<n) (h:a*n+x=b*n+y):a=b∧x=y:=by
 have h1:(a*n+x) / n=(b*n+y) / n:=by rw [h]
 have hn:0<n:=by omega
 rw [Nat.mul_comm a,Nat.mul_comm b,Nat.mul_add_div hn,Nat.mul_add_div hn,Nat.div_eq_of_lt hx,Nat.div_eq_of_lt hy] at h1
 simp only [Nat.add_zero] at h1
 subst h1
 exact ⟨rfl,by omega⟩
theorem xf:∀ (cs:List AV) (i:Nat) (x:AV),i<cs.length→ce cs i [x]=cs.set i x:=by
 intro cs
 induction cs with
 | nil=>intro i x hi; simp at hi
 | cons c r ih =>
  intro i x hi
  cases i with
  | zero=>simp
  | succ i=>rw [yH,List.set_cons_succ,ih i x (by simpa using hi)]
theorem Kn.put {L:List Nd} {s:Sl} {kb M:Nat} {H:Hp} (h:Kn L s kb M H) {e k:Nat} (he:e<L.length) (hk:k<s.length) {v:Int} (hv:v=0∨(v=1∧bQ (AA L) L s k e=true)∨(v=2∧bQ (AA L) L s k e=false)) :
  ∃ H',stA 1 H (.ptr kb (e*s.length+k)) (I v)=some H'∧Kn L s kb M H'∧Kp kb H H'∧ldA false 1 H' (.ptr kb (e*s.length+k))=some (I v):=by
 obtain ⟨ks,h1,h2,h3⟩:=h.get
 obtain ⟨v0,hv0,_⟩:=h3 e k he hk
 have hlt:=(List.getElem?_eq_some_iff.1 hv0).1
 refine ⟨H.set kb (some (.cells (ks.set (e*s.length+k) (I v)) true)),?_,⟨by simpa using h.lt,_,by simp; rfl,by simpa using h2,fun e' k' he' hk'=>?_⟩,⟨by simp,fun j hj hne=>by simp [hne]⟩,?_⟩
 ·have hlt':e*s.length+k+[I v].length≤ks.length:=by simp; omega
  rw [wF,h1]
  simp only [cC]
  rw [if_pos ⟨hlt',rfl⟩,xf _ _ _ hlt]
 ·by_cases hi:e*s.length+k=e'*s.length+k'
  ·obtain ⟨rfl,rfl⟩:=xP hk hk' hi
   exact ⟨v,by simp [hlt],hv⟩
  ·obtain ⟨w,hw,hw'⟩:=h3 e' k' he' hk'
   exact ⟨w,by simp [List.getElem?_set,hi,hw],hw'⟩
 ·simp only [bE,ay,if_true,br]
  rw [List.drop_eq_getElem_cons (by simpa using hlt),iP]
  simp
theorem Kn.put2 {L:List Nd} {s:Sl} {kb M:Nat} {H:Hp} (h:Kn L s kb M H) {e k:Nat} (he:e<L.length) (hk:k<s.length) {v w:Int} (hv:v=0∨(v=1∧bQ (AA L) L s k e=true)∨(v=2∧bQ (AA L) L s k e=false)) :
  ∃ H1 H',stA 1 H (.ptr kb (e*s.length+k)) (I w)=some H1∧stA 1 H1 (.ptr kb (e*s.length+k)) (I v)=some H'∧Kn L s kb M H'∧Kp kb H H'∧ldA false 1 H' (.ptr kb (e*s.length+k))=some (I v):=by
 obtain ⟨ks,h1,h2,h3⟩:=h.get
 obtain ⟨v0,hv0,_⟩:=h3 e k he hk
 have hlt:=(List.getElem?_eq_some_iff.1 hv0).1
 refine ⟨H.set kb (some (.cells (ks.set (e*s.length+k) (I w)) true)),H.set kb (some (.cells (ks.set (e*s.length+k) (I w)) true)) |>.set kb (some (.cells ((ks.set (e*s.length+k) (I w)).set (e*s.length+k) (I v)) true)),?_,?_,⟨by simpa using h.lt,_,by simp; rfl,by simpa using h2,fun e' k' he' hk'=>?_⟩,⟨by simp,fun j hj hne=>by simp [hne]⟩,?_⟩
 ·have hlt':e*s.length+k+[I w].length≤ks.length:=by simp; omega
  rw [wF,h1]
  simp only [cC]
  rw [if_pos ⟨hlt',rfl⟩,xf _ _ _ hlt]
 ·have hlt':e*s.length+k+[I v].length≤(ks.set (e*s.length+k) (I w)).length:=by simp; omega
  rw [wF]
  simp only [ay,if_true,cC]
  rw [if_pos ⟨hlt',rfl⟩,xf _ _ _ (by simpa using hlt)]
 ·by_cases hi:e*s.length+k=e'*s.length+k'
  ·obtain ⟨rfl,rfl⟩:=xP hk hk' hi
   exact ⟨v,by simp [hlt],hv⟩
  ·obtain ⟨w,hw,hw'⟩:=h3 e' k' he' hk'
   exact ⟨w,by simp [List.getElem?_set,hi,hw],hw'⟩
 ·simp only [bE,ay,if_true,br]
  rw [List.drop_eq_getElem_cons (by simpa using hlt),iP]
  simp
structure RSl (L:List Nd) (s:Sl):Prop where
 len:s.length≤50
 c:∀ p ∈ s,xo p.c
 q:∀ p ∈ s,∀ q ∈ p.c.pseudos,i64 q.a∧i64 q.b
theorem nH {L:List Nd} (e:Nat):eD L e=-1∨∃ p:Nat,eD L e=p∧p<e:=by
 unfold eD ou
 cases h:(oO L e).getLast? with
 | none=>exact .inl rfl
 | some j =>
  refine .inr ⟨j,rfl,?_⟩
  have:=List.mem_of_getLast? h
  unfold oO at this
  simp only [List.mem_filter,List.mem_range] at this
  exact this.1
section
attribute [local irreducible] aC.L0 aC.L1 aC.J2 bX.J0
def zt (σ:Sig) (L:List Nd) (d:List Nat) (s:Sl) (dp kb M:Nat) (cap:Option Nat) (i:Nat):Prop:=∀ (e:Nat) (H:Hp) (K:AV→Hp→Prop),e<L.length→Kn L s kb M H→(∀ H',Kn L s kb M H'→Kp kb H H'→K (Bo (bQ (AA L) L s i e)) H') →
 ai Tryz.prog σ c_ [dZ L d,I (e:Int),.agg (aU s),I ((i+1:Nat):Int),I (dp:Int),.sl kb 0 1 M cap] H K
variable {L:List Nd} {d:List Nat} {s:Sl} {dp kb M:Nat} {cap:Option Nat}
theorem AG (hB:cH L L.length d) (hN:L.length≤4096) {i b8:Nat} (hi:i<100) (ih:zt σ L d s dp kb M cap i) {K:AV→Hp→Prop} {y15:AV}:∀ (f:Nat) (x:Int) (H:Hp),(x=-1∨∃ p:Nat,x=p∧p<f∧p<L.length)→Kn L s kb M H→b8<H.n→b8≠kb→H.get b8=some (.cells (aU s) true) →
  (∀ H',Kn L s kb M H'→Kp kb H H'→K (Bo (decide (0≤x)&&(bQ (AA L) L s i x.toNat||ee (bQ (AA L) L s i) L 1 f x.toNat))) H') →
  aC.L0 σ K (dZ L d) (I ((i+1+1:Nat):Int)) (I (dp:Int)) (.sl kb 0 1 M cap) (.ptr b8 0) (I x) y15 H:=by
 intro f
 induction f with
 | zero =>
  intro x H hx hk h8 hne hg hK
  obtain rfl:x=-1:=by rcases hx with h | ⟨p,_,h,_⟩<;>omega
  refine aC.L0_step ?_
  simp only [fl,aa,ah,show ¬ ((0:Int)≤-1) from by decide,decide_false,Bool.false_eq_true,if_false]
  exact aC.J2_step (by simpa using hK H hk (Kp.refl _ _))
 | succ f ihf =>
  intro x H hx hk h8 hne hg hK
  refine aC.L0_step ?_
  rcases hx with rfl | ⟨p,rfl,hpf,hpL⟩
  ·simp only [fl,aa,ah,show ¬ ((0:Int)≤-1) from by decide,decide_false,Bool.false_eq_true,if_false]
   exact aC.J2_step (by simpa using hK H hk (Kp.refl _ _))
  have hl:ldA true 1 H (.ptr b8 0)=some (.agg (aU s)):=by simp [hg]
  have hsub:wr .i64 (((i+1+1:Nat):Int) - 1)=((i+1:Nat):Int):=by rw [eh (by omega) (by omega)]; omega
  simp only [fl,aa,ah,Int.natCast_nonneg,decide_true,if_true,hl,ik,hsub]
  refine ih p H _ hpL hk fun H1 hk1 hp1=>?_
  simp only [ah]
  simp only [Int.natCast_nonneg,decide_true,Bool.true_and,Int.toNat_natCast] at hK
  cases hb:bQ (AA L) L s i p with
  | true =>
   simp only [if_true]
   have:=hK H1 hk1 hp1
   rw [hb] at this
   simpa using this
  | false =>
   simp only [Bool.false_eq_true,if_false]
   refine am (lN L d hpL _) ?_
   have hpb:=my hB hpL
   refine ihf (par L p) H1 ?_ hk1 (Nat.lt_of_lt_of_le h8 hp1.up) hne (by rw [hp1.get _ h8 hne]; exact hg) fun H2 hk2 hp2=>?_
   ·rcases hpb with h | ⟨q,h,hq⟩
    ·exact .inl h
    ·exact .inr ⟨q,h,by omega,by omega⟩
   have:=hK H2 hk2 (hp1.trans hp2)
   rw [hb] at this
   have e1:ee (bQ (AA L) L s i) L 1 (f+1) p=(decide (0≤par L p)&&(bQ (AA L) L s i (par L p).toNat||ee (bQ (AA L) L s i) L 1 f (par L p).toNat)):=by
    rw [ee]
    have:cw L p 1=par L p:=by unfold cw; simp
    rw [this]
    have:lW 1=true:=rfl
    rw [this,Bool.true_and]
   rw [← e1]
   simpa using this
theorem CU (hB:cH L L.length d) (hN:L.length≤4096) {i b8:Nat} (hi:i<100) (ih:zt σ L d s dp kb M cap i) {K:AV→Hp→Prop} {y13:AV}:∀ (f:Nat) (x:Int) (H:Hp),(x=-1∨∃ p:Nat,x=p∧p<f∧p<L.length)→Kn L s kb M H→b8<H.n→b8≠kb→H.get b8=some (.cells (aU s) true) →
  (∀ H',Kn L s kb M H'→Kp kb H H'→K (Bo (decide (0≤x)&&(bQ (AA L) L s i x.toNat||ee (bQ (AA L) L s i) L 4 f x.toNat))) H') →
  aC.L1 σ K (dZ L d) (I ((i+1+1:Nat):Int)) (I (dp:Int)) (.sl kb 0 1 M cap) (.ptr b8 0) y13 (I x) H:=by
 intro f
 induction f with
 | zero =>
  intro x H hx hk h8 hne hg hK
  obtain rfl:x=-1:=by rcases hx with h | ⟨p,_,h,_⟩<;>omega
  refine aC.L1_step ?_
  simp only [fl,aa,ah,show ¬ ((0:Int)≤-1) from by decide,decide_false,Bool.false_eq_true,if_false]
  exact aC.J2_step (by simpa using hK H hk (Kp.refl _ _))
 | succ f ihf =>
  intro x H hx hk h8 hne hg hK
  refine aC.L1_step ?_
  rcases hx with rfl | ⟨p,rfl,hpf,hpL⟩
  ·simp only [fl,aa,ah,show ¬ ((0:Int)≤-1) from by decide,decide_false,Bool.false_eq_true,if_false]
   exact aC.J2_step (by simpa using hK H hk (Kp.refl _ _))
  have hl:ldA true 1 H (.ptr b8 0)=some (.agg (aU s)):=by simp [hg]
  have hsub:wr .i64 (((i+1+1:Nat):Int) - 1)=((i+1:Nat):Int):=by rw [eh (by omega) (by omega)]; omega
  simp only [fl,aa,ah,Int.natCast_nonneg,decide_true,if_true,hl,ik,hsub]
  refine ih p H _ hpL hk fun H1 hk1 hp1=>?_
  simp only [ah]
  simp only [Int.natCast_nonneg,decide_true,Bool.true_and,Int.toNat_natCast] at hK
  cases hb:bQ (AA L) L s i p with
  | true =>
   simp only [if_true]
   have:=hK H1 hk1 hp1
   rw [hb] at this
   simpa using this
  | false =>
   simp only [Bool.false_eq_true,if_false]
   refine am (lK L d hN hpL _) ?_
   have hpb:=nH (L:=L) p
   refine ihf (eD L p) H1 ?_ hk1 (Nat.lt_of_lt_of_le h8 hp1.up) hne (by rw [hp1.get _ h8 hne]; exact hg) fun H2 hk2 hp2=>?_
   ·rcases hpb with h | ⟨q,h,hq⟩
    ·exact .inl h
    ·exact .inr ⟨q,h,by omega,by omega⟩
   have:=hK H2 hk2 (hp1.trans hp2)
   rw [hb] at this
   have e1:ee (bQ (AA L) L s i) L 4 (f+1) p=(decide (0≤eD L p)&&(bQ (AA L) L s i (eD L p).toNat||ee (bQ (AA L) L s i) L 4 f (eD L p).toNat)):=by
    rw [ee]
    have:cw L p 4=eD L p:=by unfold cw; simp
    rw [this]
    have:lW 4=true:=rfl
    rw [this,Bool.true_and]
   rw [← e1]
   simpa using this
theorem Eo (hB:cH L L.length d) (hN:L.length≤4096) {i:Nat} (hi:i<100) (ih:zt σ L d s dp kb M cap i) {p:Pt} (hp:s[i+1]?=some p) {e:Nat} (he:e<L.length) {H:Hp} (hk:Kn L s kb M H) {K:AV→Hp→Prop}
  (hK:∀ H',Kn L s kb M H'→Kp kb H H'→K (Bo (ee (bQ (AA L) L s i) L p.comb (e+1) e)) H') :
  ai Tryz.prog σ fV [dZ L d,I (e:Int),.agg (aU s),I ((i+1+1:Nat):Int),I (dp:Int),.sl kb 0 1 M cap] H K:=by
 refine aC.run ?_
 simp only [d7]
 have hk2:=hk.new (.cells (aU s) true)
 have hkp:=Kp.new kb H (.cells (aU s) true)
 obtain ⟨H2,hH2⟩:∃ H2,H2=H.new (.cells (aU s) true):=⟨_,rfl⟩
 have h8:H2.get H.n=some (.cells (aU s) true):=by rw [hH2]; simp
 have hb8:H.n<H2.n:=by rw [hH2]; simp
 have hne:H.n≠kb:=by have:=hk.lt; omega
 rw [← hH2] at hk2 hkp ⊢
 clear hH2
 generalize H.n=b8 at h8 hb8 hne ⊢
 have hsub:wr .i64 (((i+1+1:Nat):Int) - 1)=((i+1:Nat):Int):=by rw [eh (by omega) (by omega)]; omega
 have hl0:ldA false 1 H2 (.ptr b8 0)=some (.imm 6 (s.map bx)):=by simp [h8,aU]
 have hl:ldA true 1 H2 (.ptr b8 0)=some (.agg (aU s)):=by simp [h8]
 have hix:aJ 6 (.imm 6 (s.map bx)) (I ((i+1:Nat):Int))=some (.ip (bx p)):=bS hp
 simp only [bj,Nat.zero_add,aa,hl0,ik,hsub,hix,nU,List.drop_zero,e8,CD,bD,ah,decide_eq_true_eq]
 have K2:∀ H',Kn L s kb M H'→Kp kb H2 H'→K (Bo (ee (bQ (AA L) L s i) L p.comb (e+1) e)) H':=fun H' a b=>hK H' a (hkp.trans b)
 rw [ee] at K2
 split
 ·rename_i hc
  refine am (lN L d he _) ?_
  have hpb:=my hB he
  refine AG hB hN hi ih e (par L e) H2 ?_ hk2 hb8 hne h8 fun H3 a b=>?_
  ·rcases hpb with h | ⟨q,h,hq⟩
   ·exact .inl h
   ·exact .inr ⟨q,h,by omega,by omega⟩
  have:=K2 H3 a b
  rw [hc] at this
  have e1:cw L e 1=par L e:=by unfold cw; simp
  have e2:lW 1=true:=rfl
  rw [e1,e2,Bool.true_and] at this
  exact this
 rename_i hc1
 split
 ·rename_i hc
  refine am (lN L d he _) ?_
  have hpb:=my hB he
  have e1:cw L e 2=par L e:=by unfold cw; simp
  have e2:lW 2=false:=rfl
  rw [hc,e1,e2,Bool.false_and,Bool.or_false] at K2
  simp only [fl,aa,ah,decide_eq_true_eq]
  rcases hpb with h | ⟨q,h,hq⟩
  ·rw [h] at K2 ⊢
   simp only [show ¬ ((0:Int)≤-1) from by decide,if_false]
   simpa using K2 H2 hk2 (Kp.refl _ _)
  ·rw [h] at K2
   simp only [h,Int.natCast_nonneg,if_true]
   refine am (lN L d he _) ?_
   rw [nI]
   refine ⟨rfl,?_⟩
   simp only [hl,aa]
   rw [h]
   refine ih q H2 _ (by omega) hk2 fun H3 a b=>?_
   simpa using K2 H3 a b
 rename_i hc2
 split
 ·rename_i hc
  refine am (lK L d hN he _) ?_
  have hpb:=nH (L:=L) e
  have e1:cw L e 3=eD L e:=by unfold cw; simp
  have e2:lW 3=false:=rfl
  rw [hc,e1,e2,Bool.false_and,Bool.or_false] at K2
  simp only [fl,aa,ah,decide_eq_true_eq]
  rcases hpb with h | ⟨q,h,hq⟩
  ·rw [h] at K2 ⊢
   simp only [show ¬ ((0:Int)≤-1) from by decide,if_false]
   simpa using K2 H2 hk2 (Kp.refl _ _)
  ·rw [h] at K2
   simp only [h,Int.natCast_nonneg,if_true]
   refine am (lK L d hN he _) ?_
   rw [nI]
   refine ⟨rfl,?_⟩
   simp only [hl,aa]
   rw [h]
   refine ih q H2 _ (by omega) hk2 fun H3 a b=>?_
   simpa using K2 H3 a b
 rename_i hc3
 split
 ·rename_i hc
  refine am (lK L d hN he _) ?_
  have hpb:=nH (L:=L) e
  refine CU hB hN hi ih e (eD L e) H2 ?_ hk2 hb8 hne h8 fun H3 a b=>?_
  ·rcases hpb with h | ⟨q,h,hq⟩
   ·exact .inl h
   ·exact .inr ⟨q,h,by omega,by omega⟩
  have:=K2 H3 a b
  rw [hc] at this
  have e1:cw L e 4=eD L e:=by unfold cw; simp
  have e2:lW 4=true:=rfl
  rw [e1,e2,Bool.true_and] at this
  exact this
 rename_i hc4
 refine aC.J2_step ?_
 have e1:cw L e p.comb=-1:=by unfold cw; rw [if_neg (by omega),if_neg (by omega)]
 rw [e1] at K2
 simpa using K2 H2 hk2 (Kp.refl _ _)
def Dl (σ:Sig) (L:List Nd) (d:List Nat) (s:Sl) (dp:Nat):Prop:=∀ p ∈ s,∀ q ∈ p.c.pseudos,(q.kind=7∨q.kind=8)→∀ (e:Nat) (H:Hp),e<L.length→az Tryz.prog σ dX [dZ L d,I (e:Int),sls q.list,I ((dp+1:Nat):Int)] H (Bo (AA L q.list e)) H
theorem yh (hB:cH L L.length d) (hN:L.length≤4096) (hsm:∀ e,e<L.length→SmN (ca (cB L e))) (hs:RSl L s) (hd:dp≤100) (hM:M=L.length*s.length) (hA:Dl σ L d s dp) {i:Nat} (hi:i<s.length)
  (ih:∀ j,i=j+1→zt σ L d s dp kb M cap j):zt σ L d s dp kb M cap i:=by
 intro e H K he hk hK
 refine bX.run ?_
 simp only [d7]
 have hk2:=hk.new (.cells (aU s) true)
 have hkp:=Kp.new kb H (.cells (aU s) true)
 obtain ⟨H2,hH2⟩:∃ H2,H2=H.new (.cells (aU s) true):=⟨_,rfl⟩
 have h8:H2.get H.n=some (.cells (aU s) true):=by rw [hH2]; simp
 have hb8:H.n<H2.n:=by rw [hH2]; simp
 have hne:H.n≠kb:=by have:=hk.lt; omega
 rw [← hH2] at hk2 hkp ⊢
 clear hH2
 generalize H.n=b8 at h8 hb8 hne ⊢
 have hl50:=hs.len
 have hmul:e*s.length≤4096*50:=Nat.mul_le_mul (by omega) hl50
 have e1:wr .i64 ((e:Int)*(s.length:Int))=((e*s.length:Nat):Int):=by
  have:(e:Int)*(s.length:Int)=((e*s.length:Nat):Int):=by simp
  rw [this,eh (by omega) (by omega)]
 have e2:wr .i64 (((e*s.length:Nat):Int)+((i+1:Nat):Int))=((e*s.length+i+1:Nat):Int):=by rw [eh (by omega) (by omega)]; omega
 have e3:wr .i64 (((e*s.length+i+1:Nat):Int) - 1)=((e*s.length+i:Nat):Int):=by rw [eh (by omega) (by omega)]; omega
 have e4:wr .i64 (((i+1:Nat):Int) - 1)=(i:Int):=by rw [eh (by omega) (by omega)]; omega
 have hlt:e*s.length+i<M:=by
  rw [hM]
  have h1:(e+1)*s.length≤L.length*s.length:=Nat.mul_le_mul_right _ he
  rw [Nat.succ_mul] at h1
  omega
 have hl0:ldA false 1 H2 (.ptr b8 0)=some (.imm 6 (s.map bx)):=by simp [h8,aU]
 have hl:ldA true 1 H2 (.ptr b8 0)=some (.agg (aU s)):=by simp [h8]
 have hix:aJ 1 (.sl kb 0 1 M cap) (I ((e*s.length+i:Nat):Int))=some (.ptr kb (e*s.length+i)):=by
  have a1:((e*s.length+i:Nat):Int)<(M:Int):=by omega
  have a2:(0:Int)≤((e*s.length+i:Nat):Int):=by omega
  simp only [aJ,jt,a1,a2,decide_true,Bool.and_self,cond_true,Int.toNat_natCast,Nat.zero_add,Nat.mul_one]
 obtain ⟨p,hp⟩:=cb hi
 have hixp:aJ 6 (.imm 6 (s.map bx)) (I (i:Int))=some (.ip (bx p)):=bS hp
 obtain ⟨ks,g1,g2,g3⟩:=hk2.get
 obtain ⟨v,hv,hv'⟩:=g3 e i he hi
 have hld:ldA false 1 H2 (.ptr kb (e*s.length+i))=some (I v):=by
  rw [bE,g1,br,cm hv,iP]
 simp only [bj,Nat.zero_add,aa,hl0,cI,List.length_map,oE,bN,ik,e1,e2,e3,e4,hix,hld,bD,ah,decide_eq_true_eq]
 have K2:∀ H',Kn L s kb M H'→Kp kb H2 H'→K (Bo (bQ (AA L) L s i e)) H':=fun H' a b=>hK H' a (hkp.trans b)
 have fin:∀ (H3:Hp) (w:Int),Kn L s kb M H3→Kp kb H2 H3→ldA false 1 H3 (.ptr kb (e*s.length+i))=some (I w)→decide (w=1)=bQ (AA L) L s i e →
   bX.J0 σ K (.sl kb 0 1 M cap) (I ((e*s.length+i:Nat):Int)) H3:=by
  intro H3 w a b c hw
  refine bX.J0_step ?_
  simp only [hix,aa,c,bD]
  rw [hw]
  exact K2 H3 a b
 have put2:∀ (H3:Hp) (w:Int) (A:Hp→Prop),Kn L s kb M H3→Kp kb H2 H3→(w=0∨(w=1∧bQ (AA L) L s i e=true)∨(w=2∧bQ (AA L) L s i e=false)) →
   (∀ H4,Kn L s kb M H4→Kp kb H2 H4→ldA false 1 H4 (.ptr kb (e*s.length+i))=some (I w)→A H4)→bnd (stA 1 H3 (.ptr kb (e*s.length+i)) (I w)) A:=by
  intro H3 w A a b hw hA
  obtain ⟨H4,q1,q2,q3,q4⟩:=a.put he hi hw
  rw [q1,aa]
  exact hA H4 q2 (b.trans q3) q4
 by_cases hv0:v=0
 ·simp only [hv0,if_true]
  have hld5:ldA true 5 H2 (.ip ((bx p).drop 1))=some (.agg (bR p.c)):=by rw [d6]; simp
  simp only [hixp,aa,nU,hld5]
  have hpm:=List.mem_of_getElem? hp
  refine am (B2 hB hN he (hsm e he) (hs.c p hpm) (hs.q p hpm) hd (fun q hq hkd H=>hA p hpm q hq hkd e H he) _) ?_
  simp only [ah]
  cases hcB:lU (AA L) L e p.c with
  | false =>
   have hf:bQ (AA L) L s i e=false:=by
    cases i with
    | zero=>simp only [bQ,hp]; exact hcB
    | succ i=>simp only [bQ,hp,hcB,Bool.false_and]
   simp only [Bool.false_eq_true,if_false]
   refine put2 H2 2 _ hk2 (Kp.refl _ _) (.inr (.inr ⟨rfl,hf⟩)) fun H4 a b c=>?_
   exact fin H4 2 a b c (by rw [hf]; rfl)
  | true =>
   simp only [if_true]
   cases i with
   | zero =>
    have hf:bQ (AA L) L s 0 e=true:=by simp only [bQ,hp]; exact hcB
    have:((0+1:Nat):Int)=1:=rfl
    simp only [this,if_true]
    have bad:∀ (H3:Hp) (w:Int) (A:Hp→Prop),Kn L s kb M H3→Kp kb H2 H3→(∀ H5 H6,stA 1 H3 (.ptr kb (e*s.length+0)) (I 2)=some H5→stA 1 H5 (.ptr kb (e*s.length+0)) (I 1)=some H6→Kn L s kb M H6→Kp kb H2 H6→ldA false 1 H6 (.ptr kb (e*s.length+0))=some (I 1)→A H6) →
      bnd (stA 1 H3 (.ptr kb (e*s.length+0)) (I 2)) fun H5=>bnd (stA 1 H5 (.ptr kb (e*s.length+0)) (I 1)) A:=by
     intro H3 w A a b h
     obtain ⟨H5,H6,q1,q2,q3,q4,q5⟩:=a.put2 he hi (v:=1) (w:=2) (.inr (.inl ⟨rfl,hf⟩))
     rw [q1,aa,q2,aa]
     exact h H5 H6 q1 q2 q3 (b.trans q4) q5
    refine bad H2 1 _ hk2 (Kp.refl _ _) fun H5 H6 _ _ a b c=>?_
    exact fin H6 1 a b c (by rw [hf]; rfl)
   | succ i =>
    have hne1:¬ (((i+1+1:Nat):Int)=1):=by omega
    simp only [hne1,if_false,hl,aa]
    refine Eo hB hN (by omega) (ih i rfl) hp he hk2 fun H3 hk3 hp3=>?_
    have hfr:bQ (AA L) L s (i+1) e=ee (bQ (AA L) L s i) L p.comb (e+1) e:=by simp only [bQ,hp,hcB,Bool.true_and]
    rw [← hfr]
    simp only [ah]
    cases hf:bQ (AA L) L s (i+1) e with
    | true =>
     obtain ⟨H5,H6,q1,q2,q3,q4,q5⟩:=hk3.put2 he hi (v:=1) (w:=2) (.inr (.inl ⟨rfl,hf⟩))
     rw [q1,aa]
     simp only [if_true]
     rw [q2,aa]
     exact fin H6 1 q3 (hp3.trans q4) q5 (by rw [hf]; rfl)
    | false =>
     refine put2 H3 2 _ hk3 hp3 (.inr (.inr ⟨rfl,hf⟩)) fun H4 a b c=>?_
     simp only [Bool.false_eq_true,if_false]
     exact fin H4 2 a b c (by rw [hf]; rfl)
 ·simp only [hv0,if_false]
  refine fin H2 v hk2 (Kp.refl _ _) hld ?_
  rcases hv' with h | ⟨h,hf⟩ | ⟨h,hf⟩
  ·exact absurd h hv0
  ·rw [h,hf]; rfl
  ·rw [h,hf]; rfl
theorem KH (hB:cH L L.length d) (hN:L.length≤4096) (hsm:∀ e,e<L.length→SmN (ca (cB L e))) (hs:RSl L s) (hd:dp≤100) (hM:M=L.length*s.length) (hA:Dl σ L d s dp):∀ (i:Nat),i<s.length→zt σ L d s dp kb M cap i:=by
 intro i
 induction i with
 | zero=>exact fun hi=>yh hB hN hsm hs hd hM hA hi (fun j h=>absurd h (by omega))
 | succ i ih =>
  intro hi
  refine yh hB hN hsm hs hd hM hA hi fun j h=>?_
  have:j=i:=by omega
  subst this
  exact ih (by omega)
end
end Go.Proofs.YthmaggcfghjmfaaGreat.Ev
namespace Go.Proofs.YthmaggcfghjmfaaGreat.Ev
set_option linter.unusedVariables false
set_option linter.unusedSimpArgs false
variable {σ:Sig} {L:List Nd} {d:List Nat}
def HQ:Nat→List Sl→Prop
 | 0,_=>False
 | f+1,l=>l.length≤reachBytes∧∀ s ∈ l,s.length≤50∧∀ p ∈ s,xo p.c∧∀ q ∈ p.c.pseudos,(i64 q.a∧i64 q.b)∧((q.kind=7∨q.kind=8)→HQ f q.list)
def frB (L:List Nd) (s:Sl) (e:Nat):Bool:=!decide (s.length=0)&&bQ (AA L) L s (s.length - 1) e
theorem xQ (hB:cH L L.length d) (hN:L.length≤4096) (hsm:∀ e,e<L.length→SmN (ca (cB L e))) {s:Sl} (hs:RSl L s) {dp:Nat} (hd:dp≤100) (hA:Dl σ L d s dp) {e:Int} (H:Hp) :
  az Tryz.prog σ dJ [dZ L d,I e,.agg (aU s),I (dp:Int)] H (Bo (decide (0≤e)&&decide (e<L.length)&&frB L s e.toNat)) H:=by
 refine bl (fun K hK=>gQ.run ?_) (by simp [aP,bF,ey,lA]) rfl H
 simp only [d7]
 refine am (B9 L d e _) ?_
 simp only [dQ,aa,ah]
 cases hin:(decide (0≤e)&&decide (e<L.length)) with
 | false=>rw [hin] at hK; simpa using hK _
 | true =>
 rw [hin] at hK
 simp only [Bool.true_and] at hK
 simp only [Bool.and_eq_true,decide_eq_true_eq] at hin
 obtain ⟨en,rfl⟩:∃ en:Nat,e=(en:Int):=⟨e.toNat,by omega⟩
 have he:en<L.length:=by omega
 rw [Int.toNat_natCast] at hK
 obtain ⟨H2,hH2⟩:∃ H2,H2=Hp.empty.new (.cells (aU s) true):=⟨_,rfl⟩
 have h1:H2.get Hp.empty.n=some (.cells (aU s) true):=by rw [hH2]; simp
 have hlt:Hp.empty.n<H2.n:=by rw [hH2]; simp
 rw [← hH2]
 generalize Hp.empty.n=b1 at h1 hlt ⊢
 have hl0:ldA false 1 H2 (.ptr b1 0)=some (.imm 6 (s.map bx)):=by simp [h1,aU]
 simp only [Bool.not_true,Bool.false_eq_true,if_false,bj,Nat.zero_add,aa,hl0,cI,List.length_map,bD,ah,decide_eq_true_eq]
 split
 ·rename_i h0
  have h0':s.length=0:=by omega
  have:frB L s en=false:=by unfold frB; simp [h0']
  rw [this] at hK
  exact hK _
 rename_i h0
 have h0':¬ s.length=0:=by omega
 have hl50:=hs.len
 have hmul:L.length*s.length≤4096*50:=Nat.mul_le_mul hN hl50
 have e1:wr .i64 ((L.length:Int)*(s.length:Int))=((L.length*s.length:Nat):Int):=by
  have:(L.length:Int)*(s.length:Int)=((L.length*s.length:Nat):Int):=by simp
  rw [this,eh (by omega) (by omega)]
 obtain ⟨M,hM⟩:∃ M,M=L.length*s.length:=⟨_,rfl⟩
 rw [← hM] at e1 hmul
 have e3:vT [.int .i64 0] 1 8 H2 (I (M:Int)) (I (M:Int))=some (.sl H2.n 0 1 M (some M),H2.new (.cells (nh [.int .i64 0] (M*1)) true)):=by
  have a:(0:Int)≤M:=by omega
  have b:M≤9223372036854775807:=by omega
  have c:8*M≤281474976710656:=by omega
  simp [vT,jt,a,rW,b,c]
 simp only [mZ,rsh,rld,yx,aa,oE,e1,e3]
 have g1:ldA true 1 (H2.new (.cells (nh [.int .i64 0] (M*1)) true)) (.ptr b1 0)=some (.agg (aU s)):=by
  have:b1≠H2.n:=by omega
  simp [this,h1]
 have g0:ldA false 1 (H2.new (.cells (nh [.int .i64 0] (M*1)) true)) (.ptr b1 0)=some (.imm 6 (s.map bx)):=by
  have:b1≠H2.n:=by omega
  simp [this,h1,aU]
 simp only [g1,g0,aa,cI,List.length_map]
 have hkn:Kn L s H2.n M (H2.new (.cells (nh [.int .i64 0] (M*1)) true)):=by
  refine ⟨by simp,_,by simp; rfl,by simp [nh],fun e k he hk=>⟨0,?_,.inl rfl⟩⟩
  have h2:(e+1)*s.length≤L.length*s.length:=Nat.mul_le_mul_right _ he
  rw [Nat.succ_mul] at h2
  have h3:e*s.length+k<M:=by omega
  unfold nh
  rw [List.getElem?_map,List.getElem?_range (by omega)]
  simp [Nat.mod_one]
 have hn1:(s.length:Int)=((s.length - 1+1:Nat):Int):=by omega
 rw [hn1]
 refine KH hB hN hsm hs hd hM hA (s.length - 1) (by omega) en _ _ he hkn fun H4 _ _=>?_
 have:frB L s en=bQ (AA L) L s (s.length - 1) en:=by unfold frB; simp [h0']
 rw [← this]
 exact hK _
section
attribute [local irreducible] cz.L0
theorem Fo (hB:cH L L.length d) (hN:L.length≤4096) (hsm:∀ e,e<L.length→SmN (ca (cB L e))):∀ (f:Nat) (l:List Sl) (dp:Nat),f≤12→HQ f l→ld f l→dp+f≤100 →
  (∀ s ∈ l,RSl L s∧Dl σ L d s dp)∧∀ (e:Nat) (H:Hp),e<L.length→az Tryz.prog σ dX [dZ L d,I (e:Int),sls l,I (dp:Int)] H (Bo (AA L l e)) H:=by
 intro f
 induction f with
 | zero=>intro l dp _ h; exact h.elim
 | succ f ih =>
  intro l dp hf hl hn hd
  have hb:∀ s ∈ l,RSl L s∧Dl σ L d s dp:=by
   intro s hs
   have h1:=hl.2 s hs
   refine ⟨⟨h1.1,fun p hp=>(h1.2 p hp).1,fun p hp q hq=>((h1.2 p hp).2 q hq).1⟩,fun p hp q hq hk e H he=>?_⟩
   exact (ih q.list (dp+1) (by omega) (((h1.2 p hp).2 q hq).2 hk) (hn s hs p hp q hq) (by omega)).2 e H he
  refine ⟨hb,fun e H he=>?_⟩
  refine bl (fun K hK=>cz.run ?_) (by simp [aP,bF,ey,kM]) rfl H
  rw [← AP hn hf] at hK
  have L0:∀ (k m:Nat) (H:Hp),l.length - m=k→m≤l.length→(∀ H,K (Bo ((l.drop m).any fun s=>frB L s e)) H)→cz.L0 σ K (dZ L d) (I (e:Int)) (sls l) (I (dp:Int)) (I (m:Int)) H:=by
   intro k
   induction k with
   | zero =>
    intro m H hk hm hK
    have:m=l.length:=by omega
    subst this
    refine cz.L0_step ?_
    simp
    simpa using hK H
   | succ k ihk =>
    intro m H hk hm hK
    have hlt:m<l.length:=by omega
    obtain ⟨s,hs⟩:=cb hlt
    rw [cm hs,List.any_cons] at hK
    have hlt':(m:Int)<l.length:=by omega
    have hix:aJ 1 (sls l) (I (m:Int))=some (.ip (aU s)):=bS hs
    refine cz.L0_step ?_
    simp only [nL,aa,bA,hlt',decide_true,ah,if_true,hix,e8,nG]
    have h1:=hb s (List.mem_of_getElem? hs)
    refine am (xQ hB hN hsm h1.1 (by omega) h1.2 _) ?_
    have i1:(0:Int)≤(e:Int):=by omega
    have i2:(e:Int)<(L.length:Int):=by omega
    simp only [i1,i2,decide_true,Bool.and_self,Bool.true_and,Int.toNat_natCast]
    cases hb:frB L s e with
    | true=>rw [hb] at hK; simpa using hK H
    | false =>
     rw [hb] at hK
     simp only [ah,Bool.false_eq_true,if_false,bN,aa]
     rw [cO hlt hl.1 (by decide)]
     exact ihk (m+1) H (by omega) (by omega) (by simpa using hK)
  exact L0 _ 0 _ rfl (Nat.zero_le _) hK
end
end Go.Proofs.YthmaggcfghjmfaaGreat.Ev
namespace Go.Proofs.YthmaggcfghjmfaaGreat.Ev
set_option linter.unusedVariables false
set_option linter.unusedSimpArgs false
inductive Sk where
 | same
 | sl (sz:Nat) (row:List Sk)
 | agg (row:List Sk)
 | ptr (row:List Sk)
def kj (sz:Nat) (g:List AV→Option (List AV)):Nat→List AV→Option (List (List AV))
 | 0,_=>some []
 | n+1,l=>match g (l.take sz) with
  | some r=>match kj sz g n (l.drop sz) with
   | some rs=>some (r::rs)
   | none=>none
  | none=>none
mutual
def zn (H:Hp):Sk→AV→Option AV
 | .same,x=>bif bF x then some x else none
 | .sl sz row,x=>match x with
  | .lit (.slice none 0 0)=>some (.imm sz [])
  | .emp=>some (.imm sz [])
  | .se _ _ _=>some (.imm sz [])
  | .imm s rows=>bif bF (.imm s rows) then some (.imm s rows) else none
  | .sl id off s len _=>bif Nat.beq s sz then match H.get id with
    | some (.cells cs _)=>match kj sz (fun l=>frzR H row l) len (cs.drop off) with
     | some rows=>bif Nat.beq row.length sz then some (.imm sz rows) else none
     | none=>none
    | _=>none
   else none
  | _=>none
 | .agg row,x=>match x with
  | .agg xs=>match frzR H row xs with
   | some ys=>some (.agg ys)
   | none=>none
  | _=>none
 | .ptr row,x=>match x with
  | .ptr id off=>match H.get id with
   | some (.cells cs _)=>match frzR H row ((cs.drop off).take row.length) with
    | some ys=>some (.ip ys)
    | none=>none
   | _=>none
  | _=>none
def frzR (H:Hp):List Sk→List AV→Option (List AV)
 | [],xs=>match xs with
  | []=>some []
  | _=>none
 | k::ks,xs=>match xs with
  | x::xs=>match zn H k x with
   | some y=>match frzR H ks xs with
    | some ys=>some (y::ys)
    | none=>none
   | none=>none
  | []=>none
end
theorem na {sz:Nat} {g:List AV→Option (List AV)} {H:Hp} (hg:∀ l r,g l=some r→FzL H l r):∀ (n:Nat) (l:List AV) (rows:List (List AV)),kj sz g n l=some rows→rows.length=n∧∀ (i:Nat) (row:List AV),rows[i]?=some row→FzL H ((l.drop (i*sz)).take sz) row
 | 0,l,rows,h=>by
  simp only [kj,Option.some.injEq] at h
  subst h
  exact ⟨rfl,fun i row h=>by simp at h⟩
 | n+1,l,rows,h=>by
  simp only [kj] at h
  split at h
  case h_2=>cases h
  rename_i r hr
  split at h
  case h_2=>cases h
  rename_i rs hrs
  simp only [Option.some.injEq] at h
  subst h
  obtain ⟨h1,h2⟩:=na hg n _ _ hrs
  refine ⟨by simp [h1],fun i row hi=>?_⟩
  cases i with
  | zero =>
   simp at hi
   subst hi
   simpa using hg _ _ hr
  | succ i =>
   simp at hi
   have:=h2 i row hi
   rw [List.drop_drop] at this
   rw [Nat.succ_mul,Nat.add_comm]
   exact this
theorem FzL.len {H:Hp} {xs ys:List AV} (h:FzL H xs ys):xs.length=ys.length:=h.get.1
mutual
theorem oB {H:Hp}:∀ (k:Sk) (x y:AV),zn H k x=some y→Fz H x y
 | .same,x,y,h=>by
  simp only [zn] at h
  cases hn:bF x with
  | false=>rw [hn] at h; cases h
  | true=>rw [hn] at h; cases h; exact .refl hn
 | .sl sz row,x,y,h=>by
  simp only [zn] at h
  split at h
  ·cases h; exact .nil
  ·cases h; exact .emp
  ·cases h; exact .se
  ·rename_i s rows
   cases hn:bF (.imm s rows) with
   | false=>rw [hn] at h; cases h
   | true=>rw [hn] at h; cases h; exact .refl hn
  ·rename_i id off s len cap
   cases hs:Nat.beq s sz with
   | false=>rw [hs] at h; cases h
   | true =>
    rw [hs] at h
    have:=Nat.eq_of_beq_eq_true hs
    subst this
    simp only [cond_true] at h
    split at h
    case h_2=>cases h
    rename_i cs ex hg
    split at h
    case h_2=>cases h
    rename_i rows hr
    cases hl:Nat.beq row.length s with
    | false=>rw [hl] at h; cases h
    | true =>
     rw [hl] at h
     cases h
     have hlen:=Nat.eq_of_beq_eq_true hl
     obtain ⟨h1,h2⟩:=na (fun l r hh=>n_ row l r hh) _ _ _ hr
     have hrow:∀ (i:Nat) (r:List AV),rows[i]?=some r→r.length=s:=by
      intro i r hi
      obtain ⟨_,hh⟩:=na (g:=fun l=>frzR H row l) (fun l r hh=>n_ row l r hh) _ _ _ hr
      exact pK (fun l r hh=>by rw [← hlen]; exact uW row l r hh) _ _ _ hr i r hi
     refine .sl (fun i j=>cs.getD (off+(i*s+j)) .any) hg h1 hrow (fun i r j y hi hy=>?_) (fun i r j y hi hy=>?_)
     ·obtain ⟨x,hx,_⟩:=(h2 i r hi).get.2 j y hy
      have hj:j<s:=by rw [← hrow i r hi]; exact (List.getElem?_eq_some_iff.1 hy).1
      rw [List.getElem?_take,if_pos hj,List.getElem?_drop,List.getElem?_drop] at hx
      simp [hx]
     ·obtain ⟨x,hx,hf⟩:=(h2 i r hi).get.2 j y hy
      have hj:j<s:=by rw [← hrow i r hi]; exact (List.getElem?_eq_some_iff.1 hy).1
      rw [List.getElem?_take,if_pos hj,List.getElem?_drop,List.getElem?_drop] at hx
      simp [hx]
      exact hf
  ·cases h
 | .agg row,x,y,h=>by
  simp only [zn] at h
  split at h
  case h_2=>cases h
  split at h
  case h_2=>cases h
  rename_i hr
  cases h
  exact Fz.aggL (n_ row _ _ hr)
 | .ptr row,x,y,h=>by
  simp only [zn] at h
  split at h
  case h_2=>cases h
  rename_i id off
  split at h
  case h_2=>cases h
  rename_i cs ex hg
  split at h
  case h_2=>cases h
  rename_i ys hr
  cases h
  have hl:=(n_ row _ _ hr).get
  refine .ptr (fun j=>cs.getD (off+j) .any) hg (fun j y hy=>?_) (fun j y hy=>?_)
  ·obtain ⟨x,hx,_⟩:=hl.2 j y hy
   rw [List.getElem?_take] at hx
   split at hx
   ·rw [List.getElem?_drop] at hx
    simp [hx]
   ·cases hx
  ·obtain ⟨x,hx,hf⟩:=hl.2 j y hy
   rw [List.getElem?_take] at hx
   split at hx
   ·rw [List.getElem?_drop] at hx
    simp [hx]
    exact hf
   ·cases hx
theorem n_ {H:Hp}:∀ (ks:List Sk) (xs ys:List AV),frzR H ks xs=some ys→FzL H xs ys
 | [],xs,ys,h=>by
  simp only [frzR] at h
  split at h
  ·cases h; exact .nil
  ·cases h
 | k::ks,xs,ys,h=>by
  simp only [frzR] at h
  split at h
  case h_2=>cases h
  rename_i x xs
  split at h
  case h_2=>cases h
  rename_i y hy
  split at h
  case h_2=>cases h
  rename_i zs hz
  cases h
  exact .cons (oB k x y hy) (n_ ks xs zs hz)
theorem uW {H:Hp}:∀ (ks:List Sk) (xs ys:List AV),frzR H ks xs=some ys→ys.length=ks.length
 | [],xs,ys,h=>by
  simp only [frzR] at h
  split at h
  ·cases h; rfl
  ·cases h
 | k::ks,xs,ys,h=>by
  simp only [frzR] at h
  split at h
  case h_2=>cases h
  split at h
  case h_2=>cases h
  split at h
  case h_2=>cases h
  rename_i zs hz
  cases h
  simp [uW ks _ _ hz]
theorem pK {sz:Nat} {g:List AV→Option (List AV)} (hg:∀ l r,g l=some r→r.length=sz):∀ (n:Nat) (l:List AV) (rows:List (List AV)),kj sz g n l=some rows→∀ (i:Nat) (r:List AV),rows[i]?=some r→r.length=sz
 | 0,l,rows,h,i,r,hi=>by
  simp only [kj,Option.some.injEq] at h
  subst h
  simp at hi
 | n+1,l,rows,h,i,r,hi=>by
  simp only [kj] at h
  split at h
  case h_2=>cases h
  rename_i r0 hr0
  split at h
  case h_2=>cases h
  rename_i rs hrs
  cases h
  cases i with
  | zero=>simp at hi; subst hi; exact hg _ _ hr0
  | succ i=>exact pK hg n _ _ hrs i r (by simpa using hi)
end
def wB:Sk:=.sl 1 [.same]
def KO:Sk:=.sl 3 [.same,.same,.same]
def K8:Sk:=.sl 2 [.same,.same]
def L7:List Sk:=[.same,.same,.same,wB,K8]
def LE:Sk:=.sl 5 L7
def Le (pss:Sk):List Sk:=[.same,wB,wB,KO,pss]
def HF:Nat→Sk
 | 0=>.same
 | n+1=>.sl 4 [.same,.same,.same,.sl 1 [.sl 6 (.same::Le (HF n))]]
def LJ (n:Nat):Sk:=.sl 6 (.same::Le (HF n))
def skS (n:Nat):Sk:=.agg [LJ n]
end Go.Proofs.YthmaggcfghjmfaaGreat.Ev
namespace Go.Proofs.YthmaggcfghjmfaaGreat.Ev
theorem az.conv {P:Program} {σ:Sig} {f:Nat} {xs ys:List AV} {r:AV} {H H2 H3:Hp} (k:Wk σ ys H xs H2) (h:az P σ f xs H2 r H3):az P σ f ys H r H3:=by
 refine ⟨h.1,fun B w0 E w vs hσ hst hxs=>?_⟩
 obtain ⟨E2,h1,h2,h3⟩:=k hσ hst hxs
 refine (h.2 B w0 E2 w vs hσ h2 h3).mono fun e w' hh=>?_
 obtain ⟨E',v,rfl,hext,st2,hrel⟩:=hh
 exact ⟨E',v,rfl,h1.trans hext,st2,hrel⟩
def Hp.bare (n:Nat):Hp:=⟨n,.leaf⟩
@[simp] theorem Hp.bare_n (n:Nat):(Hp.bare n).n=n:=rfl
@[simp] theorem Hp.bare_get (n j:Nat):(Hp.bare n).get j=none:=by simp [Hp.bare,Hp.get,Tr.get]
theorem FzL.t {H:Hp} {xs ys:List AV} (h:FzL H xs ys):FzT H xs ys:=by
 induction h with
 | nil=>exact .nil
 | cons h hs ih=>exact .fz h ih
theorem az.drop {P:Program} {σ:Sig} {f:Nat} {xs ys:List AV} {r:AV} {H:Hp} (h:∀ H,az P σ f xs H r H) (hx:FzL H ys xs):az P σ f ys H r (Hp.bare H.n) :=
 az.conv (Wk.frz (H2:=Hp.bare H.n) (Hd:=H) rfl rfl (fun id k hk=>⟨hk,by simp⟩) (fun id k2 hk=>by simp at hk) hx.t) (h _)
theorem o9 {α:Type} {o:Option α} {x:α} {K:α→Prop} (h:o=some x) (k:K x):bnd o K:=by rw [h]; exact k
end Go.Proofs.YthmaggcfghjmfaaGreat.Ev
namespace Go.Proofs.YthmaggcfghjmfaaGreat.Ev
set_option linter.unusedVariables false
set_option linter.unusedSimpArgs false
inductive Gsc (sz:Nat) (H:Hp):AV→List (List AV)→Prop where
 | gs {x:AV} {rows:List (List AV)} (h:Gs sz H x rows):Gsc sz H x rows
 | full {id:Nat} {ex:Bool} {rows:List (List AV)} (hlt:id<H.n) (hg:H.get id=some (.cells rows.flatten ex)) (hsz:∀ row ∈ rows,row.length=sz) (h0:rows≠[]):Gsc sz H (.sl id 0 sz rows.length (some rows.length)) rows
theorem Gsc.lit {sz:Nat} {H:Hp} {row:List AV} (hl:row.length=sz):Gsc sz (H.new (.cells row true)) (.sl H.n 0 sz 1 (some 1)) [row]:=by
 refine .full (id:=H.n) (rows:=[row]) (by simp) (by simp; rfl) (by simp [hl]) (by simp)
theorem a_.drop {P:Program} {C:Ctx P} {c:Code} {T T2:List AV} {H:Hp} {Q:Exit→List AV→Hp→Prop} (hT:FzT H T T2) (h:a_ C c T2 (Hp.bare H.n) Q):a_ C c T H Q :=
 a_.conv (Wk.frz (H2:=Hp.bare H.n) (Hd:=H) rfl rfl (fun id k hk=>⟨hk,by simp⟩) (fun id k2 hk=>by simp at hk) hT) h
end Go.Proofs.YthmaggcfghjmfaaGreat.Ev
namespace Go.Proofs.YthmaggcfghjmfaaGreat.Ev
end Go.Proofs.YthmaggcfghjmfaaGreat.Ev
namespace Go.Proofs.YthmaggcfghjmfaaGreat.Ev
set_option linter.unusedVariables false
set_option linter.unusedSimpArgs false
variable {σ:Sig} {L:List Nd} {d:List Nat}
def TxL:Nat→List Sl→Prop
 | 0,_=>False
 | f+1,l=>∀ s ∈ l,∀ p ∈ s,(∀ a ∈ p.c.attrs,a.text.data.size<4294967281)∧∀ q ∈ p.c.pseudos,TxL f q.list
theorem TxL.one {f:Nat} {l:List Sl} (h:TxL f l) {s:Sl} (hs:s ∈ l):TxL f [s]:=by
 cases f with
 | zero=>exact h
 | succ f=>exact fun s' hs'=>by rw [List.mem_singleton.1 hs']; exact h s hs
theorem xo.of {c:Cp} (h:tE c) (ht:∀ a ∈ c.attrs,a.text.data.size<4294967281):xo c:=⟨h.ids,h.classes,h.attrs,h.ps,ht⟩
theorem Hv:∀ (f:Nat) (l:List Sl) (dp:Nat),kr f l→TxL f l→fI f l dp=true→HQ f l
 | 0,l,dp,h,_,_=>h
 | f+1,l,dp,h,ht,hm=>by
  refine ⟨Nat.le_trans h.1 (by decide),fun s hs=>?_⟩
  have h1:=h.2 s hs
  have h2:=List.all_eq_true.1 hm s hs
  unfold o7 at h2
  simp only [Bool.and_eq_true,decide_eq_true_eq] at h2
  refine ⟨h2.1,fun p hp=>?_⟩
  have h3:=h1.2 p hp
  have h4:=ht s hs p hp
  refine ⟨.of h3.1 h4.1,fun q hq=>⟨(h3.2.2 q hq).1,fun hk=>?_⟩⟩
  have h5:=List.all_eq_true.1 (List.all_eq_true.1 h2.2 p hp) q hq
  unfold pz at h5
  rw [if_pos hk] at h5
  simp only [Bool.and_eq_true] at h5
  exact Hv f q.list (dp - 1) (h3.2.2 q hq).2 (h4.2 q hq) h5.2
theorem HT {f:Nat} {s:Sl} (hn:ld f [s]) (hf:f≤12) (e:Nat):AA L [s] e=frB L s e:=by
 rw [← AP hn hf]
 simp [rV,frB]
theorem vO {f:Nat} {s:Sl} {dp:Nat}:fI (f+1) [s] dp=o7 (fI f) dp s:=by simp [fI]
theorem qY (M:McT σ L d) {f:Nat} {s:Sl} (S:oe (f+1) [s]) (ht:TxL (f+1) [s]) (e:Int) (H:Hp):az Tryz.prog σ dL [dZ L d,I e,.agg (aU s)] H (Bo (sa L (f+1) s e)) H:=by
 refine bl (fun K hK=>gO.run ?_) (by simp [aP,bF,ey,lA]) rfl H
 have hwf:=S.wf.2 s (by simp)
 have hn:=S.nest
 simp only [d7]
 have hl:ldA true 1 (Hp.empty.new (.cells (aU s) true)) (.ptr Hp.empty.n 0)=some (.agg (aU s)):=by simp
 simp only [hl,aa]
 refine am (KJ f s 0 _ hwf (fun p hp q hq=>hn s (by simp) p hp q hq) (by decide)) ?_
 simp only [dQ,Bool.not_not,aa,ah,Nat.sub_zero]
 unfold sa kF at hK
 simp only [List.any_cons,List.any_nil,Bool.or_false,vO] at hK
 cases hm:o7 (fI f) 8 s with
 | false=>rw [hm] at hK; simpa using hK _
 | true =>
  rw [hm] at hK
  simp only [if_true,hl,aa]
  have hm':fI (f+1) [s] 8=true:=by rw [vO]; exact hm
  have hr:=Hv (f+1) [s] 8 S.ok ht hm'
  have h1:=(Fo (σ:=σ) M.hB M.hN M.sm (f+1) [s] 0 S.hf hr hn (by have:=S.hf; omega)).1 s (by simp)
  refine am (xQ M.hB M.hN M.sm h1.1 (by decide) h1.2 _) ?_
  rw [HT hn S.hf,Bool.true_and] at hK
  exact hK _
end Go.Proofs.YthmaggcfghjmfaaGreat.Ev
namespace Go.Proofs.YthmaggcfghjmfaaGreat.Ev
set_option linter.unusedVariables false
set_option linter.unusedSimpArgs false
theorem oK {α:Type} {f:α→List AV} {P:α→Prop}:∀ {rows:List (List AV)},(∀ row ∈ rows,∃ x,row=f x∧P x)→∃ l:List α,rows=l.map f∧∀ x ∈ l,P x
 | [],_=>⟨[],rfl,fun x hx=>by cases hx⟩
 | r::rs,h=>by
  obtain ⟨x,hx,px⟩:=h r (by simp)
  obtain ⟨l,hl,pl⟩:=oK (rows:=rs) fun row hr=>h row (by simp [hr])
  refine ⟨x::l,by rw [hx,hl]; rfl,fun y hy=>?_⟩
  rcases List.mem_cons.1 hy with rfl | hy
  ·exact px
  ·exact pl y hy
theorem KS {ts:List Nat} {zs:List AV} (h:Sh tiT.get (uH::ts) zs):∃ n ys,zs=I n::ys∧i64 n∧Sh tiT.get ts ys:=by
 obtain ⟨i,hi,hd,_⟩:=Ci
 obtain ⟨n,ys,e,hw,hs⟩:=Is hi hd h
 refine ⟨n,ys,e,?_,hs⟩
 simp [Lit.wf,IntKind.min,IntKind.max,IntKind.signed,IntKind.bits] at hw
 unfold i64
 omega
theorem Hy {ts:List Nat} {zs:List AV} (h:Sh tiT.get (eN::ts) zs):∃ s ys,zs=Sx s::ys∧s.data.size≤dF∧Sh tiT.get ts ys:=by
 obtain ⟨i,hi,hd,_⟩:=j7
 obtain ⟨s,ys,e,hw,hs⟩:=BF hi hd h
 exact ⟨s,ys,e,Nat.le_trans hw (by decide),hs⟩
theorem ES {t e sz:Nat} (hT:∃ i,tiT.get t=some i∧i.d=.slice e∧i.size=1) (hE:∃ i,tiT.get e=some i∧i.size=sz) {ts:List Nat} {zs:List AV} (h:Sh tiT.get (t::ts) zs) :
  ∃ rows ys,zs=.imm sz rows::ys∧(∀ row ∈ rows,Sh tiT.get [e] row)∧rows.length≤dF∧Sh tiT.get ts ys:=by
 obtain ⟨i,hi,hd,_⟩:=hT
 obtain ⟨j',hj',hs'⟩:=hE
 rcases z_ hi hd h with ⟨ys,_,_⟩ | ⟨j,rows,ys,hj,e,hr,hl,hm,_,hs⟩
 ·cases h with
  | sl h' hd' he hc hl hm hb hs=>rw [hi] at h'; cases h'; rw [hd] at hd'; cases hd'; rw [hj'] at he; cases he; exact ⟨_,_,by rw [hs'],hc,hm,hs⟩
  | _=>simp_all
 ·rw [hj'] at hj
  cases hj
  rw [hs'] at e
  exact ⟨rows,ys,e,hr,hm,hs⟩
theorem uC {t:Nat} {fs:List (Nat × Nat)} {sz:Nat} (hT:∃ i,tiT.get t=some i∧i.d=.struct fs∧i.size=sz) {ts:List Nat} {zs:List AV} (h:Sh tiT.get (t::ts) zs):Sh tiT.get (fs.map (·.2)++ts) zs:=by
 obtain ⟨i,hi,hd,_⟩:=hT
 exact zE hi hd h
theorem Cz {t sz:Nat} {d:TD} (h:∃ i,tiT.get t=some i∧i.d=d∧i.size=sz):∃ i,tiT.get t=some i∧i.size=sz:=by
 obtain ⟨i,a,_,b⟩:=h
 exact ⟨i,a,b⟩
def BS:List Nat:=[uH,eN,J9,i7,rT,wL,rY,wZ,ry,pX,t8,oR,qR,dH,lQ,gI,lF]
theorem oN:qk tiT.get BS=true:=by kernel_rfl
end Go.Proofs.YthmaggcfghjmfaaGreat.Ev
namespace Go.Proofs.YthmaggcfghjmfaaGreat.Ev
theorem HE {t sz:Nat} {d:TD} (hT:∃ i,tiT.get t=some i∧i.d=d∧i.size=sz) (ha:d.agg=false) {x:AV} (h:ShV tiT.get t x):Sh tiT.get [t] [x]:=by
 obtain ⟨i,hi,hd,_⟩:=hT
 unfold ShV at h
 rw [hi] at h
 simp only [hd,ha] at h
 exact h
theorem KL {x:AV} (h:ShV tiT.get eN x):∃ s,x=Sx s∧s.data.size≤dF:=by
 obtain ⟨n,ys,e,w,hn⟩:=Hy (HE j7 rfl h)
 cases e
 exact ⟨n,rfl,w⟩
end Go.Proofs.YthmaggcfghjmfaaGreat.Ev
namespace Go.Proofs.YthmaggcfghjmfaaGreat.Ev
theorem te {ts:List Nat} {zs:List AV} (h:Sh tiT.get (eN::ts) zs):∃ s ys,zs=Sx s::ys∧s.data.size≤reachBytes∧Sh tiT.get ts ys:=by
 obtain ⟨i,hi,hd,_⟩:=j7
 obtain ⟨s,ys,e,hw,hs⟩:=BF hi hd h
 exact ⟨s,ys,e,hw,hs⟩
theorem uw {t e sz B:Nat} (hT:∃ i,tiT.get t=some i∧i.d=.slice e∧i.size=1) (hE:∃ i,tiT.get e=some i∧i.size=sz) (hB:(tiT.get e).map (·.bytes)=some B) {ts:List Nat} {zs:List AV} (h:Sh tiT.get (t::ts) zs) :
  ∃ rows ys,zs=.imm sz rows::ys∧(∀ row ∈ rows,Sh tiT.get [e] row)∧rows.length*B≤reachBytes∧Sh tiT.get ts ys:=by
 obtain ⟨i,hi,hd,_⟩:=hT
 obtain ⟨j',hj',hs'⟩:=hE
 rw [hj'] at hB
 simp only [Option.map_some,Option.some.injEq] at hB
 cases h with
 | sl h' hd' he hc hl hm hb hs=>rw [hi] at h'; cases h'; rw [hd] at hd'; cases hd'; rw [hj'] at he; cases he; exact ⟨_,_,by rw [hs'],hc,by rw [← hB]; exact hb,hs⟩
 | _=>simp_all
theorem Gy {ts:List Nat} {zs:List AV} (h:Sh tiT.get (i7::ts) zs):∃ l ys,zs=dG l::ys∧l.length*16≤reachBytes∧Sh tiT.get ts ys:=by
 obtain ⟨rows,ys,e,hr,hm,hs⟩:=uw ru (Cz j7) (B:=16) (by kernel_rfl) h
 obtain ⟨l,hl,hp⟩:=oK (f:=fun s=>[Sx s]) (P:=fun s=>True) fun row hrow=>by
  obtain ⟨s,ys,e,hw,hs⟩:=Hy (hr row hrow)
  rw [wG hs] at e
  exact ⟨s,e,trivial⟩
 exact ⟨l,ys,by rw [e,hl]; rfl,by rw [hl] at hm; simpa using hm,hs⟩
theorem FO {ts:List Nat} {zs:List AV} (h:Sh tiT.get (gI::ts) zs):∃ (l:List (ByteArray × ByteArray)) (ys:List AV),zs=.imm 2 (l.map cS)::ys∧(l.length*32≤reachBytes∧∀ x ∈ l,x.1.data.size≤reachBytes)∧Sh tiT.get ts ys:=by
 obtain ⟨rows,ys,e,hr,hm,hs⟩:=uw pq (Cz mX) (B:=32) (by kernel_rfl) h
 obtain ⟨l,hl,hp⟩:=oK (f:=cS) (P:=fun x=>x.1.data.size≤reachBytes) fun row hrow=>by
  obtain ⟨a,y1,e1,w1,h2⟩:=te (uC mX (hr row hrow))
  obtain ⟨b,y2,e2,w2,h3⟩:=te h2
  rw [wG h3] at e2
  exact ⟨⟨a,b⟩,by rw [e1,e2]; rfl,w1⟩
 exact ⟨l,ys,by rw [e,hl],⟨by rw [hl] at hm; simpa using hm,hp⟩,hs⟩
theorem EE {ts:List Nat} {zs:List AV} (h:Sh tiT.get (dH::ts) zs):∃ (l:List Nd) (ys:List AV),zs=nds l::ys∧(∀ x ∈ l,mV x)∧l.length≤dF∧Sh tiT.get ts ys:=by
 obtain ⟨rows,ys,e,hr,hm,hs⟩:=ES kV (Cz m8) h
 obtain ⟨l,hl,hp⟩:=oK (f:=bt) (P:=mV) fun row hrow=>by
  obtain ⟨p,y1,e1,w1,h2⟩:=KS (uC m8 (hr row hrow))
  obtain ⟨t,y2,e2,w2,h3⟩:=te h2
  obtain ⟨i,y3,e3,w3,h4⟩:=te h3
  obtain ⟨c,y4,e4,w4,h5⟩:=Gy h4
  obtain ⟨a,y5,e5,w5,h6⟩:=FO h5
  rw [wG h6] at e5
  exact ⟨⟨p,t,i,c,a⟩,by rw [e1,e2,e3,e4,e5]; rfl,w1,w2,w4,w5.1,w5.2⟩
 exact ⟨l,ys,by rw [e,hl]; rfl,hp,by rw [hl] at hm; simpa using hm,hs⟩
theorem FZ {x:AV} (h:ShV tiT.get dH x):∃ l,x=nds l∧(∀ n ∈ l,mV n)∧l.length≤dF:=by
 obtain ⟨l,ys,e,w,hl,hn⟩:=EE (HE kV rfl h)
 cases e
 exact ⟨l,rfl,w,hl⟩
end Go.Proofs.YthmaggcfghjmfaaGreat.Ev
namespace Go.Proofs.YthmaggcfghjmfaaGreat.Ev
set_option linter.unusedVariables false
set_option linter.unusedSimpArgs false
theorem qT {α:Type} {f:α→List AV} {g:α→Nat}:∀ {l:List α},(∀ x ∈ l,g x≤bkL (f x))→(l.map g).sum≤dz (l.map f)
 | [],_=>by simp [dz]
 | x::r,h=>by
  have h1:=h x (by simp)
  have h2:=qT (f:=f) (g:=g) (l:=r) fun y hy=>h y (by simp [hy])
  simp only [List.map_cons,List.sum_cons,dz]
  omega
theorem nr {α:Type} {f:α→List AV} {l:List α} (h:∀ x ∈ l,1≤bkL (f x)):l.length≤dz (l.map f):=by
 have h1:=qT (f:=f) (g:=fun _=>1) (l:=l) h
 have h2:∀ l:List α,(l.map fun _=>1).sum=l.length:=by
  intro l
  induction l with
  | nil=>rfl
  | cons a r ih=>simp only [List.map_cons,List.sum_cons,List.length_cons,ih]; omega
 rw [h2] at h1
 exact h1
theorem th {α:Type} {f:α→List AV} {l:List α} {x:α} (h:x ∈ l):bkL (f x)≤dz (l.map f):=uU (List.mem_map_of_mem h)
theorem zI (s:ByteArray):bk (Sx s)=s.data.size+1:=by simp [bk]
theorem IF (n:Int):bk (I n)=1:=by simp [bk]
theorem tA (sz:Nat) (rows:List (List AV)):bk (.imm sz rows)=dz rows+1:=by simp [bk]
theorem FG (l:List ByteArray):bk (dG l)=dz (l.map fun s=>[Sx s])+1:=by unfold dG; rw [tA]
theorem mo (c:Cp):bkL (bR c)=(c.tag.data.size+1)+((dz (c.ids.map fun s=>[Sx s])+1)+((dz (c.classes.map fun s=>[Sx s])+1)+((dz (c.attrs.map cg)+1)+(dz (c.pseudos.map bv)+1)))):=by
 rw [cX]
 simp only [bkL,zI,FG,tA,Nat.add_zero]
theorem xS (p:Pt):bkL (bx p)=1+bkL (bR p.c):=by rw [d6]; simp only [bkL,IF]
theorem sN (q:Ps):bkL (bv q)=1+(1+(1+(dz (q.list.map aU)+1))):=by rw [eJ]; simp only [bkL,IF,tA,Nat.add_zero]
theorem u5 (s:Sl):bkL (aU s)=dz (s.map bx)+1:=by unfold aU; simp only [bkL,tA,Nat.add_zero]
theorem Cu (a:At):bkL (cg a)=(a.name.data.size+1)+(1+(a.text.data.size+1)):=by unfold cg; simp only [bkL,zI,IF,Nat.add_zero]
structure PtB (f:Nat) (p:Pt):Prop where
 c:tE p.c
 ps:p.c.pseudos.length≤NB
 q:∀ q ∈ p.c.pseudos,(i64 q.a∧i64 q.b)∧kr f q.list
 tx:∀ a ∈ p.c.attrs,a.text.data.size<4294967281
 tq:∀ q ∈ p.c.pseudos,TxL f q.list
 cnt:(p.c.pseudos.map fun q=>gd f q.list).sum+6≤bkL (bx p)
theorem Ga {f:Nat} (ih:∀ l,i6 dF l→p_ f l→dz (l.map aU)≤NB→kr f l∧TxL f l∧gd f l≤dz (l.map aU)) {p:Pt} (hw:tL dF p.c) (hf:Gl f p) (hb:bkL (bR p.c)≤NB):PtB f p:=by
 have hN:NB=1048576:=rfl
 have r:reachBytes=140737488351232:=rfl
 rw [mo,hN] at hb
 have l1:p.c.ids.length≤dz (p.c.ids.map fun s=>[Sx s]):=nr fun s _=>by simp only [bkL,zI]; omega
 have l2:p.c.classes.length≤dz (p.c.classes.map fun s=>[Sx s]):=nr fun s _=>by simp only [bkL,zI]; omega
 have l3:p.c.attrs.length≤dz (p.c.attrs.map cg):=nr fun s _=>by rw [Cu]; omega
 have l4:p.c.pseudos.length≤dz (p.c.pseudos.map bv):=nr fun s _=>by rw [sN]; omega
 have ht:∀ a ∈ p.c.attrs,a.text.data.size≤1048576:=fun a ha=>by
  have h1:=th (f:=cg) ha
  rw [Cu] at h1
  omega
 have hq:∀ q ∈ p.c.pseudos,kr f q.list∧TxL f q.list∧gd f q.list≤dz (q.list.map aU):=fun q hq=>by
  have h1:=th (f:=bv) hq
  rw [sN] at h1
  exact ih q.list (Ps.wf_iff.1 (hw.ps q hq)).2.2.2 (hf.2 q hq) (by rw [hN]; omega)
 refine ⟨⟨by omega,by omega,by omega,fun a ha=>⟨by have:=ht a ha; omega⟩,by omega⟩,by omega,fun q h=>⟨⟨(Ps.wf_iff.1 (hw.ps q h)).2.1,(Ps.wf_iff.1 (hw.ps q h)).2.2.1⟩,(hq q h).1⟩,fun a ha=>by have:=ht a ha; omega,fun q h=>(hq q h).2.1,?_⟩
 have h5:(p.c.pseudos.map fun q=>gd f q.list).sum≤dz (p.c.pseudos.map bv):=qT fun q h=>by
  have:=(hq q h).2.2
  rw [sN]; omega
 rw [xS,mo]
 omega
theorem uN:∀ (f:Nat) (l:List Sl),i6 dF l→p_ f l→dz (l.map aU)≤NB→kr f l∧TxL f l∧gd f l≤dz (l.map aU)
 | 0,l,_,h,_=>h.elim
 | f+1,l,hw,hf,hb=>by
  have hN:NB=1048576:=rfl
  have hl:l.length≤dz (l.map aU):=nr fun s _=>by rw [u5]; omega
  have hs:∀ s ∈ l,s.length≤NB∧∀ p ∈ s,PtB f p:=fun s h=>by
   have h1:=th (f:=aU) h
   rw [u5] at h1
   have h2:s.length≤dz (s.map bx):=nr fun p _=>by rw [xS]; omega
   refine ⟨by omega,fun p hp=>?_⟩
   have h3:=th (f:=bx) hp
   rw [xS] at h3
   exact Ga (uN f) (Pt.wf_iff.1 ((hw.2 s h).2 p hp)).2 ((hf s h).2 p hp) (by omega)
  refine ⟨⟨by omega,fun s h=>⟨(hs s h).1,fun p hp=>⟨((hs s h).2 p hp).c,((hs s h).2 p hp).ps,((hs s h).2 p hp).q⟩⟩⟩,fun s h p hp=>⟨((hs s h).2 p hp).tx,((hs s h).2 p hp).tq⟩,?_⟩
  rw [gd]
  refine qT fun s h=>?_
  rw [u5]
  have:(s.map fun p=>(p.c.pseudos.map fun q=>gd f q.list).sum).sum≤dz (s.map bx):=qT fun p hp=>by
   have:=((hs s h).2 p hp).cnt
   omega
  omega
theorem Ar {l:List Sl} (hw:i6 dF l) (hf:p_ 11 l) (hb:dz (l.map aU)≤NB):oe 11 l∧TxL 11 l:=by
 obtain ⟨h1,h2,h3⟩:=uN 11 l hw hf hb
 exact ⟨⟨hw,h1,hf.nest,by decide,by omega⟩,h2⟩
end Go.Proofs.YthmaggcfghjmfaaGreat.Ev
namespace Go.Proofs.YthmaggcfghjmfaaGreat.Ev
set_option linter.unusedVariables false
set_option linter.unusedSimpArgs false
set_option maxRecDepth 100000
variable {σ:Sig}
def alL:List Nd:=[⟨-1,emp,emp,[],[]⟩,⟨0,emp,emp,[],[]⟩,⟨0,emp,emp,[],[]⟩,⟨0,emp,emp,[],[]⟩]
def alS:Sl:=[⟨0,.mk emp [] [] [] [.mk 6 2 1 []]⟩]
theorem alB:cH alL alL.length [0,1,1,1]:=by
 have h1:cH alL 1 [0]:=cH.first (by decide) rfl
 have h2:cH alL 2 [0,1]:=h1.next (p:=0) (x:=0) (by decide) (by decide) rfl (by decide) rfl (by decide)
 have h3:cH alL 3 [0,1,1]:=h2.next (p:=0) (x:=0) (by decide) (by decide) rfl (by decide) rfl (by decide)
 exact h3.next (p:=0) (x:=0) (by decide) (by decide) rfl (by decide) rfl (by decide)
theorem alW:∀ n ∈ alL,mV n:=by
 intro n hn
 simp only [alL,List.mem_cons,List.not_mem_nil,or_false] at hn
 rcases hn with rfl | rfl | rfl | rfl<;>exact ⟨by unfold i64; decide,by decide,by decide,by decide,by intro p hp; cases hp⟩
theorem Mi:∀ e,e<alL.length→SmN (ca (cB alL e)):=by
 intro e he
 have:e=0∨e=1∨e=2∨e=3:=by simp [alL] at he; omega
 rcases this with rfl | rfl | rfl | rfl<;>exact ⟨by decide,by decide,by intro p hp; cases hp⟩
theorem alM (hC:nP σ):McT σ alL [0,1,1,1]:=⟨hC,alB,by decide,Mi⟩
theorem Jx:oe 2 [alS]:=by
 refine ⟨⟨by decide,fun s hs=>?_⟩,⟨by decide,fun s hs=>?_⟩,fun s hs p hp q hq=>?_,by decide,by decide⟩
 ·rw [List.mem_singleton.1 hs]
  refine ⟨by decide,fun p hp=>?_⟩
  rw [List.mem_singleton.1 hp,Pt.wf_iff]
  refine ⟨by unfold i64; decide,by decide,⟨by decide,fun s h=>by cases h⟩,⟨by decide,fun s h=>by cases h⟩,by decide,(fun s h=>by cases h),by decide,fun q hq=>?_⟩
  rw [List.mem_singleton.1 hq,Ps.wf_iff]
  exact ⟨by unfold i64; decide,by unfold i64; decide,by unfold i64; decide,by decide,fun s h=>by cases h⟩
 ·rw [List.mem_singleton.1 hs]
  refine ⟨by decide,fun p hp=>?_⟩
  rw [List.mem_singleton.1 hp]
  refine ⟨⟨by decide,by decide,by decide,(fun s h=>by cases h),by decide⟩,by decide,fun q hq=>?_⟩
  rw [List.mem_singleton.1 hq]
  exact ⟨⟨by unfold i64; decide,by unfold i64; decide⟩,by decide,fun s h=>by cases h⟩
 ·rw [List.mem_singleton.1 hs] at hp
  rw [List.mem_singleton.1 hp] at hq
  rw [List.mem_singleton.1 hq]
  exact fun s h=>by cases h
theorem al1:sa alL 2 alS 1=true:=by kernel_rfl
theorem al2:sa alL 2 alS 2=false:=by kernel_rfl
theorem al3:sa alL 2 alS 3=true:=by kernel_rfl
theorem F3 (hC:nP σ) (H:Hp):az Tryz.prog σ iQ [] H (Bo true) H:=by
 refine bl (fun K hK=>mz.run ?_) rfl rfl H
 iterate 5 refine o9 rfl ?_
 refine am (az.drop (fun H=>sn alB alW (by decide) H) (.cons (oB LE _ _ (by kernel_rfl)) .nil)) ?_
 simp only [oz,List.getElem?_cons_zero,List.getElem?_cons_succ,aa]
 iterate 6 refine o9 rfl ?_
 simp only [bw]
 refine o9 rfl ?_
 refine o9 rfl ?_
 refine am ((tn (alM hC) Jx 1 Hp.empty).frzA (.cons (.refl (c6 _ _)) (.cons (.refl rfl) (.cons (oB (skS 1) _ _ (by kernel_rfl)) .nil))) rfl) ?_
 simp only [al1,ah,if_true]
 refine o9 rfl ?_
 refine am ((tn (alM hC) Jx 2 Hp.empty).frzA (.cons (.refl (c6 _ _)) (.cons (.refl rfl) (.cons (oB (skS 1) _ _ (by kernel_rfl)) .nil))) rfl) ?_
 simp only [al2,dQ,aa,ah,if_true,Bool.not_false]
 refine o9 rfl ?_
 refine am ((tn (alM hC) Jx 3 Hp.empty).frzA (.cons (.refl (c6 _ _)) (.cons (.refl rfl) (.cons (oB (skS 1) _ _ (by kernel_rfl)) .nil))) rfl) ?_
 rw [al3]
 exact hK _
end Go.Proofs.YthmaggcfghjmfaaGreat.Ev
namespace Go.Proofs.YthmaggcfghjmfaaGreat.Ev
set_option linter.unusedVariables false
set_option linter.unusedSimpArgs false
variable {σ:Sig}
def nK (s:ByteArray):Bool:=decide (60<(s.data.size:Int))
def sc (p:ByteArray × ByteArray):Bool:=nK p.1||decide (100<(p.2.data.size:Int))
def Bf (n:Nd):Bool:=decide (8<(n.classes.length:Int))||(decide (8<(n.attrs.length:Int))||(nK n.tag||(nK n.id||(n.classes.any nK||n.attrs.any sc))))
def yZ (L:List Nd):Bool:=if 40<L.length then (if L.length≤4096 then true else decide (4100<L.length)) else decide (4100<L.length)
def nV (L:List Nd) (m:Nat):Bool:=((L.drop m).take (100 - m)).any Bf||yZ L
structure yy (n:Nd):Prop where
 classes:n.classes.length≤8
 attrs:n.attrs.length≤8
 tag:n.tag.data.size≤60
 id:n.id.data.size≤60
 cl:∀ s ∈ n.classes,s.data.size≤60
 at':∀ p ∈ n.attrs,p.1.data.size≤60∧p.2.data.size≤100
theorem yy.of {n:Nd} (h:Bf n=false):yy n:=by
 unfold Bf sc nK at h
 simp only [Bool.or_eq_false_iff,decide_eq_false_iff_not,List.any_eq_false,Bool.or_eq_true,decide_eq_true_eq,not_or] at h
 obtain ⟨h1,h2,h3,h4,h5,h6⟩:=h
 exact ⟨by omega,by omega,by omega,by omega,fun s hs=>by have:=h5 s hs; omega,fun p hp=>by have:=h6 p hp; omega⟩
theorem zy {L:List Nd} {m:Nat} {n:Nd} (h:L[m]?=some n) (hm:m<100):nV L m=(Bf n||nV L (m+1)):=by
 unfold nV
 obtain ⟨j,hj⟩:∃ j,100 - m=j+1:=⟨99 - m,by omega⟩
 rw [cm h,hj,List.take_succ_cons,List.any_cons,Bool.or_assoc,show 100 - (m+1)=j by omega]
section
attribute [local irreducible] bf.L0 bf.L1 bf.L2
theorem IB {L:List Nd} {m:Nat} {n:Nd} (hn:L[m]?=some n) (hm:m<100) {K:AV→Hp→Prop} {y4:AV} (hl:n.attrs.length≤8)
  (h0:∀ H y4 y5,(∀ H,K (Bo (nV L (m+1))) H)→bf.L0 σ K (nds L) (I ((m+1:Nat):Int)) y4 y5 H):∀ (f k:Nat) (H:Hp),n.attrs.length - k=f→k≤n.attrs.length→(∀ H,K (Bo ((n.attrs.drop k).any sc||nV L (m+1))) H) →
  bf.L2 σ K (nds L) (I (m:Int)) y4 (I (k:Int)) H:=by
 have hix:aJ 5 (nds L) (I (m:Int))=some (.ip (bt n)):=bS hn
 intro f
 induction f with
 | zero =>
  intro k H hf hk hK
  have:k=n.attrs.length:=by omega
  subst this
  refine bf.L2_step ?_
  have hw:wr .i64 ((m:Int)+1)=((m+1:Nat):Int):=bz (by omega)
  simp only [hix,aa,nU,e8,rQ,cI,List.length_map,bA,Int.lt_irrefl,decide_false,ah,Bool.false_eq_true,if_false,bN,hw]
  refine h0 _ _ _ ?_
  simpa using hK
 | succ f ih =>
  intro k H hf hk hK
  have hlt:k<n.attrs.length:=by omega
  obtain ⟨p,hp⟩:=cb hlt
  rw [cm hp,List.any_cons] at hK
  have hlt':(k:Int)<n.attrs.length:=by omega
  have hixp:aJ 2 (.imm 2 (n.attrs.map cS)) (I (k:Int))=some (.ip (cS p)):=bS hp
  have hw:wr .i64 ((k:Int)+1)=((k+1:Nat):Int):=bz (by omega)
  refine bf.L2_step ?_
  simp only [hix,aa,nU,e8,rQ,cI,List.length_map,bA,hlt',decide_true,ah,if_true,hixp,List.drop_zero,AC,zf,eU,eF,decide_eq_true_eq,bN,hw]
  split
  ·rename_i h
   have:sc p=true:=by unfold sc nK; rw [decide_eq_true h,Bool.true_or]
   rw [this] at hK
   simpa using hK H
  rename_i h1
  split
  ·rename_i h
   have:sc p=true:=by unfold sc; rw [decide_eq_true h,Bool.or_true]
   rw [this] at hK
   simpa using hK H
  ·rename_i h
   have:sc p=false:=by unfold sc nK; rw [decide_eq_false h,decide_eq_false h1]; rfl
   rw [this] at hK
   exact ih (k+1) H (by omega) (by omega) (by simpa using hK)
theorem Ic {L:List Nd} {m:Nat} {n:Nd} (hn:L[m]?=some n) (hm:m<100) {K:AV→Hp→Prop} {y5:AV} (hl:n.attrs.length≤8) (hl2:n.classes.length≤8)
  (h0:∀ H y4 y5,(∀ H,K (Bo (nV L (m+1))) H)→bf.L0 σ K (nds L) (I ((m+1:Nat):Int)) y4 y5 H):∀ (f k:Nat) (H:Hp),n.classes.length - k=f→k≤n.classes.length→(∀ H,K (Bo ((n.classes.drop k).any nK||(n.attrs.any sc||nV L (m+1)))) H) →
  bf.L1 σ K (nds L) (I (m:Int)) (I (k:Int)) y5 H:=by
 have hix:aJ 5 (nds L) (I (m:Int))=some (.ip (bt n)):=bS hn
 intro f
 induction f with
 | zero =>
  intro k H hf hk hK
  have:k=n.classes.length:=by omega
  subst this
  refine bf.L1_step ?_
  simp only [hix,aa,nU,e8,qV,rl,bA,Int.lt_irrefl,decide_false,ah,Bool.false_eq_true,if_false]
  exact IB hn hm hl h0 _ 0 H rfl (Nat.zero_le _) (by simpa using hK)
 | succ f ih =>
  intro k H hf hk hK
  have hlt:k<n.classes.length:=by omega
  obtain ⟨p,hp⟩:=cb hlt
  rw [cm hp,List.any_cons] at hK
  have hlt':(k:Int)<n.classes.length:=by omega
  have hixp:aJ 1 (dG n.classes) (I (k:Int))=some (.ip [Sx p]):=bS hp
  have lx:∀ H,ldA false 1 H (.ip [Sx p])=some (Sx p):=fun _=>rfl
  have hw:wr .i64 ((k:Int)+1)=((k+1:Nat):Int):=bz (by omega)
  refine bf.L1_step ?_
  simp only [hix,aa,nU,e8,qV,rl,bA,hlt',decide_true,ah,if_true,hixp,iP,eU,eF,decide_eq_true_eq,bN,hw]
  split
  ·rename_i h
   have:nK p=true:=decide_eq_true h
   rw [this] at hK
   simpa using hK H
  ·rename_i h
   have:nK p=false:=decide_eq_false h
   rw [this] at hK
   exact ih (k+1) H (by omega) (by omega) (by simpa using hK)
theorem tC {L:List Nd} {K:AV→Hp→Prop} {H:Hp} (hK:∀ H,K (Bo (yZ L)) H):bnd (aW (nds L)) fun x24=>bnd (af .gtr x24 (I 40)) fun x25=>ifB x25 (bnd (aW (nds L)) fun x26=>bnd (af .leq x26 (I 4096)) fun x27=>ifB x27 (K (Bo true) H) (bnd (aW (nds L)) fun x28=>bnd (af .gtr x28 (I 4100)) fun x29=>K x29 H)) (bnd (aW (nds L)) fun x30=>bnd (af .gtr x30 (I 4100)) fun x31=>K x31 H):=by
 simp only [iR,aa,eF,kX,ah,decide_eq_true_eq]
 have e:decide ((4100:Int)<(L.length:Int))=decide (4100<L.length):=by rw [decide_eq_decide]; omega
 rw [e]
 unfold yZ at hK
 by_cases h1:40<L.length
 ·have h1':(40:Int)<(L.length:Int):=by omega
  rw [if_pos h1] at hK
  rw [if_pos h1']
  by_cases h2:L.length≤4096
  ·have h2':(L.length:Int)≤4096:=by omega
   rw [if_pos h2] at hK
   rw [if_pos h2']
   exact hK H
  ·have h2':¬ (L.length:Int)≤4096:=by omega
   rw [if_neg h2] at hK
   rw [if_neg h2']
   exact hK H
 ·have h1':¬ (40:Int)<(L.length:Int):=by omega
  rw [if_neg h1] at hK
  rw [if_neg h1']
  exact hK H
theorem xE (L:List Nd) (H:Hp):az Tryz.prog σ li [nds L] H (Bo (nV L 0)) H:=by
 refine bl (fun K hK=>bf.run ?_) (by simp [aP,bF]) rfl H
 have L0:∀ (f m:Nat) (H:Hp) (y4 y5:AV),100 - m=f→m≤L.length→m≤100→(∀ H,K (Bo (nV L m)) H)→bf.L0 σ K (nds L) (I (m:Int)) y4 y5 H:=by
  intro f
  induction f with
  | zero =>
   intro m H y4 y5 hf hm hm2 hK
   obtain rfl:m=100:=by omega
   have hK:∀ H,K (Bo (yZ L)) H:=by simpa [nV] using hK
   refine bf.L0_step ?_
   have e0:¬ (((100:Nat):Int)<100):=by decide
   by_cases h:((100:Nat):Int)<L.length
   ·simp only [iR,aa,bA,h,decide_true,ah,if_true,e0,decide_false,Bool.false_eq_true,if_false]
    have hE:=tC (H:=H) hK
    simp only [iR,aa,eF,kX] at hE ⊢
    exact hE
   ·simp only [iR,aa,bA,h,decide_false,ah,Bool.false_eq_true,if_false]
    have hE:=tC (H:=H) hK
    simp only [iR,aa,eF,kX] at hE ⊢
    exact hE
  | succ f ih =>
   intro m H y4 y5 hf hm hm2 hK
   refine bf.L0_step ?_
   have e0:((m:Nat):Int)<100:=by omega
   by_cases h:m<L.length
   ·have h':(m:Int)<L.length:=by omega
    obtain ⟨n,hn⟩:=cb h
    rw [zy hn (by omega)] at hK
    have hix:aJ 5 (nds L) (I (m:Int))=some (.ip (bt n)):=bS hn
    simp only [iR,aa,bA,h',decide_true,ah,if_true,e0,hix,nU,e8,qV,rQ,yO,BJ,rl,cI,List.length_map,eU,eF,decide_eq_true_eq]
    unfold Bf at hK
    split
    ·rename_i h1; simp only [h1,decide_true,Bool.true_or] at hK; exact hK H
    rename_i h1
    split
    ·rename_i h2; simp only [h2,decide_true,Bool.true_or,Bool.or_true] at hK; exact hK H
    rename_i h2
    split
    ·rename_i h3
     have:nK n.tag=true:=decide_eq_true h3
     simp only [this,Bool.true_or,Bool.or_true] at hK; exact hK H
    rename_i h3
    split
    ·rename_i h4
     have:nK n.id=true:=decide_eq_true h4
     simp only [this,Bool.true_or,Bool.or_true] at hK; exact hK H
    rename_i h4
    have t3:nK n.tag=false:=decide_eq_false h3
    have t4:nK n.id=false:=decide_eq_false h4
    simp only [h1,h2,t3,t4,decide_false,Bool.false_or,Bool.or_assoc] at hK
    exact Ic hn (by omega) (by omega) (by omega) (fun H y4 y5 hK'=>ih (m+1) H y4 y5 (by omega) (by omega) (by omega) hK') _ 0 H rfl (Nat.zero_le _) (by simpa using hK)
   ·have h':¬ (m:Int)<L.length:=by omega
    have:m=L.length:=by omega
    subst this
    have hK:∀ H,K (Bo (yZ L)) H:=by simpa [nV] using hK
    simp only [iR,aa,bA,h',decide_false,ah,Bool.false_eq_true,if_false]
    have hE:=tC (H:=H) hK
    simp only [iR,aa,eF,kX] at hE ⊢
    exact hE
 exact L0 _ 0 _ _ _ rfl (Nat.zero_le _) (by decide) hK
end
theorem vD {P:Program} {σ:Sig} {f:Nat} {xs:List AV} {r:AV} (h:∀ K:AV→Hp→Prop,(∀ H,K r H)→∃ r' H1,az P σ f xs Hp.empty r' H1∧K r' H1) (hx:aP xs=true) (hr:bF r=true) (H:Hp):az P σ f xs H r H:=by
 obtain ⟨r',H1,hg,e⟩:=h (fun r' _=>r'=r) (fun _=>rfl)
 subst e
 exact hg.frzR hx (.refl hr) H
structure pv (L:List Nd) (d:List Nat):Prop where
 len:L.length≤40
 hB:cH L L.length d
 sm:∀ n ∈ L,yy n
theorem DV (L:List Nd) (hW:∀ n ∈ L,mV n):(∀ H,az Tryz.prog σ gL [nds L] H (.tup [.lit (.pointer none),.lit (.pointer none),Bo false]) H) ∨
  (∃ d,pv L d∧∀ H,az Tryz.prog σ gL [nds L] H (.tup [eI L d,dZ L d,Bo true]) H):=by
 rcases yK (σ:=σ) L hW with ⟨_,e,he,hg⟩ | ⟨d,hN,hB,hg⟩
 ·refine .inl fun H=>bl (fun K hK=>iT.run (am (xE L _) (am (hg _) ?_))) (by simp [aP,bF]) rfl H
  simp only [oz,List.getElem?_cons_zero,List.getElem?_cons_succ,aa,ah,ki,he,decide_false,Bool.not_false,if_true]
  cases nV L 0<;>simp only [Bool.false_eq_true,if_true,if_false]<;>exact hK _
 ·cases hb:nV L 0 with
  | true =>
   refine .inl fun H=>bl (fun K hK=>iT.run (am (xE L _) (am (hg _) ?_))) (by simp [aP,bF]) rfl H
   simp only [oz,List.getElem?_cons_zero,List.getElem?_cons_succ,aa,hb,ah,if_true]
   exact hK _
  | false =>
   have hT:pv L d:=by
    unfold nV yZ at hb
    simp only [Bool.or_eq_false_iff,List.drop_zero] at hb
    have hl:L.length≤40:=by
     have h2:=hb.2
     by_cases h:40<L.length
     ·rw [if_pos h,if_pos hN] at h2; cases h2
     ·omega
    refine ⟨hl,hB,fun n hn=>yy.of ?_⟩
    have:=List.any_eq_false.1 hb.1 n (by rw [List.take_of_length_le (by omega)]; exact hn)
    simpa using this
   refine .inr ⟨d,hT,fun H=>vD (fun K hK=>iT.run (am (xE L _) (am (hg _) ?_))) (by simp [aP,bF]) ?_ H⟩
   ·simp only [oz,List.getElem?_cons_zero,List.getElem?_cons_succ,aa,hb,ah,ki,decide_true,Bool.not_true,Bool.false_eq_true,if_false]
    refine am (sn hB hW hN _) ?_
    simp only [oz,List.getElem?_cons_zero,List.getElem?_cons_succ,aa]
    exact hK _
   ·simp [bF,aP,c6,ey]
end Go.Proofs.YthmaggcfghjmfaaGreat.Ev
namespace Go.Proofs.YthmaggcfghjmfaaGreat.Ev
set_option linter.unusedVariables false
set_option linter.unusedSimpArgs false
variable {σ:Sig}
def nF (c:Int):Bool:=decide (0≤c)&&(decide (c≤1114111)&&(decide (c<55296)||decide (57343<c)))
def rC (c:Int):Bool:=decide (c=9)||(decide (c=10)||decide (c=32))
def pZ (c:Int):Bool:=decide (48≤c)&&decide (c≤57)
def nsB (c:Int):Bool:=(decide (97≤c)&&decide (c≤122))||((decide (65≤c)&&decide (c≤90))||(decide (c=95)||decide (128≤c)))
def npB (c:Int):Bool:=nsB c||(pZ c||decide (c=45))
def uR (c:Int):Int:=if 48≤c∧c≤57 then c - 48 else if 97≤c∧c≤102 then c - 87 else if 65≤c∧c≤70 then c - 55 else -1
theorem oV (c:Int) (H:Hp):az Tryz.prog σ fD [I c] H (Bo (nF c)) H:=by
 refine bl (fun K hK=>np.run ?_) rfl rfl H
 unfold nF at hK
 simp only [fl,kX,bA,eF,aa,ah,decide_eq_true_eq]
 by_cases h1:0≤c<;>by_cases h2:c≤1114111<;>by_cases h3:c<55296<;>simp [h1,h2,h3] at hK ⊢<;>exact hK _
theorem pr (c:Int) (H:Hp):az Tryz.prog σ dE [I c] H (Bo (rC c)) H:=by
 refine bl (fun K hK=>nl.run ?_) rfl rfl H
 unfold rC at hK
 simp only [bD,aa,ah,decide_eq_true_eq]
 by_cases h1:c=9
 ·simp [h1] at hK ⊢; exact hK _
 ·by_cases h2:c=10
  ·simp [h2] at hK ⊢; exact hK _
  ·simp [h1,h2] at hK ⊢; exact hK _
theorem iU (c:Int) (H:Hp):az Tryz.prog σ dq [I c] H (Bo (pZ c)) H:=by
 refine bl (fun K hK=>ni.run ?_) rfl rfl H
 unfold pZ at hK
 simp only [fl,kX,aa,ah,decide_eq_true_eq]
 by_cases h1:48≤c<;>simp [h1] at hK ⊢<;>exact hK _
theorem lE (c:Int) (H:Hp):az Tryz.prog σ ev [I c] H (Bo (nsB c)) H:=by
 refine bl (fun K hK=>jX.run ?_) rfl rfl H
 unfold nsB at hK
 simp only [fl,kX,bD,aa,ah,decide_eq_true_eq]
 by_cases h1:97≤c<;>by_cases h2:c≤122<;>by_cases h3:65≤c<;>by_cases h4:c≤90<;>by_cases h5:c=95<;>simp [h1,h2,h3,h4,h5] at hK ⊢<;>first | exact hK _ | omega
theorem oM (c:Int) (H:Hp):az Tryz.prog σ dD [I c] H (Bo (npB c)) H:=by
 refine bl (fun K hK=>jK.run (am (lE c _) ?_)) rfl rfl H
 unfold npB at hK
 simp only [ah]
 cases h1:nsB c with
 | true=>rw [h1] at hK; simpa using hK _
 | false =>
  rw [h1] at hK
  simp only [Bool.false_eq_true,if_false]
  refine am (iU c _) ?_
  simp only [ah]
  cases h2:pZ c with
  | true=>rw [h2] at hK; simpa using hK _
  | false =>
   rw [h2] at hK
   simpa using hK _
theorem wP (c:Int) (H:Hp):az Tryz.prog σ iD [I c] H (I (uR c)) H:=by
 refine bl (fun K hK=>rD.run ?_) rfl rfl H
 simp only [fl,kX,ik,bN,aa,ah,decide_eq_true_eq]
 have h:∀ (n:Int) (H:Hp),n=uR c→K (I n) H:=fun n H e=>e ▸ hK H
 unfold uR at h
 repeat' split
 all_goals
  refine h _ _ ?_
  try rw [show wr .i64 (c - 97)=c - 97 from eh (by omega) (by omega)]
  try rw [show wr .i64 (c - 65)=c - 65 from eh (by omega) (by omega)]
  try rw [eh (by omega) (by omega)]
  repeat' split
  all_goals omega
def Ba (c:Int):Int:=if c=58 then 11 else if c=59 then 12 else if c=44 then 13 else if c=123 then 14 else if c=125 then 15 else if c=40 then 16 else if c=41 then 17 else if c=91 then 18 else if c=93 then 19 else 0
theorem yu (c:Int) (H:Hp):az Tryz.prog σ bg [I c] H (I (Ba c)) H:=by
 refine bl (fun K hK=>pp.run ?_) rfl rfl H
 simp only [bD,aa,ah,decide_eq_true_eq]
 have h:∀ (n:Int) (H:Hp),n=Ba c→K (I n) H:=fun n H e=>e ▸ hK H
 unfold Ba at h
 repeat' split
 all_goals
  refine h _ _ ?_
  simp [*]
theorem Jm (c:Int):-1≤uR c∧uR c≤15∧(0≤uR c→0≤c):=by
 unfold uR
 repeat' split
 all_goals omega
theorem JR {c:Int} (h:npB c=true):0≤c:=by
 unfold npB nsB pZ at h
 simp only [Bool.or_eq_true,Bool.and_eq_true,decide_eq_true_eq] at h
 omega
theorem yo {c:Int} (h:pZ c=true):0≤c:=by
 unfold pZ at h
 simp only [Bool.and_eq_true,decide_eq_true_eq] at h
 omega
theorem sG {c:Int} (h:rC c=true):0≤c:=by
 unfold rC at h
 simp only [Bool.or_eq_true,decide_eq_true_eq] at h
 omega
def zrw (n:Int):List AV:=[I n]
def zs (l:List Int):AV:=.imm 1 (l.map zrw)
theorem EU (l:List Int):bF (zs l)=true:=by unfold zs; simp only [bF]; exact bm _ (fun _=>rfl) l
theorem t7 (l:List Int):aW (zs l)=some (I (l.length:Int)):=by simp [zs]
def cN (l:List Int) (i:Nat):Int:=match l[i]? with
 | none=>-1
 | some c=>if nF c then c else 65533
theorem yV {c:Int} (h:nF c=true):0≤c:=by
 unfold nF at h
 simp only [Bool.and_eq_true,decide_eq_true_eq] at h
 exact h.1
theorem gE (l:List Int) (i:Nat):-1≤cN l i∧(0≤cN l i ↔ i<l.length):=by
 unfold cN
 split
 ·rename_i h
  have:=List.getElem?_eq_none_iff.1 h
  omega
 ·rename_i c h
  obtain ⟨hlt,_⟩:=List.getElem?_eq_some_iff.1 h
  split
  ·rename_i hr
   have:=yV hr
   omega
  ·omega
def Rd (b:Nat) (l:List Int) (a:Nat) (H:Hp):Prop:=H.get b=some (.cells [zs l,I (a:Int)] true)
structure Kpb (b:Nat) (H H':Hp):Prop where
 n:H.n≤H'.n
 g:∀ j,j<H.n→j≠b→H'.get j=H.get j
theorem Kpb.refl {b:Nat} {H:Hp}:Kpb b H H:=⟨Nat.le_refl _,fun _ _ _=>rfl⟩
theorem Kpb.trans {b:Nat} {H H1 H2:Hp} (h:Kpb b H H1) (h':Kpb b H1 H2):Kpb b H H2:=⟨Nat.le_trans h.n h'.n,fun j hj hb=>(h'.g j (Nat.lt_of_lt_of_le hj h.n) hb).trans (h.g j hj hb)⟩
theorem Rd.l0 {b a:Nat} {l:List Int} {H:Hp} (h:Rd b l a H):ldA false 1 H (.ptr b (0+0))=some (zs l):=by rw [bE,h]; rfl
theorem Rd.l1 {b a:Nat} {l:List Int} {H:Hp} (h:Rd b l a H):ldA false 1 H (.ptr b (0+1))=some (I (a:Int)):=by rw [bE,h]; rfl
theorem cF {b a:Nat} {l:List Int} {H:Hp} {K:AV→Hp→Prop} {k:Int} (n:Nat) (hk:k=(n:Int)) (h:Rd b l a H) (hn:a+n<4000000000) (hK:K (I (cN l (a+n))) H):ai Tryz.prog σ ak [.ptr b 0,I k] H K:=by
 subst hk
 refine jh.run ?_
 have e:wr .i64 ((a:Int)+(n:Int))=((a+n:Nat):Int):=by rw [eh (by omega) (by omega)]; omega
 simp only [gH,bj,aa,h.l0,h.l1,bN,e,t7,fl,ah,decide_eq_true_eq]
 unfold cN at hK
 by_cases hi:(l.length:Int)≤((a+n:Nat):Int)
 ·rw [if_pos hi]
  rw [List.getElem?_eq_none (by omega)] at hK
  exact hK
 ·rw [if_neg hi]
  obtain ⟨c,hc⟩:=cb (show a+n<l.length by omega)
  rw [hc] at hK
  have hK:K (I (if nF c=true then c else 65533)) H:=hK
  have hix:aJ 1 (zs l) (I ((a+n:Nat):Int))=some (.ip (zrw c)):=bS hc
  have lc:ldA false 1 H (.ip (zrw c))=some (I c):=rfl
  simp only [hix,lc,aa]
  refine am (oV c H) ?_
  simp only [dQ,aa,ah]
  cases hr:nF c with
  | true=>rw [hr] at hK; simpa using hK
  | false=>rw [hr] at hK; simpa using hK
theorem mg {b a:Nat} {l:List Int} {H:Hp} {K:Hp→Prop} {k:Int} (m:Nat) (hk:k=(m:Int)) (h:Rd b l a H) (hm:a+m<4000000000) (hK:∀ H',Rd b l (a+m) H'→Kpb b H H'→H'.n=H.n→K H') :
  bnd (au (.ptr b 0)) fun x1=>bnd (ae x1 1) fun x2=>bnd (ldA false 1 H x2) fun x3=>bnd (af .add x3 (I k)) fun x4=>bnd (au (.ptr b 0)) fun x5=>bnd (ae x5 1) fun x6=>bnd (stA 1 H x6 x4) K:=by
 subst hk
 have e:wr .i64 ((a:Int)+(m:Int))=((a+m:Nat):Int):=by rw [eh (by omega) (by omega)]; omega
 have s:stA 1 H (.ptr b (0+1)) (I ((a+m:Nat):Int))=some (H.set b (some (.cells [zs l,I ((a+m:Nat):Int)] true))):=jd h rfl rfl rfl (by simp)
 simp only [gH,bj,aa,h.l1,bN,e,s]
 refine hK _ (by unfold Rd; rw [ay,if_pos rfl]) ⟨by simp,fun j _ hj=>by rw [ay,if_neg hj]⟩ (by simp)
def t6 (l:List Int) (i:Nat):Bool:=decide (cN l i=92)&&(decide (0≤cN l (i+1))&&!decide (cN l (i+1)=10))
theorem HL {l:List Int} {i:Nat} (h:t6 l i=true):i+2≤l.length:=by
 unfold t6 at h
 simp only [Bool.and_eq_true,decide_eq_true_eq] at h
 have:=(gE l (i+1)).2.1 h.2.1
 omega
theorem mQ {b a:Nat} {l:List Int} {H:Hp} {K:AV→Hp→Prop} {k:Int} (n:Nat) (hk:k=(n:Int)) (h:Rd b l a H) (hn:a+n<3000000000) (hK:K (Bo (t6 l (a+n))) H):ai Tryz.prog σ co [.ptr b 0,I k] H K:=by
 subst hk
 refine gT.run ?_
 refine cF n rfl h (by omega) ?_
 unfold t6 at hK
 have e:wr .i64 ((n:Int)+1)=((n+1:Nat):Int):=bz (by omega)
 simp only [bD,aa,ah,decide_eq_true_eq]
 by_cases h1:cN l (a+n)=92
 ·rw [if_pos h1]
  rw [bN,aa,e]
  refine cF (n+1) rfl h (by omega) ?_
  simp only [fl,aa,ah,decide_eq_true_eq]
  by_cases h2:0≤cN l (a+(n+1))
  ·rw [if_pos h2]
   try rw [bN,aa,e]
   refine cF (n+1) rfl h (by omega) ?_
   rw [ki,aa]
   have e2:a+n+1=a+(n+1):=by omega
   rw [e2] at hK
   simpa [h1,h2] using hK
  ·rw [if_neg h2]
   have e2:a+n+1=a+(n+1):=by omega
   rw [e2] at hK
   simpa [h1,h2] using hK
 ·rw [if_neg h1]
  simpa [h1] using hK
def qu (l:List Int) (i:Nat):Bool:=if cN l i=45 then nsB (cN l (i+1))||(decide (cN l (i+1)=45)||t6 l (i+1)) else nsB (cN l i)||t6 l i
theorem JK {l:List Int} {i:Nat} (h:qu l i=true):npB (cN l i)=true∨t6 l i=true:=by
 unfold qu at h
 split at h
 ·rename_i e
  left
  rw [e]; rfl
 ·rw [Bool.or_eq_true] at h
  rcases h with h | h
  ·left; unfold npB; rw [h]; rfl
  ·exact .inr h
theorem o4 {b a:Nat} {l:List Int} {H:Hp} {K:AV→Hp→Prop} {k:Int} (n:Nat) (hk:k=(n:Int)) (h:Rd b l a H) (hn:a+n<2000000000) (hK:K (Bo (qu l (a+n))) H):ai Tryz.prog σ bG [.ptr b 0,I k] H K:=by
 subst hk
 refine gX.run ?_
 refine cF n rfl h (by omega) ?_
 unfold qu at hK
 have e:wr .i64 ((n:Int)+1)=((n+1:Nat):Int):=bz (by omega)
 have e2:a+n+1=a+(n+1):=by omega
 rw [e2] at hK
 simp only [bD,aa,ah,decide_eq_true_eq]
 by_cases h1:cN l (a+n)=45
 ·rw [if_pos h1] at hK ⊢
  rw [bN,aa,e]
  refine cF (n+1) rfl h (by omega) (am (lE _ H) ?_)
  rw [ah]
  cases h2:nsB (cN l (a+(n+1))) with
  | true=>rw [h2] at hK; simpa using hK
  | false =>
   rw [h2] at hK
   simp only [Bool.false_eq_true,if_false,bN,aa,e]
   refine cF (n+1) rfl h (by omega) ?_
   simp only [bD,aa,ah,decide_eq_true_eq]
   by_cases h3:cN l (a+(n+1))=45
   ·rw [if_pos h3]
    simpa [h3] using hK
   ·rw [if_neg h3]
    try rw [bN,aa,e]
    refine mQ (n+1) rfl h (by omega) ?_
    simpa [h3] using hK
 ·rw [if_neg h1] at hK ⊢
  refine am (lE _ H) ?_
  rw [ah]
  cases h2:nsB (cN l (a+n)) with
  | true=>rw [h2] at hK; simpa using hK
  | false =>
   rw [h2] at hK
   simp only [Bool.false_eq_true,if_false]
   refine mQ n rfl h (by omega) ?_
   simpa using hK
def vN (l:List Int) (i:Nat):Bool:=pZ (cN l i)||(decide (cN l i=46)&&pZ (cN l (i+1)))
def wT (l:List Int) (a:Nat):Bool:=if cN l a=43∨cN l a=45 then vN l (a+1) else vN l a
theorem zw {b a:Nat} {l:List Int} {H:Hp} {K:AV→Hp→Prop} (h:Rd b l a H) (hn:a<2000000000) (hK:K (Bo (wT l a)) H):ai Tryz.prog σ eS [.ptr b 0] H K:=by
 refine bY.run ?_
 have J0:∀ (n:Nat),n≤1→K (Bo (vN l (a+n))) H→bY.J0 σ K (.ptr b 0) (I (n:Int)) H:=by
  intro n hn1 hK
  refine bY.J0_step ?_
  refine cF n rfl h (by omega) (am (iU _ H) ?_)
  unfold vN at hK
  have e:wr .i64 ((n:Int)+1)=((n+1:Nat):Int):=bz (by omega)
  have e2:a+n+1=a+(n+1):=by omega
  rw [e2] at hK
  rw [ah]
  cases h2:pZ (cN l (a+n)) with
  | true=>rw [h2] at hK; simpa using hK
  | false =>
   rw [h2] at hK
   simp only [Bool.false_eq_true,if_false]
   refine cF n rfl h (by omega) ?_
   simp only [bD,aa,ah,decide_eq_true_eq]
   by_cases h3:cN l (a+n)=46
   ·rw [if_pos h3,bN,aa,e]
    refine cF (n+1) rfl h (by omega) (am (iU _ H) ?_)
    simpa [h3] using hK
   ·rw [if_neg h3]
    simpa [h3] using hK
 refine cF 0 rfl h (by omega) ?_
 unfold wT at hK
 simp only [bD,aa,ah,decide_eq_true_eq,Nat.add_zero]
 by_cases h1:cN l a=43
 ·rw [if_pos h1]
  rw [if_pos (.inl h1)] at hK
  exact J0 1 (by omega) hK
 ·rw [if_neg h1]
  refine cF 0 rfl h (by omega) ?_
  simp only [bD,aa,ah,decide_eq_true_eq,Nat.add_zero]
  by_cases h2:cN l a=45
  ·rw [if_pos h2]
   rw [if_pos (.inr h2)] at hK
   exact J0 1 (by omega) hK
  ·rw [if_neg h2]
   rw [if_neg (by omega)] at hK
   exact J0 0 (by omega) hK
section
attribute [local irreducible] aG.L0 aG.J1
theorem qo {b a:Nat} {l:List Int} {H:Hp} {K:AV→Hp→Prop} (h:Rd b l a H) (ha:a+2≤l.length) (hl:l.length≤1000000) (hK:∀ (c:Int) (a':Nat) (H':Hp),Rd b l a' H'→Kpb b H H'→H'.n=H.n→a<a'→a'≤l.length→K (I c) H'):ai Tryz.prog σ ck [.ptr b 0] H K:=by
 refine aG.run ?_
 refine mg 1 rfl h (by omega) fun H1 h1 k1 n1=>?_
 refine cF 0 rfl h1 (by omega) (am (wP _ H1) ?_)
 simp only [bA,aa,ah,decide_eq_true_eq]
 by_cases hx:uR (cN l (a+1+0))<0
 ·rw [if_pos hx]
  refine mg 1 rfl h1 (by omega) fun H2 h2 k2 n2=>?_
  exact hK _ (a+1+1) H2 h2 (k1.trans k2) (by omega) (by omega) (by omega)
 ·rw [if_neg hx]
  have J1:∀ (n k:Int) (a1:Nat) (H2:Hp),Rd b l a1 H2→Kpb b H H2→H2.n=H.n→a<a1→a1≤l.length→aG.J1 σ K (.ptr b 0) (I n) (I k) H2:=by
   intro n k a1 H2 h2 k2 n2 g1 g2
   refine aG.J1_step ?_
   simp only [bD,aa,ah,decide_eq_true_eq]
   split
   ·exact hK _ a1 H2 h2 k2 n2 g1 g2
   ·refine am (oV n H2) ?_
    simp only [dQ,aa,ah]
    split<;>exact hK _ a1 H2 h2 k2 n2 g1 g2
  have W:∀ (n k:Int) (a1:Nat) (H2:Hp),Rd b l a1 H2→Kpb b H H2→H2.n=H.n→a<a1→a1≤l.length→ai Tryz.prog σ ak [.ptr b 0,I 0] H2 fun x32 H33=>ai Tryz.prog σ dE [x32] H33 fun x34 H35=>ifB x34 (bnd (au (.ptr b 0)) fun x36=>bnd (ae x36 1) fun x37=>bnd (ldA false 1 H35 x37) fun x38=>bnd (af .add x38 (I 1)) fun x39=>bnd (au (.ptr b 0)) fun x40=>bnd (ae x40 1) fun x41=>bnd (stA 1 H35 x41 x39) fun H42=>aG.J1 σ K (.ptr b 0) (I n) (I k) H42) (aG.J1 σ K (.ptr b 0) (I n) (I k) H35):=by
   intro n k a1 H2 h2 k2 n2 g1 g2
   refine cF 0 rfl h2 (by omega) (am (pr _ H2) ?_)
   rw [ah]
   split
   ·rename_i hw
    have:=(gE l (a1+0)).2.1 (sG hw)
    refine mg 1 rfl h2 (by omega) fun H3 h3 k3 n3=>?_
    exact J1 n k (a1+1) H3 h3 (k2.trans k3) (by omega) (by omega) (by omega)
   ·exact J1 n k a1 H2 h2 k2 n2 g1 g2
  have L0:∀ (f:Nat) (n:Int) (k a1:Nat) (H2:Hp),6 - k=f→k≤6→Rd b l a1 H2→Kpb b H H2→H2.n=H.n→a<a1→a1≤l.length→aG.L0 σ K (.ptr b 0) (I n) (I (k:Int)) H2:=by
   intro f
   induction f with
   | zero =>
    intro n k a1 H2 hf hk h2 k2 n2 g1 g2
    have:¬ ((k:Int)<6):=by omega
    refine aG.L0_step ?_
    simp only [bA,aa,this,decide_false,ah,Bool.false_eq_true,if_false]
    exact W n k a1 H2 h2 k2 n2 g1 g2
   | succ f ih =>
    intro n k a1 H2 hf hk h2 k2 n2 g1 g2
    have:(k:Int)<6:=by omega
    refine aG.L0_step ?_
    simp only [bA,aa,this,decide_true,ah,if_true]
    refine cF 0 rfl h2 (by omega) (am (wP _ H2) ?_)
    simp only [fl,aa,ah,decide_eq_true_eq]
    split
    ·rename_i hx
     have hlt:=(gE l (a1+0)).2.1 ((Jm _).2.2 hx)
     rw [oE,aa]
     refine cF 0 rfl h2 (by omega) (am (wP _ H2) ?_)
     rw [bN,aa]
     refine mg 1 rfl h2 (by omega) fun H3 h3 k3 n3=>?_
     rw [bN,aa,bz (by omega)]
     exact ih _ (k+1) (a1+1) H3 (by omega) (by omega) h3 (k2.trans k3) (by omega) (by omega) (by omega)
    ·exact W n k a1 H2 h2 k2 n2 g1 g2
  exact L0 _ 0 0 (a+1) H1 rfl (by omega) h1 k1 n1 (by omega) (by omega)
end
def B8 (l:List UInt8):List (List AV):=l.map fun c=>[dN c]
theorem oF:∀ l:List UInt8,(B8 l).flatten=l.map dN
 | []=>rfl
 | c::l=>by
  have:=oF l
  unfold B8 at this ⊢
  rw [List.map_cons,List.flatten_cons,this]; rfl
theorem jf (l:List UInt8):(B8 l).length=l.length:=by unfold B8; rw [List.length_map]
theorem tV {H:Hp} {x:AV} {l:List UInt8} (h:Gs 1 H x (B8 l)):fT H x=some (Sx ⟨l.toArray⟩):=by
 generalize hr:B8 l=rows at h
 cases h with
 | nil =>
  cases l with
  | nil=>rfl
  | cons c l=>cases hr
 | sl hlt hg hsz =>
  subst hr
  rw [oF] at hg
  rename_i id ex
  simp only [fT,iW,hg,jf]
  have e:List.take l.length (l.map dN)=l.map dN:=by
   have:=List.take_length (l:=l.map dN)
   rwa [List.length_map] at this
  simp only [List.drop_zero,Nat.mul_one,kE,e,List.length_map,decide_true,Bool.and_self,cond_true,rM,ny]
  rfl
def u8 (v:Int):UInt8:=UInt8.ofNat (wr .u8 v).toNat
theorem J7 (n:Int):0≤wr .u8 n∧wr .u8 n≤255:=by
 rw [oo]
 simp only [IntKind.wrap,IntKind.bits,IntKind.signed]
 simp
 omega
theorem cv8 (v:Int):dP .u8 (I v)=some (dN (u8 v)):=by
 show some (AV.lit (.int .u8 (wr .u8 v)))=_
 have:=J7 v
 unfold dN u8
 rw [UInt8.toNat_ofNat_of_lt' (by show _<256; omega)]
 congr 3
 omega
theorem kR {H:Hp} {x:AV} {l bs:List UInt8} (hx:Gs 1 H x (B8 l)) (hn:l.length≤1000000) (hb:bs.length≤10) {n:Nat} (hnl:n=bs.length) {K:AV × Hp→Prop} (hK:∀ x' H',Gs 1 H' x' (B8 (l++bs))→Fr H x H' x'→K (x',H')) :
  bnd (bc false 1 1 (H.new (.cells (bs.map dN) true)) x (.sl H.n 0 1 n (some n))) K:=by
 subst hnl
 have hk:Gs 1 (H.new (.cells (bs.map dN) true)) x (B8 l):=by
  refine hx.keep (fun j hj=>?_) (by simp)
  have:j≠H.n:=by have:=hx.lt hj; omega
  simp [this]
 have e:List.take bs.length (bs.map dN)=bs.map dN:=by
  have:=List.take_length (l:=bs.map dN)
  rwa [List.length_map] at this
 refine tu (rows2:=B8 bs) hk rfl ?_ (fun row hr=>?_) ?_ (by rw [jf,jf]; omega) (by rw [jf,jf]; omega) fun x' H' g' fr=>hK x' H' ?_ ⟨fun j hj ho=>?_,?_,fun j hj=>?_⟩
 ·rw [oF,jf]
  simp [iW,kE,e]
 ·obtain ⟨c,_,rfl⟩:=List.mem_map.1 hr
  rfl
 ·rw [oF]; exact rM bs
 ·unfold B8 at g' ⊢; rw [List.map_append]; exact g'
 ·have hne:j≠H.n:=by omega
  rw [fr.same j (by simp; omega) ho]
  simp [hne]
 ·have:=fr.grow; simp at this; omega
 ·rcases fr.mine j hj with h | ⟨h1,h2⟩
  ·exact .inl h
  ·simp at h1; exact .inr ⟨by omega,h2⟩
section
attribute [local irreducible] fK.J0
theorem Es {H:Hp} {x:AV} {l:List UInt8} (hx:Gs 1 H x (B8 l)) (hn:l.length≤1000000) (c:Int) {K:AV→Hp→Prop} (hK:∀ x' H' bs,Gs 1 H' x' (B8 (l++bs))→bs.length≤4→Fr H x H' x'→K x' H'):ai Tryz.prog σ cp [x,I c] H K:=by
 have sh:∀ (v:Int) (k:Nat),∃ w,af .shr (I v) (.lit (.int .u64 (k:Int)))=some (I w):=fun v k=>⟨_,by simp [af,lit?,fM]; rfl⟩
 have an:∀ v w:Int,∃ z,af .and (I v) (I w)=some (I z):=fun v w=>⟨_,by simp [af,lit?,fM]; rfl⟩
 have or':∀ v w:Int,∃ z,af .or (I v) (I w)=some (I z):=fun v w=>⟨_,by simp [af,lit?,fM]; rfl⟩
 have J0:∀ c:Int,fK.J0 σ K x (I c) H:=by
  intro c
  refine fK.J0_step ?_
  obtain ⟨a6,ha6⟩:=sh c 6
  obtain ⟨a12,ha12⟩:=sh c 12
  obtain ⟨a18,ha18⟩:=sh c 18
  obtain ⟨m6,hm6⟩:=an a6 63
  obtain ⟨m12,hm12⟩:=an a12 63
  obtain ⟨m0,hm0⟩:=an c 63
  obtain ⟨o6,ho6⟩:=or' 192 a6
  obtain ⟨o12,ho12⟩:=or' 224 a12
  obtain ⟨o18,ho18⟩:=or' 240 a18
  obtain ⟨q6,hq6⟩:=or' 128 m6
  obtain ⟨q12,hq12⟩:=or' 128 m12
  obtain ⟨q0,hq0⟩:=or' 128 m0
  have ha6:af .shr (I c) (.lit (.int .u64 6))=some (I a6):=ha6
  have ha12:af .shr (I c) (.lit (.int .u64 12))=some (I a12):=ha12
  have ha18:af .shr (I c) (.lit (.int .u64 18))=some (I a18):=ha18
  simp only [bA,aa,ah,decide_eq_true_eq,ha6,ha12,ha18,hm6,hm12,hm0,ho6,ho12,ho18,hq6,hq12,hq0,cv8]
  split
  ·have eb:aw [.int .u8 0] 1 1 H [(0,1,dN (u8 c))]=some (.sl H.n 0 1 1 (some 1),H.new (.cells ([u8 c].map dN) true)):=rfl
   rw [eb,aa]
   exact kR (bs:=[u8 c]) hx hn (by simp) rfl fun x' H' g f=>hK x' H' _ g (by simp) f
  ·split
   ·have eb:aw [.int .u8 0] 1 2 H [(0,1,dN (u8 o6)),(1,1,dN (u8 q0))]=some (.sl H.n 0 1 2 (some 2),H.new (.cells ([u8 o6,u8 q0].map dN) true)):=rfl
    rw [eb,aa]
    exact kR (bs:=[u8 o6,u8 q0]) hx hn (by simp) rfl fun x' H' g f=>hK x' H' _ g (by simp) f
   ·split
    ·have eb:aw [.int .u8 0] 1 3 H [(0,1,dN (u8 o12)),(1,1,dN (u8 q6)),(2,1,dN (u8 q0))]=some (.sl H.n 0 1 3 (some 3),H.new (.cells ([u8 o12,u8 q6,u8 q0].map dN) true)):=rfl
     rw [eb,aa]
     exact kR (bs:=[u8 o12,u8 q6,u8 q0]) hx hn (by simp) rfl fun x' H' g f=>hK x' H' _ g (by simp) f
    ·have eb:aw [.int .u8 0] 1 4 H [(0,1,dN (u8 o18)),(1,1,dN (u8 q12)),(2,1,dN (u8 q6)),(3,1,dN (u8 q0))]=some (.sl H.n 0 1 4 (some 4),H.new (.cells ([u8 o18,u8 q12,u8 q6,u8 q0].map dN) true)):=rfl
     rw [eb,aa]
     exact kR (bs:=[u8 o18,u8 q12,u8 q6,u8 q0]) hx hn (by simp) rfl fun x' H' g f=>hK x' H' _ g (by simp) f
 refine fK.run ?_
 refine am (oV c H) ?_
 simp only [dQ,aa,ah]
 split
 ·exact J0 _
 ·exact J0 _
end
end Go.Proofs.YthmaggcfghjmfaaGreat.Ev
namespace Go.Proofs.YthmaggcfghjmfaaGreat.Ev
set_option linter.unusedVariables false
set_option linter.unusedSimpArgs false
variable {σ:Sig}
structure BW (b:Nat) (l:List Int) (H0:Hp) (a:Nat) (x:AV) (bs:List UInt8) (H:Hp):Prop where
 rd:Rd b l a H
 kp:Kpb b H0 H
 gs:Gs 1 H x (B8 bs)
 ow:∀ j,own x j→H0.n≤j
theorem BW.ob {b a:Nat} {l:List Int} {H0 H:Hp} {x:AV} {bs:List UInt8} (h:BW b l H0 a x bs H) (hb:b<H0.n) {j:Nat} (hj:own x j):j≠b:=by
 have:=h.ow j hj; omega
theorem BW.put {b a:Nat} {l:List Int} {H0 H:Hp} {x:AV} {bs:List UInt8} (h:BW b l H0 a x bs H) (hb:b<H0.n) (hn:bs.length≤1000000) {c:Int} {K:AV→Hp→Prop} (hK:∀ x' H' bs',BW b l H0 a x' (bs++bs') H'→bs'.length≤4→K x' H'):ai Tryz.prog σ cp [x,I c] H K:=by
 refine Es h.gs hn c fun x' H' bs' g hl fr=>hK x' H' bs' ⟨?_,⟨?_,fun j hj hjb=>?_⟩,g,fun j hj=>?_⟩ hl
 ·unfold Rd
  rw [fr.same b (by have:=h.kp.n; omega) fun ho=>h.ob hb ho rfl]
  exact h.rd
 ·have:=h.kp.n; have:=fr.grow; omega
 ·rw [fr.same j (by have:=h.kp.n; omega) fun ho=>by have:=h.ow j ho; omega]
  exact h.kp.g j hj hjb
 ·rcases fr.mine j hj with h1 | ⟨h1,_⟩
  ·exact h.ow j h1
  ·have:=h.kp.n; omega
theorem BW.to {b a a':Nat} {l:List Int} {H0 H H':Hp} {x:AV} {bs:List UInt8} (h:BW b l H0 a x bs H) (hb:b<H0.n) (hr:Rd b l a' H') (hk:Kpb b H H'):BW b l H0 a' x bs H' :=
 ⟨hr,h.kp.trans hk,h.gs.keep (fun j hj=>hk.g j (h.gs.lt hj) (h.ob hb hj)) hk.n,h.ow⟩
theorem BW.adv {b a:Nat} {l:List Int} {H0 H:Hp} {x:AV} {bs:List UInt8} (h:BW b l H0 a x bs H) (hb:b<H0.n) {K:Hp→Prop} {k:Int} (m:Nat) (hk:k=(m:Int)) (hm:a+m<4000000000) (hK:∀ H',BW b l H0 (a+m) x bs H'→K H') :
  bnd (au (.ptr b 0)) fun x1=>bnd (ae x1 1) fun x2=>bnd (ldA false 1 H x2) fun x3=>bnd (af .add x3 (I k)) fun x4=>bnd (au (.ptr b 0)) fun x5=>bnd (ae x5 1) fun x6=>bnd (stA 1 H x6 x4) K :=
 mg m hk h.rd hm fun H' h1 h2 _=>hK H' (h.to hb h1 h2)
section
attribute [local irreducible] ci.L0
theorem ql {b a:Nat} {l:List Int} {H:Hp} {K:AV→Hp→Prop} (h:Rd b l a H) (hb:b<H.n) (hl:l.length≤200) (ha:a≤l.length+4)
  (hK:∀ (s:ByteArray) (a':Nat) (H':Hp),Rd b l a' H'→Kpb b H H'→a≤a'→(a'≤l.length∨a'=a)→s.data.size≤900→((npB (cN l a)=true∨t6 l a=true)→a<a')→K (Sx s) H'):ai Tryz.prog σ aA [.ptr b 0] H K:=by
 refine ci.run ?_
 have L0:∀ (f a1:Nat) (H1:Hp) (y3:AV) (bs:List UInt8),l.length+5 - a1≤f→a≤a1→(a1≤l.length∨a1=a)→BW b l H a1 y3 bs H1→bs.length≤4*a1→ci.L0 σ K (.ptr b 0) (.lit (.string ⟨#[]⟩)) y3 H1:=by
  intro f
  induction f with
  | zero=>intro a1 H1 y3 bs hf h1 h2 hB hlen; omega
  | succ f ih =>
   intro a1 H1 y3 bs hf h1 h2 hB hlen
   refine ci.L0_step ?_
   refine cF 0 rfl hB.rd (by omega) (am (oM _ H1) ?_)
   rw [ah,Nat.add_zero]
   cases hn:npB (cN l a1) with
   | true =>
    have hlt:=(gE l a1).2.1 (JR hn)
    simp only [if_true]
    refine hB.put hb (by omega) fun x' H2 bs' hB2 hb4=>?_
    refine hB2.adv hb 1 rfl (by omega) fun H3 hB3=>?_
    exact ih (a1+1) H3 x' _ (by omega) (by omega) (.inl (by omega)) hB3 (by rw [List.length_append]; omega)
   | false =>
    simp only [Bool.false_eq_true,if_false]
    refine mQ 0 rfl hB.rd (by omega) ?_
    rw [ah,Nat.add_zero]
    cases he:t6 l a1 with
    | true =>
     simp only [if_true]
     refine qo hB.rd (HL he) (by omega) fun c a' H2 hr k2 _ hlt hle=>?_
     refine (hB.to hb hr k2).put hb (by omega) fun x' H3 bs' hB3 hb4=>?_
     exact ih a' H3 x' _ (by omega) (by omega) (.inl hle) hB3 (by rw [List.length_append]; omega)
    | false =>
     simp only [Bool.false_eq_true,if_false,tV hB.gs,aa]
     refine hK _ a1 H1 hB.rd hB.kp h1 h2 (by simp; omega) fun hc=>?_
     rcases Nat.lt_or_ge a a1 with h | h
     ·exact h
     ·have:a1=a:=by omega
      subst this
      rw [hn,he] at hc
      rcases hc with hc | hc<;>cases hc
 exact L0 _ a H _ [] (Nat.le_refl _) (Nat.le_refl _) (.inr rfl) ⟨h,.refl,.nil,fun j hj=>hj.elim⟩ (by simp)
end
structure Tn where
 kind:Int
 text:ByteArray
 n:Int
 whole:Bool
 c:Int
def bV (t:Tn):List AV:=[I t.kind,Sx t.text,I t.n,Bo t.whole,I t.c]
structure jm (t:Tn):Prop where
 text:t.text.data.size≤900
 n:-2147483647≤t.n∧t.n≤2147483647
theorem wu {H:Hp} {r:Nat} {cs:List AV} {t:Tn} {K:AV→Hp→Prop} (hg:H.get r=some (.cells cs true)) (hl:cs.length=5) (hK:∀ H',H'.n=H.n→(∀ j,j≠r→H'.get j=H.get j)→K (.agg (bV t)) H') :
  bnd (stA 5 H (.ptr r 0) (.agg (bV t))) fun H6=>bnd (ldA true 5 H6 (.ptr r 0)) fun r7=>K r7 H6:=by
 have s:stA 5 H (.ptr r 0) (.agg (bV t))=some (H.set r (some (.cells (bV t) true))):=by
  rw [gU,hg,if_pos (show (bV t).length=5 from rfl),cC,if_pos ⟨by rw [hl]; show 0+5≤5; omega,rfl⟩,a8 (by rw [hl]; rfl)]
 have l2:ldA true 5 (H.set r (some (.cells (bV t) true))) (.ptr r 0)=some (.agg (bV t)):=by
  rw [bE,ay,if_pos rfl,br,List.drop_zero,dm (show (bV t).length=5 from rfl)]
 rw [s,aa,l2,aa]
 exact hK _ (by simp) fun j hj=>by rw [ay,if_neg hj]
def zTn:List AV:=[I 0,.lit (.string ⟨#[]⟩),I 0,.lit (.bool false),I 0]
section
attribute [local irreducible] aZ.L0
theorem CQ {b a:Nat} {l:List Int} {H:Hp} {K:AV→Hp→Prop} (h:Rd b l a H) (hb:b<H.n) (hl:l.length≤200) (ha:a<l.length)
  (hK:∀ (t:Tn) (a':Nat) (H':Hp),Rd b l a' H'→Kpb b H H'→a<a'→a'≤l.length→jm t→K (.agg (bV t)) H'):ai Tryz.prog σ cR [.ptr b 0] H K:=by
 refine aZ.run ?_
 rw [bw]
 obtain ⟨r,hr⟩:∃ r,r=H.n:=⟨_,rfl⟩
 obtain ⟨H0,hH0⟩:∃ H0,H0=H.new (.cells zTn true):=⟨_,rfl⟩
 have e0:H.new (.cells [I 0,.lit (.string ⟨#[]⟩),I 0,.lit (.bool false),I 0] true)=H0:=hH0.symm
 have n0:H0.n=H.n+1:=by rw [hH0]; rfl
 have g0:H0.get r=some (.cells zTn true):=by rw [hH0,hr]; simp
 have k0:Kpb b H H0:=⟨by omega,fun j hj _=>by rw [hH0,aB,if_neg (by omega)]⟩
 have h0:Rd b l a H0:=by unfold Rd; rw [hH0,aB,if_neg (by omega)]; exact h
 rw [e0,← hr]
 clear hH0 e0
 have hrb:r≠b:=by omega
 refine cF 0 rfl h0 (by omega) ?_
 generalize cN l (a+0)=en
 refine mg 1 rfl h0 (by omega) fun H1 h1 k1 n1=>?_
 have fin:∀ (H1:Hp) (t:Tn) (a1:Nat),Rd b l a1 H1→Kpb b H0 H1→a<a1→a1≤l.length→jm t→bnd (stA 5 H1 (.ptr r 0) (.agg (bV t))) fun H6=>bnd (ldA true 5 H6 (.ptr r 0)) fun r7=>K r7 H6:=by
  intro H1 t a1 h1 k1 g1 g2 ht
  refine wu (cs:=zTn) (by rw [k1.g r (by omega) hrb]; exact g0) rfl fun H2 n2 o2=>hK t a1 H2 ?_ ⟨?_,fun j hj hjb=>?_⟩ g1 g2 ht
  ·unfold Rd; rw [o2 b (Ne.symm hrb)]; exact h1
  ·have:=k0.n; have:=k1.n; omega
  ·rw [o2 j (by omega),k1.g j (by omega) hjb]
   exact k0.g j hj hjb
 have L0:∀ (f a1:Nat) (H1:Hp) (y4:AV) (bs:List UInt8),l.length+1 - a1≤f→a<a1→a1≤l.length→BW b l H0 a1 y4 bs H1→bs.length≤4*a1→aZ.L0 σ K (.ptr b 0) (.ptr r 0) (I en) y4 H1:=by
  intro f
  induction f with
  | zero=>intro a1 H1 y4 bs hf g1 g2 hB hlen; omega
  | succ f ih =>
   intro a1 H1 y4 bs hf g1 g2 hB hlen
   have hb0:b<H0.n:=by omega
   have stepA:a1<l.length→∀ c:Int,ai Tryz.prog σ cp [y4,I c] H1 fun x51 H52=>bnd (au (.ptr b 0)) fun x53=>bnd (ae x53 1) fun x54=>bnd (ldA false 1 H52 x54) fun x55=>bnd (af .add x55 (I 1)) fun x56=>bnd (au (.ptr b 0)) fun x57=>bnd (ae x57 1) fun x58=>bnd (stA 1 H52 x58 x56) fun H59=>aZ.L0 σ K (.ptr b 0) (.ptr r 0) (I en) x51 H59:=by
    intro hlt c
    refine hB.put hb0 (by omega) fun x' H2 bs' hB2 hb4=>?_
    refine hB2.adv hb0 1 rfl (by omega) fun H3 hB3=>?_
    exact ih (a1+1) H3 x' _ (by omega) (by omega) (by omega) hB3 (by rw [List.length_append]; omega)
   have stepE:a1+2≤l.length→ai Tryz.prog σ ck [.ptr b 0] H1 fun x47 H48=>ai Tryz.prog σ cp [y4,x47] H48 fun x49 H50=>aZ.L0 σ K (.ptr b 0) (.ptr r 0) (I en) x49 H50:=by
    intro h2
    refine qo hB.rd h2 (by omega) fun c a' H2 hr k2 _ hlt hle=>?_
    refine (hB.to hb0 hr k2).put hb0 (by omega) fun x' H3 bs' hB3 hb4=>?_
    exact ih a' H3 x' _ (by omega) (by omega) hle hB3 (by rw [List.length_append]; omega)
   have stepM:∀ (m:Nat) (k:Int),k=(m:Int)→1≤m→a1+m≤l.length→bnd (au (.ptr b 0)) fun x28=>bnd (ae x28 1) fun x29=>bnd (ldA false 1 H1 x29) fun x30=>bnd (af .add x30 (I k)) fun x31=>bnd (au (.ptr b 0)) fun x32=>bnd (ae x32 1) fun x33=>bnd (stA 1 H1 x33 x31) fun H34=>aZ.L0 σ K (.ptr b 0) (.ptr r 0) (I en) y4 H34:=by
    intro m k hk hm hle
    refine hB.adv hb0 m hk (by omega) fun H3 hB3=>?_
    exact ih (a1+m) H3 y4 _ (by omega) (by omega) hle hB3 (by omega)
   have b1:bi [I 0,.lit (.string ⟨#[]⟩),I 0,.lit (.bool false),I 0] [(0,1,I 4),(1,1,Sx ⟨bs.toArray⟩)]=some (bV ⟨4,⟨bs.toArray⟩,0,false,0⟩):=rfl
   have b2:bi [I 0,.lit (.string ⟨#[]⟩),I 0,.lit (.bool false),I 0] [(0,1,I 5)]=some (bV ⟨5,⟨#[]⟩,0,false,0⟩):=rfl
   have t1:jm ⟨4,⟨bs.toArray⟩,0,false,0⟩:=⟨by simp; omega,(by decide:(-2147483647:Int)≤0),(by decide:(0:Int)≤2147483647)⟩
   have t2:jm ⟨5,⟨#[]⟩,0,false,0⟩:=⟨by decide,by decide⟩
   have sb:=gE l a1
   have sb1:=gE l (a1+1)
   refine aZ.L0_step ?_
   refine cF 0 rfl hB.rd (by omega) ?_
   rw [Nat.add_zero,bA,aa,ah]
   simp only [decide_eq_true_eq]
   by_cases c0:cN l a1<0
   ·rw [if_pos c0,tV hB.gs,aa,b1,aa]
    exact fin H1 _ a1 hB.rd hB.kp g1 g2 t1
   rw [if_neg c0,bD,aa,ah]
   simp only [decide_eq_true_eq]
   have hlt:a1<l.length:=sb.2.1 (by omega)
   by_cases c1:cN l a1=en
   ·rw [if_pos c1]
    refine hB.adv hb0 1 rfl (by omega) fun H3 hB3=>?_
    rw [tV hB3.gs,aa,b1,aa]
    exact fin H3 _ (a1+1) hB3.rd hB3.kp (by omega) (by omega) t1
   rw [if_neg c1,bD,aa,ah]
   simp only [decide_eq_true_eq]
   by_cases c2:cN l a1=10
   ·rw [if_pos c2,b2,aa]
    exact fin H1 _ a1 hB.rd hB.kp g1 g2 t2
   rw [if_neg c2]
   simp only [bD,aa,ah,decide_eq_true_eq]
   by_cases c3:cN l a1=92
   ·simp only [if_pos c3]
    refine cF 1 rfl hB.rd (by omega) ?_
    rw [bA,aa,ah]
    simp only [decide_eq_true_eq]
    by_cases c4:cN l (a1+1)<0
    ·rw [if_pos c4]
     exact stepM 1 1 rfl (by omega) (by omega)
    have h2l:a1+1<l.length:=sb1.2.1 (by omega)
    rw [if_neg c4]
    refine cF 1 rfl hB.rd (by omega) ?_
    simp only [bD,aa,ah,decide_eq_true_eq]
    by_cases c5:cN l (a1+1)=10
    ·rw [if_pos c5]
     exact stepM 2 2 rfl (by omega) (by omega)
    ·rw [if_neg c5]
     exact stepE (by omega)
   ·simp only [if_neg c3]
    exact stepA hlt _
 exact L0 _ (a+1) H1 _ [] (Nat.le_refl _) (by omega) (by omega) ⟨h1,k1,.nil,fun j hj=>hj.elim⟩ (by simp)
end
theorem IH (v:Int) (H:Hp) {K:AV→Hp→Prop} (hK:∀ m:Int,-2147483647≤m→m≤2147483647→K (I m) H):ai Tryz.prog σ lu [I v] H K:=by
 refine rI.run ?_
 simp only [eF,bA,aa,ah,decide_eq_true_eq]
 split
 ·exact hK _ (by omega) (by omega)
 ·split
  ·exact hK _ (by omega) (by omega)
  ·exact hK _ (by omega) (by omega)
section
attribute [local irreducible] aE.J0 aE.L1 aE.J2 aE.L3 aE.J4 aE.J5
theorem Kh (s:ByteArray) (hs:s.data.size≤1000000) (H:Hp) {K:AV→Hp→Prop} (hK:∀ (m:Int) (ok:Bool),-2147483647≤m→m≤2147483647→K (.tup [I m,Bo ok]) H):ai Tryz.prog σ lG [Sx s] H K:=by
 refine aE.run ?_
 have ls:ct (Sx s)=some (I (s.data.size:Int)):=rfl
 have hz:=hK 0 false (by decide) (by decide)
 have ix:∀ i:Nat,i<s.data.size→∃ c:UInt8,ig (Sx s) (I (i:Int))=some (.lit (.int .u8 c.toNat)):=fun i hi=>by
  obtain ⟨c,hc⟩:=cb (show i<(tl s).length by rw [cK]; exact hi)
  exact ⟨c,uc hc⟩
 have cv:∀ c:UInt8,dP .i64 (.lit (.int .u8 (c.toNat:Int)))=some (I (c.toNat:Int)):=fun c=>by
  show some (AV.lit (.int .i64 (wr .i64 (c.toNat:Int))))=_
  have:=c.toNat_lt
  rw [eh (by omega) (by omega)]
 have J5:∀ (y4 y7 y8 y9 y10:AV) (b5:Bool) (v:Int),aE.J5 σ K (Sx s) y4 (Bo b5) (I v) y7 y8 y9 y10 H:=by
  intro y4 y7 y8 y9 y10 b5 v
  refine aE.J5_step ?_
  exact IH v H fun m h1 h2=>hK m true h1 h2
 have J4:∀ (i:Int) (b5 b9:Bool) (v n7 n8:Int) (y10:AV),aE.J4 σ K (Sx s) (I i) (Bo b5) (I v) (I n7) (I n8) (Bo b9) y10 H:=by
  intro i b5 b9 v n7 n8 y10
  refine aE.J4_step ?_
  have j5:(if b5=true then aE.J5 σ K (Sx s) (I i) (Bo b5) (I (wr .i64 (0 - v))) (I n7) (I n8) (Bo b9) y10 H else aE.J5 σ K (Sx s) (I i) (Bo b5) (I v) (I n7) (I n8) (Bo b9) y10 H):=by
   split
   ·exact J5 _ _ _ _ _ _ _
   ·exact J5 _ _ _ _ _ _ _
  simp only [ls,aa,ki,bD,dQ,KQ,ah]
  repeat' split
  all_goals first | exact hz | exact J5 _ _ _ _ _ _ _
 have L3:∀ (f i:Nat) (b5 b9:Bool) (v n7 n8 n10:Int),s.data.size+1 - i≤f→i≤s.data.size→aE.L3 σ K (Sx s) (I (i:Int)) (Bo b5) (I v) (I n7) (I n8) (Bo b9) (I n10) H:=by
  intro f
  induction f with
  | zero=>intro i b5 b9 v n7 n8 n10 hf hi; omega
  | succ f ih =>
   intro i b5 b9 v n7 n8 n10 hf hi
   refine aE.L3_step ?_
   simp only [ls,aa,bA,ah,decide_eq_true_eq]
   by_cases hlt:(i:Int)<s.data.size
   ·rw [if_pos hlt]
    obtain ⟨c,hc⟩:=ix i (by omega)
    simp only [hc,aa,cv]
    refine am (iU _ H) ?_
    rw [ah]
    split
    ·simp only [ik,oE,bN,aa,zQ _ 10 .i64 (by decide)]
     rw [bz (by omega)]
     exact ih (i+1) _ _ _ _ _ _ (by omega) (by omega)
    ·exact J4 _ _ _ _ _ _ _
   ·rw [if_neg hlt]
    exact J4 _ _ _ _ _ _ _
 have L1:∀ (f i:Nat) (b5:Bool) (v n7:Int) (y8 y9 y10:AV),s.data.size+1 - i≤f→i≤s.data.size→aE.L1 σ K (Sx s) (I (i:Int)) (Bo b5) (I v) (I n7) y8 y9 y10 H:=by
  intro f
  induction f with
  | zero=>intro i b5 v n7 y8 y9 y10 hf hi; omega
  | succ f ih =>
   intro i b5 v n7 y8 y9 y10 hf hi
   have J2:∀ v:Int,i<s.data.size→aE.J2 σ K (Sx s) (I (i:Int)) (Bo b5) (I v) (I n7) y8 y9 y10 H:=by
    intro v hlt
    refine aE.J2_step ?_
    simp only [bN,aa]
    rw [bz (show i<9000000000000000000 by omega)]
    exact ih (i+1) _ _ _ _ _ _ (by omega) (by omega)
   have pt:∀ v:Int,(if (i:Int)<(s.data.size:Int) then bnd (ig (Sx s) (I (i:Int))) fun x16=>bnd (af .eql x16 (.lit (.int .u8 46))) fun x17=>ifB x17 (bnd (af .add (I (i:Int)) (I 1)) fun x18=>aE.L3 σ K (Sx s) x18 (Bo b5) (I v) (I n7) (I 0) x17 (I 100) H) (aE.J4 σ K (Sx s) (I (i:Int)) (Bo b5) (I v) (I n7) (I 0) x17 y10 H) else aE.J4 σ K (Sx s) (I (i:Int)) (Bo b5) (I v) (I n7) (I 0) (Bo false) y10 H):=by
    intro v
    split
    ·rename_i hlt
     obtain ⟨c,hc⟩:=ix i (by omega)
     simp only [hc,aa,bD,ah,bN]
     split
     ·rw [bz (by omega)]
      exact L3 _ (i+1) _ _ _ _ _ _ (Nat.le_refl _) (by omega)
     ·exact J4 _ _ _ _ _ _ _
    ·exact J4 _ _ _ _ _ _ _
   refine aE.L1_step ?_
   simp only [ls,aa,bA,ah,decide_eq_true_eq]
   by_cases hlt:(i:Int)<s.data.size
   ·rw [if_pos hlt]
    obtain ⟨c,hc⟩:=ix i (by omega)
    simp only [hc,aa,cv]
    refine am (iU _ H) ?_
    rw [ah]
    split
    ·simp only [ik,oE,bN,eF,aa,ah]
     split
     ·exact J2 _ (by omega)
     ·exact J2 _ (by omega)
    ·have:=pt (wr .i64 (v*1000))
     rw [if_pos hlt] at this
     simp only [hc,aa] at this
     simp only [oE,aa,if_pos hlt]
     exact this
   ·rw [if_neg hlt]
    have:=pt (wr .i64 (v*1000))
    rw [if_neg hlt] at this
    simp only [oE,aa,if_neg hlt]
    exact this
 have J0:∀ (i:Nat) (b5:Bool) (y6 y7 y8 y9 y10:AV),i≤s.data.size→aE.J0 σ K (Sx s) (I (i:Int)) (Bo b5) y6 y7 y8 y9 y10 H:=by
  intro i b5 y6 y7 y8 y9 y10 hi
  exact aE.J0_step (L1 _ i _ _ _ _ _ _ (Nat.le_refl _) hi)
 have w1:wr .i64 ((0:Int)+1)=((1:Nat):Int):=rfl
 simp only [ls,aa,bA,ah,decide_eq_true_eq]
 split
 ·rename_i h0
  obtain ⟨c,hc⟩:=ix 0 (by omega)
  have hc:ig (Sx s) (I 0)=some (.lit (.int .u8 c.toNat)):=hc
  simp only [hc,aa,bD,ah,bN,w1]
  split
  ·exact J0 1 _ _ _ _ _ _ (by omega)
  ·split
   ·exact J0 1 _ _ _ _ _ _ (by omega)
   ·exact J0 0 _ _ _ _ _ _ (by omega)
 ·exact J0 0 _ _ _ _ _ _ (by omega)
end
end Go.Proofs.YthmaggcfghjmfaaGreat.Ev
namespace Go.Proofs.YthmaggcfghjmfaaGreat.Ev
set_option linter.unusedVariables false
set_option linter.unusedSimpArgs false
variable {σ:Sig}
theorem BW.app {b a:Nat} {l:List Int} {H0 H:Hp} {x:AV} {bs bs2:List UInt8} (h:BW b l H0 a x bs H) (hb:b<H0.n) (hn:bs.length≤1000000) (h2:bs2.length≤10) {n:Nat} (hnl:n=bs2.length) {K:AV × Hp→Prop} (hK:∀ x' H',BW b l H0 a x' (bs++bs2) H'→K (x',H')) :
  bnd (bc false 1 1 (H.new (.cells (bs2.map dN) true)) x (.sl H.n 0 1 n (some n))) K:=by
 refine kR h.gs hn h2 hnl fun x' H' g fr=>hK x' H' ⟨?_,⟨?_,fun j hj hjb=>?_⟩,g,fun j hj=>?_⟩
 ·unfold Rd
  rw [fr.same b (by have:=h.kp.n; omega) fun ho=>h.ob hb ho rfl]
  exact h.rd
 ·have:=h.kp.n; have:=fr.grow; omega
 ·rw [fr.same j (by have:=h.kp.n; omega) fun ho=>by have:=h.ow j ho; omega]
  exact h.kp.g j hj hjb
 ·rcases fr.mine j hj with h1 | ⟨h1,_⟩
  ·exact h.ow j h1
  ·have:=h.kp.n; omega
section
attribute [local irreducible] ar.J0 ar.L1 ar.L2 ar.J3
theorem wz {b a:Nat} {l:List Int} {H:Hp} {K:AV→Hp→Prop} (h:Rd b l a H) (hb:b<H.n) (hl:l.length≤200) (hnum:wT l a=true)
  (hK:∀ (t:Tn) (a':Nat) (H':Hp),Rd b l a' H'→Kpb b H H'→a<a'→a'≤l.length→jm t→K (.agg (bV t)) H') (ha:a≤l.length):ai Tryz.prog σ bW [.ptr b 0] H K:=by
 refine ar.run ?_
 rw [bw]
 obtain ⟨r,hr⟩:∃ r,r=H.n:=⟨_,rfl⟩
 obtain ⟨H0,hH0⟩:∃ H0,H0=H.new (.cells zTn true):=⟨_,rfl⟩
 have e0:H.new (.cells [I 0,.lit (.string ⟨#[]⟩),I 0,.lit (.bool false),I 0] true)=H0:=hH0.symm
 have n0:H0.n=H.n+1:=by rw [hH0]; rfl
 have g0:H0.get r=some (.cells zTn true):=by rw [hH0,hr]; simp
 have k0:Kpb b H H0:=⟨by omega,fun j hj _=>by rw [hH0,aB,if_neg (by omega)]⟩
 have h0:Rd b l a H0:=by unfold Rd; rw [hH0,aB,if_neg (by omega)]; exact h
 rw [e0,← hr]
 clear hH0 e0
 have hrb:r≠b:=by omega
 have hb0:b<H0.n:=by omega
 have fin:∀ (H1:Hp) (t:Tn) (a1:Nat),Rd b l a1 H1→Kpb b H0 H1→a<a1→a1≤l.length→jm t→bnd (stA 5 H1 (.ptr r 0) (.agg (bV t))) fun H6=>bnd (ldA true 5 H6 (.ptr r 0)) fun r7=>K r7 H6:=by
  intro H1 t a1 h1 k1 g1 g2 ht
  refine wu (cs:=zTn) (by rw [k1.g r (by omega) hrb]; exact g0) rfl fun H2 n2 o2=>hK t a1 H2 ?_ ⟨?_,fun j hj hjb=>?_⟩ g1 g2 ht
  ·unfold Rd; rw [o2 b (Ne.symm hrb)]; exact h1
  ·have:=k0.n; have:=k1.n; omega
  ·rw [o2 j (by omega),k1.g j (by omega) hjb]
   exact k0.g j hj hjb
 have ex:∀ x y:AV,exR (.tup [x,y]) 0=some x∧exR (.tup [x,y]) 1=some y:=fun _ _=>⟨rfl,rfl⟩
 have J3:∀ (a1:Nat) (H1:Hp) (y3:AV) (bs:List UInt8) (w:Bool),a<a1→a1≤l.length→BW b l H0 a1 y3 bs H1→bs.length≤4*a1→ar.J3 σ K (.ptr b 0) (.ptr r 0) y3 (Bo w) H1:=by
  intro a1 H1 y3 bs w g1 g2 hB hlen
  refine ar.J3_step ?_
  rw [tV hB.gs,aa]
  refine Kh _ (by simp; omega) H1 fun m ok m1 m2=>?_
  rw [(ex _ _).1,aa,(ex _ _).2,aa]
  refine o4 0 rfl hB.rd (by omega) ?_
  rw [ah]
  split
  ·refine ql hB.rd (by have:=hB.kp.n; omega) hl (by omega) fun s a2 H2 hr2 k2 ge le hs _=>?_
   have eb:bi [I 0,.lit (.string ⟨#[]⟩),I 0,.lit (.bool false),I 0] [(0,1,I 8),(2,1,I m),(1,1,Sx s)]=some (bV ⟨8,s,m,false,0⟩):=rfl
   rw [eb,aa]
   exact fin H2 _ a2 hr2 (hB.kp.trans k2) (by omega) (by omega) ⟨hs,m1,m2⟩
  ·refine cF 0 rfl hB.rd (by omega) ?_
   rw [bD,aa,ah]
   split
   ·rename_i hc
    have hc:=of_decide_eq_true hc
    have:=(gE l (a1+0)).2.1 (by omega)
    refine hB.adv hb0 1 rfl (by omega) fun H3 hB3=>?_
    have eb:bi [I 0,.lit (.string ⟨#[]⟩),I 0,.lit (.bool false),I 0] [(0,1,I 7),(2,1,I m)]=some (bV ⟨7,⟨#[]⟩,m,false,0⟩):=rfl
    rw [eb,aa]
    exact fin H3 _ (a1+1) hB3.rd hB3.kp (by omega) (by omega) ⟨(by decide:(0:Nat)≤900),m1,m2⟩
   ·have eb:bi [I 0,.lit (.string ⟨#[]⟩),I 0,.lit (.bool false),I 0] [(0,1,I 6),(2,1,I m),(3,1,Bo w)]=some (bV ⟨6,⟨#[]⟩,m,w,0⟩):=rfl
    rw [eb,aa]
    exact fin H1 _ a1 hB.rd hB.kp g1 g2 ⟨(by decide:(0:Nat)≤900),m1,m2⟩
 have L2:∀ (f a1:Nat) (H1:Hp) (y3:AV) (bs:List UInt8) (w:Bool),l.length+1 - a1≤f→a<a1→a1≤l.length→BW b l H0 a1 y3 bs H1→bs.length≤4*a1→ar.L2 σ K (.ptr b 0) (.ptr r 0) y3 (Bo w) H1:=by
  intro f
  induction f with
  | zero=>intro a1 H1 y3 bs w hf g1 g2 hB hlen; omega
  | succ f ih =>
   intro a1 H1 y3 bs w hf g1 g2 hB hlen
   refine ar.L2_step ?_
   refine cF 0 rfl hB.rd (by omega) (am (iU _ H1) ?_)
   rw [ah]
   split
   ·rename_i hd
    have hlt:=(gE l (a1+0)).2.1 (yo hd)
    refine cF 0 rfl hB.rd (by omega) ?_
    refine hB.put hb0 (by omega) fun x' H2 bs' hB2 hb4=>?_
    refine hB2.adv hb0 1 rfl (by omega) fun H3 hB3=>?_
    exact ih (a1+1) H3 x' _ w (by omega) (by omega) (by omega) hB3 (by rw [List.length_append]; omega)
   ·exact J3 a1 H1 y3 bs w g1 g2 hB hlen
 have L1:∀ (f a1:Nat) (H1:Hp) (y3:AV) (bs:List UInt8),l.length+1 - a1≤f→(a<a1∨(a1=a∧vN l a=true))→a1≤l.length→BW b l H0 a1 y3 bs H1→bs.length≤4*a1→ar.L1 σ K (.ptr b 0) (.ptr r 0) y3 (Bo true) H1:=by
  intro f
  induction f with
  | zero=>intro a1 H1 y3 bs hf g1 g2 hB hlen; omega
  | succ f ih =>
   intro a1 H1 y3 bs hf g1 g2 hB hlen
   have hge:a≤a1:=by rcases g1 with h | ⟨h,_⟩<;>omega
   refine ar.L1_step ?_
   refine cF 0 rfl hB.rd (by omega) (am (iU _ H1) ?_)
   rw [ah,Nat.add_zero]
   cases hd:pZ (cN l a1) with
   | true =>
    have hlt:=(gE l a1).2.1 (yo hd)
    simp only [if_true]
    refine cF 0 rfl hB.rd (by omega) ?_
    refine hB.put hb0 (by omega) fun x' H2 bs' hB2 hb4=>?_
    refine hB2.adv hb0 1 rfl (by omega) fun H3 hB3=>?_
    exact ih (a1+1) H3 x' _ (by omega) (.inl (by omega)) (by omega) hB3 (by rw [List.length_append]; omega)
   | false =>
    simp only [Bool.false_eq_true,if_false]
    refine cF 0 rfl hB.rd (by omega) ?_
    rw [bD,aa,ah,Nat.add_zero]
    simp only [decide_eq_true_eq]
    by_cases hp:cN l a1=46
    ·have hlt:=(gE l a1).2.1 (by omega)
     rw [if_pos hp]
     refine cF 1 rfl hB.rd (by omega) (am (iU _ H1) ?_)
     rw [ah]
     cases hd1:pZ (cN l (a1+1)) with
     | true =>
      simp only [if_true]
      have eb:aw [.int .u8 0] 1 1 H1 [(0,1,.lit (.int .u8 46))]=some (.sl H1.n 0 1 1 (some 1),H1.new (.cells ([(46:UInt8)].map dN) true)):=rfl
      rw [eb,aa]
      refine hB.app (bs2:=[46]) hb0 (by omega) (by simp) rfl fun x' H2 hB2=>?_
      refine hB2.adv hb0 1 rfl (by omega) fun H3 hB3=>?_
      exact L2 _ (a1+1) H3 x' _ false (Nat.le_refl _) (by omega) (by omega) hB3 (by rw [List.length_append]; simp; omega)
     | false =>
      simp only [Bool.false_eq_true,if_false]
      refine J3 a1 H1 y3 bs true ?_ g2 hB hlen
      rcases g1 with h | ⟨h,hn⟩
      ·exact h
      ·subst h
       unfold vN at hn
       rw [hd,hd1] at hn
       simp at hn
    ·rw [if_neg hp]
     refine J3 a1 H1 y3 bs true ?_ g2 hB hlen
     rcases g1 with h | ⟨h,hn⟩
     ·exact h
     ·subst h
      unfold vN at hn
      rw [hd] at hn
      simp [hp] at hn
 have J0:∀ (a1:Nat) (H1:Hp) (y3:AV) (bs:List UInt8),(a<a1∨(a1=a∧vN l a=true))→a1≤l.length→BW b l H0 a1 y3 bs H1→bs.length≤4*a1→ar.J0 σ K (.ptr b 0) (.ptr r 0) y3 (Bo true) H1:=fun a1 H1 y3 bs g1 g2 hB hlen=>ar.J0_step (L1 _ a1 H1 y3 bs (Nat.le_refl _) g1 g2 hB hlen)
 have hB0:BW b l H0 a (.lit (.slice none 0 0)) [] H0:=⟨h0,.refl,.nil,fun j hj=>hj.elim⟩
 have sgn:cN l a=43∨cN l a=45→ai Tryz.prog σ ak [.ptr b 0,I 0] H0 fun x6 H7=>ai Tryz.prog σ cp [.lit (.slice none 0 0),x6] H7 fun x8 H9=>bnd (au (.ptr b 0)) fun x10=>bnd (ae x10 1) fun x11=>bnd (ldA false 1 H9 x11) fun x12=>bnd (af .add x12 (I 1)) fun x13=>bnd (au (.ptr b 0)) fun x14=>bnd (ae x14 1) fun x15=>bnd (stA 1 H9 x15 x13) fun H16=>ar.J0 σ K (.ptr b 0) (.ptr r 0) x8 (Bo true) H16:=by
  intro hc
  have hlt:=(gE l a).2.1 (by omega)
  refine cF 0 rfl h0 (by omega) ?_
  refine hB0.put hb0 (by simp) fun x' H2 bs' hB2 hb4=>?_
  refine hB2.adv hb0 1 rfl (by omega) fun H3 hB3=>?_
  exact J0 (a+1) H3 x' _ (.inl (by omega)) (by omega) hB3 (by rw [List.length_append]; simp; omega)
 unfold wT at hnum
 refine cF 0 rfl h0 (by omega) ?_
 rw [bD,aa,ah,Nat.add_zero]
 simp only [decide_eq_true_eq]
 by_cases h1:cN l a=43
 ·rw [if_pos h1]
  exact sgn (.inl h1)
 rw [if_neg h1]
 refine cF 0 rfl h0 (by omega) ?_
 rw [bD,aa,ah,Nat.add_zero]
 simp only [decide_eq_true_eq]
 by_cases h2:cN l a=45
 ·rw [if_pos h2]
  exact sgn (.inr h2)
 rw [if_neg h2]
 rw [if_neg (by omega)] at hnum
 exact J0 a H0 _ [] (.inr ⟨rfl,hnum⟩) ha hB0 (by simp)
end
structure TkS (b:Nat) (l:List Int) (H0:Hp) (a:Nat) (y:AV) (ts:List Tn) (H:Hp):Prop where
 rd:Rd b l a H
 kp:Kpb b H0 H
 gs:Gs 5 H y (ts.map bV)
 ow:∀ j,own y j→j≠b
 old:∀ j,own y j→H0.n≤j
theorem TkS.to {b a a':Nat} {l:List Int} {H0 H H':Hp} {y:AV} {ts:List Tn} (h:TkS b l H0 a y ts H) (hr:Rd b l a' H') (hk:Kpb b H H'):TkS b l H0 a' y ts H' :=
 ⟨hr,h.kp.trans hk,h.gs.keep (fun j hj=>hk.g j (h.gs.lt hj) (h.ow j hj)) hk.n,h.ow,h.old⟩
theorem TkS.app {b a:Nat} {l:List Int} {H0 H:Hp} {y:AV} {ts:List Tn} (h:TkS b l H0 a y ts H) (hb:b<H0.n) (hn:ts.length≤1000000) (t:Tn) {K:AV × Hp→Prop} (hK:∀ y' H',TkS b l H0 a y' (ts++[t]) H'→K (y',H')) :
  bnd (aw [.int .i64 0,.string ⟨#[]⟩,.int .i64 0,.bool false,.int .i64 0] 5 1 H [(0,5,.agg (bV t))]) fun p=>bnd (bc false 5 48 p.2 y p.1) K:=by
 have hkn:=h.kp.n
 refine fJ (y:=.agg (bV t)) h.gs rfl rfl rfl (by rw [List.length_map]; omega) (by rw [List.length_map]; omega) fun x' H' g' fr=>hK x' H' ⟨?_,⟨?_,fun j hj hjb=>?_⟩,?_,fun j hj=>?_,fun j hj=>?_⟩
 ·unfold Rd
  rw [fr.same b (by omega) fun ho=>h.ow b ho rfl]
  exact h.rd
 ·have:=fr.grow; omega
 ·rw [fr.same j (by omega) fun ho=>?_]
  ·exact h.kp.g j hj hjb
  ·exact absurd (h.old j ho) (by omega)
 ·rw [List.map_append]; exact g'
 ·rcases fr.mine j hj with h1 | ⟨h1,_⟩
  ·exact h.ow j h1
  ·omega
 ·rcases fr.mine j hj with h1 | ⟨h1,_⟩
  ·exact h.old j h1
  ·omega
section
attribute [local irreducible] aj.L0 aj.L1 aj.L2
theorem yY {b:Nat} {l:List Int} {H0:Hp} {K:AV→Hp→Prop} (hb:b<H0.n) (hl:l.length≤200)
  (hK:∀ (y:AV) (ts:List Tn) (a:Nat) (H':Hp),TkS b l H0 a y ts H'→ts.length≤l.length+2→(∀ t ∈ ts,jm t)→K y H') :
  ∀ (f a1:Nat) (H1:Hp) (y:AV) (ts:List Tn),l.length+3 - a1≤f→a1≤l.length+2→TkS b l H0 a1 y ts H1→ts.length≤a1→(∀ t ∈ ts,jm t)→aj.L0 σ K (.ptr b 0) y H1:=by
 intro f
 induction f with
 | zero=>intro a1 H1 y ts hf g1 hT hlen hok; omega
 | succ f ih =>
  intro a1 H1 y ts hf g1 hT hlen hok
  have hbn:∀ {a y ts H},TkS b l H0 a y ts H→b<H.n:=fun h=>by have:=h.kp.n; omega
  have nxt:∀ (a':Nat) (H':Hp),TkS b l H0 a' y ts H'→a1<a'→a'≤l.length+2→aj.L0 σ K (.ptr b 0) y H':=fun a' H' h h1 h2=>ih a' H' y ts (by omega) h2 h (by omega) hok
  have app:∀ (a':Nat) (H':Hp) (t:Tn),TkS b l H0 a' y ts H'→jm t→a1<a'→a'≤l.length+2→bnd (aw [.int .i64 0,.string ⟨#[]⟩,.int .i64 0,.bool false,.int .i64 0] 5 1 H' [(0,5,.agg (bV t))]) fun p=>bnd (bc false 5 48 p.2 y p.1) fun q=>aj.L0 σ K (.ptr b 0) q.1 q.2:=fun a' H' t h ht h1 h2 =>
   h.app hb (by omega) t fun y' H2 h3=>ih a' H2 y' _ (by omega) h2 h3 (by rw [List.length_append]; simp; omega) fun u hu=>by
    rcases List.mem_append.1 hu with hu | hu
    ·exact hok u hu
    ·rw [List.mem_singleton.1 hu]; exact ht
  have alc:∀ (a':Nat) (H':Hp) (t:Tn),TkS b l H0 a' y ts H'→jm t→a1<a'→a'≤l.length+2→bq [.lit (.int .i64 0),.lit (.string ⟨#[]⟩),.lit (.int .i64 0),.lit (.bool false),.lit (.int .i64 0)] H' fun x26 H27=>bnd (stA 5 H27 x26 (.agg (bV t))) fun H28=>bnd (ldA true 5 H28 x26) fun x29=>bnd (aw [.int .i64 0,.string ⟨#[]⟩,.int .i64 0,.bool false,.int .i64 0] 5 1 H28 [(0,5,x29)]) fun p30=>bnd (bc false 5 48 p30.2 y p30.1) fun p31=>aj.L0 σ K (.ptr b 0) p31.1 p31.2:=by
   intro a' H' t h ht h1 h2
   rw [bw]
   have hn:=hbn h
   refine wu (K:=fun x29 H28=>bnd (aw [.int .i64 0,.string ⟨#[]⟩,.int .i64 0,.bool false,.int .i64 0] 5 1 H28 [(0,5,x29)]) fun p30=>bnd (bc false 5 48 p30.2 y p30.1) fun p31=>aj.L0 σ K (.ptr b 0) p31.1 p31.2) (cs:=zTn) (by rw [aB,if_pos rfl]; rfl) rfl fun H2 n2 o2=>?_
   have k2:Kpb b H' H2:=⟨by rw [n2]; simp,fun j hj hjb=>by rw [o2 j (by omega),aB,if_neg (by omega)]⟩
   have r2:Rd b l a' H2:=by unfold Rd; rw [o2 b (by omega),aB,if_neg (by omega)]; exact h.rd
   exact app a' H2 t (h.to r2 k2) ht h1 h2
  have sb:=gE l a1
  have sb1:=gE l (a1+1)
  have z1:∀ k:Int,bi [.lit (.int .i64 0),.lit (.string ⟨#[]⟩),.lit (.int .i64 0),.lit (.bool false),.lit (.int .i64 0)] [(0,1,.lit (.int .i64 k))]=some (bV ⟨k,⟨#[]⟩,0,false,0⟩):=fun _=>rfl
  have z2:∀ (k:Int) (s:ByteArray),bi [.lit (.int .i64 0),.lit (.string ⟨#[]⟩),.lit (.int .i64 0),.lit (.bool false),.lit (.int .i64 0)] [(0,1,.lit (.int .i64 k)),(1,1,Sx s)]=some (bV ⟨k,s,0,false,0⟩):=fun _ _=>rfl
  have z3:∀ k c:Int,bi [.lit (.int .i64 0),.lit (.string ⟨#[]⟩),.lit (.int .i64 0),.lit (.bool false),.lit (.int .i64 0)] [(0,1,.lit (.int .i64 k)),(4,1,I c)]=some (bV ⟨k,⟨#[]⟩,0,false,c⟩):=fun _ _=>rfl
  have ok1:∀ k c:Int,jm ⟨k,⟨#[]⟩,0,false,c⟩:=fun _ _=>⟨(by decide:(0:Nat)≤900),(by decide:(-2147483647:Int)≤0),(by decide:(0:Int)≤2147483647)⟩
  have ok2:∀ (k:Int) (s:ByteArray),s.data.size≤900→jm ⟨k,s,0,false,0⟩:=fun _ _ h=>⟨h,(by decide:(-2147483647:Int)≤0),(by decide:(0:Int)≤2147483647)⟩
  refine aj.L0_step ?_
  refine cF 0 rfl hT.rd (by omega) ?_
  rw [fl,aa,ah,Nat.add_zero]
  split
  case isFalse=>exact hK y ts a1 H1 hT (by omega) hok
  rename_i hc0
  have hlt:a1<l.length:=sb.2.1 (of_decide_eq_true hc0)
  have AB:ifB (Bo (qu l a1)) (ai Tryz.prog σ aA [(.ptr b 0)] H1 fun x95 H96=>ai Tryz.prog σ ak [(.ptr b 0),(.lit (.int .i64 0))] H96 fun x97 H98=>bnd (af .eql x97 (.lit (.int .i64 40))) fun x99=>ifB x99 (bnd (au (.ptr b 0)) fun x100=>bnd (ae x100 1) fun x101=>bnd (ldA false 1 H98 x101) fun x102=>bnd (af .add x102 (.lit (.int .i64 1))) fun x103=>bnd (au (.ptr b 0)) fun x104=>bnd (ae x104 1) fun x105=>bnd (stA 1 H98 x105 x103) fun H106=>bnd (bi [.lit (.int .i64 0),.lit (.string ⟨#[]⟩),.lit (.int .i64 0),.lit (.bool false),.lit (.int .i64 0)] [(0,1,(.lit (.int .i64 20))),(1,1,x95)]) fun l107=>bnd (aw [.int .i64 0,.string ⟨#[]⟩,.int .i64 0,.bool false,.int .i64 0] 5 1 H106 [(0,5,(.agg l107))]) fun p108=>bnd (bc false 5 48 p108.2 y p108.1) fun p109=>aj.L0 σ K (.ptr b 0) p109.1 p109.2) (bnd (bi [.lit (.int .i64 0),.lit (.string ⟨#[]⟩),.lit (.int .i64 0),.lit (.bool false),.lit (.int .i64 0)] [(0,1,(.lit (.int .i64 1))),(1,1,x95)]) fun l110=>bnd (aw [.int .i64 0,.string ⟨#[]⟩,.int .i64 0,.bool false,.int .i64 0] 5 1 H98 [(0,5,(.agg l110))]) fun p111=>bnd (bc false 5 48 p111.2 y p111.1) fun p112=>aj.L0 σ K (.ptr b 0) p112.1 p112.2)) (ai Tryz.prog σ bg [(I (cN l a1))] H1 fun x113 H114=>bnd (af .gtr x113 (.lit (.int .i64 0))) fun x115=>ifB x115 (bnd (au (.ptr b 0)) fun x116=>bnd (ae x116 1) fun x117=>bnd (ldA false 1 H114 x117) fun x118=>bnd (af .add x118 (.lit (.int .i64 1))) fun x119=>bnd (au (.ptr b 0)) fun x120=>bnd (ae x120 1) fun x121=>bnd (stA 1 H114 x121 x119) fun H122=>ai Tryz.prog σ bg [(I (cN l a1))] H122 fun x123 H124=>bnd (bi [.lit (.int .i64 0),.lit (.string ⟨#[]⟩),.lit (.int .i64 0),.lit (.bool false),.lit (.int .i64 0)] [(0,1,x123)]) fun l125=>bnd (aw [.int .i64 0,.string ⟨#[]⟩,.int .i64 0,.bool false,.int .i64 0] 5 1 H124 [(0,5,(.agg l125))]) fun p126=>bnd (bc false 5 48 p126.2 y p126.1) fun p127=>aj.L0 σ K (.ptr b 0) p127.1 p127.2) (bnd (au (.ptr b 0)) fun x128=>bnd (ae x128 1) fun x129=>bnd (ldA false 1 H114 x129) fun x130=>bnd (af .add x130 (.lit (.int .i64 1))) fun x131=>bnd (au (.ptr b 0)) fun x132=>bnd (ae x132 1) fun x133=>bnd (stA 1 H114 x133 x131) fun H134=>bnd (bi [.lit (.int .i64 0),.lit (.string ⟨#[]⟩),.lit (.int .i64 0),.lit (.bool false),.lit (.int .i64 0)] [(0,1,(.lit (.int .i64 10))),(4,1,(I (cN l a1)))]) fun l135=>bnd (aw [.int .i64 0,.string ⟨#[]⟩,.int .i64 0,.bool false,.int .i64 0] 5 1 H134 [(0,5,(.agg l135))]) fun p136=>bnd (bc false 5 48 p136.2 y p136.1) fun p137=>aj.L0 σ K (.ptr b 0) p137.1 p137.2)):=by
   rw [ah]
   split
   ·rename_i hbg
    refine ql hT.rd (hbn hT) hl (by omega) fun s a2 H2 h2 k2 ge le hs hlt2=>?_
    have hT2:=hT.to h2 k2
    have hg2:=hlt2 (JK hbg)
    refine cF 0 rfl h2 (by omega) ?_
    rw [bD,aa,ah]
    split
    ·rename_i h40
     have h40:=of_decide_eq_true h40
     have:=(gE l (a2+0)).2.1 (by omega)
     refine mg 1 rfl h2 (by omega) fun H3 h3 k3 _=>?_
     rw [z2,aa]
     exact app (a2+1) H3 _ (hT2.to h3 k3) (ok2 _ _ hs) (by omega) (by omega)
    ·rw [z2,aa]
     exact app a2 H2 _ hT2 (ok2 _ _ hs) hg2 (by omega)
   ·refine am (yu _ H1) ?_
    rw [eF,aa,ah]
    split
    ·refine mg 1 rfl hT.rd (by omega) fun H2 h2 k2 _=>?_
     refine am (yu _ H2) ?_
     rw [z1,aa]
     exact app (a1+1) H2 _ (hT.to h2 k2) (ok1 _ _) (by omega) (by omega)
    ·refine mg 1 rfl hT.rd (by omega) fun H2 h2 k2 _=>?_
     rw [z3,aa]
     exact app (a1+1) H2 _ (hT.to h2 k2) (ok1 _ _) (by omega) (by omega)
  have AN:ifB (Bo (wT l a1)) (ai Tryz.prog σ bW [(.ptr b 0)] H1 fun x72 H73=>bq [.lit (.int .i64 0),.lit (.string ⟨#[]⟩),.lit (.int .i64 0),.lit (.bool false),.lit (.int .i64 0)] H73 fun x74 H75=>bnd (stA 5 H75 x74 x72) fun H76=>bnd (ldA true 5 H76 x74) fun x77=>bnd (aw [.int .i64 0,.string ⟨#[]⟩,.int .i64 0,.bool false,.int .i64 0] 5 1 H76 [(0,5,x77)]) fun p78=>bnd (bc false 5 48 p78.2 y p78.1) fun p79=>aj.L0 σ K (.ptr b 0) p79.1 p79.2) (bnd (af .eql (I (cN l a1)) (.lit (.int .i64 64))) fun x80=>ifB x80 (ai Tryz.prog σ bG [(.ptr b 0),(.lit (.int .i64 1))] H1 fun x81 H82=>ifB x81 (bnd (au (.ptr b 0)) fun x83=>bnd (ae x83 1) fun x84=>bnd (ldA false 1 H82 x84) fun x85=>bnd (af .add x85 (.lit (.int .i64 1))) fun x86=>bnd (au (.ptr b 0)) fun x87=>bnd (ae x87 1) fun x88=>bnd (stA 1 H82 x88 x86) fun H89=>ai Tryz.prog σ aA [(.ptr b 0)] H89 fun x90 H91=>bnd (bi [.lit (.int .i64 0),.lit (.string ⟨#[]⟩),.lit (.int .i64 0),.lit (.bool false),.lit (.int .i64 0)] [(0,1,(.lit (.int .i64 2))),(1,1,x90)]) fun l92=>bnd (aw [.int .i64 0,.string ⟨#[]⟩,.int .i64 0,.bool false,.int .i64 0] 5 1 H91 [(0,5,(.agg l92))]) fun p93=>bnd (bc false 5 48 p93.2 y p93.1) fun p94=>aj.L0 σ K (.ptr b 0) p94.1 p94.2) (ifB (Bo (qu l a1)) (ai Tryz.prog σ aA [(.ptr b 0)] H82 fun x95 H96=>ai Tryz.prog σ ak [(.ptr b 0),(.lit (.int .i64 0))] H96 fun x97 H98=>bnd (af .eql x97 (.lit (.int .i64 40))) fun x99=>ifB x99 (bnd (au (.ptr b 0)) fun x100=>bnd (ae x100 1) fun x101=>bnd (ldA false 1 H98 x101) fun x102=>bnd (af .add x102 (.lit (.int .i64 1))) fun x103=>bnd (au (.ptr b 0)) fun x104=>bnd (ae x104 1) fun x105=>bnd (stA 1 H98 x105 x103) fun H106=>bnd (bi [.lit (.int .i64 0),.lit (.string ⟨#[]⟩),.lit (.int .i64 0),.lit (.bool false),.lit (.int .i64 0)] [(0,1,(.lit (.int .i64 20))),(1,1,x95)]) fun l107=>bnd (aw [.int .i64 0,.string ⟨#[]⟩,.int .i64 0,.bool false,.int .i64 0] 5 1 H106 [(0,5,(.agg l107))]) fun p108=>bnd (bc false 5 48 p108.2 y p108.1) fun p109=>aj.L0 σ K (.ptr b 0) p109.1 p109.2) (bnd (bi [.lit (.int .i64 0),.lit (.string ⟨#[]⟩),.lit (.int .i64 0),.lit (.bool false),.lit (.int .i64 0)] [(0,1,(.lit (.int .i64 1))),(1,1,x95)]) fun l110=>bnd (aw [.int .i64 0,.string ⟨#[]⟩,.int .i64 0,.bool false,.int .i64 0] 5 1 H98 [(0,5,(.agg l110))]) fun p111=>bnd (bc false 5 48 p111.2 y p111.1) fun p112=>aj.L0 σ K (.ptr b 0) p112.1 p112.2)) (ai Tryz.prog σ bg [(I (cN l a1))] H82 fun x113 H114=>bnd (af .gtr x113 (.lit (.int .i64 0))) fun x115=>ifB x115 (bnd (au (.ptr b 0)) fun x116=>bnd (ae x116 1) fun x117=>bnd (ldA false 1 H114 x117) fun x118=>bnd (af .add x118 (.lit (.int .i64 1))) fun x119=>bnd (au (.ptr b 0)) fun x120=>bnd (ae x120 1) fun x121=>bnd (stA 1 H114 x121 x119) fun H122=>ai Tryz.prog σ bg [(I (cN l a1))] H122 fun x123 H124=>bnd (bi [.lit (.int .i64 0),.lit (.string ⟨#[]⟩),.lit (.int .i64 0),.lit (.bool false),.lit (.int .i64 0)] [(0,1,x123)]) fun l125=>bnd (aw [.int .i64 0,.string ⟨#[]⟩,.int .i64 0,.bool false,.int .i64 0] 5 1 H124 [(0,5,(.agg l125))]) fun p126=>bnd (bc false 5 48 p126.2 y p126.1) fun p127=>aj.L0 σ K (.ptr b 0) p127.1 p127.2) (bnd (au (.ptr b 0)) fun x128=>bnd (ae x128 1) fun x129=>bnd (ldA false 1 H114 x129) fun x130=>bnd (af .add x130 (.lit (.int .i64 1))) fun x131=>bnd (au (.ptr b 0)) fun x132=>bnd (ae x132 1) fun x133=>bnd (stA 1 H114 x133 x131) fun H134=>bnd (bi [.lit (.int .i64 0),.lit (.string ⟨#[]⟩),.lit (.int .i64 0),.lit (.bool false),.lit (.int .i64 0)] [(0,1,(.lit (.int .i64 10))),(4,1,(I (cN l a1)))]) fun l135=>bnd (aw [.int .i64 0,.string ⟨#[]⟩,.int .i64 0,.bool false,.int .i64 0] 5 1 H134 [(0,5,(.agg l135))]) fun p136=>bnd (bc false 5 48 p136.2 y p136.1) fun p137=>aj.L0 σ K (.ptr b 0) p137.1 p137.2)))) (ifB (Bo (qu l a1)) (ai Tryz.prog σ aA [(.ptr b 0)] H1 fun x138 H139=>ai Tryz.prog σ ak [(.ptr b 0),(.lit (.int .i64 0))] H139 fun x140 H141=>bnd (af .eql x140 (.lit (.int .i64 40))) fun x142=>ifB x142 (bnd (au (.ptr b 0)) fun x143=>bnd (ae x143 1) fun x144=>bnd (ldA false 1 H141 x144) fun x145=>bnd (af .add x145 (.lit (.int .i64 1))) fun x146=>bnd (au (.ptr b 0)) fun x147=>bnd (ae x147 1) fun x148=>bnd (stA 1 H141 x148 x146) fun H149=>bnd (bi [.lit (.int .i64 0),.lit (.string ⟨#[]⟩),.lit (.int .i64 0),.lit (.bool false),.lit (.int .i64 0)] [(0,1,(.lit (.int .i64 20))),(1,1,x138)]) fun l150=>bnd (aw [.int .i64 0,.string ⟨#[]⟩,.int .i64 0,.bool false,.int .i64 0] 5 1 H149 [(0,5,(.agg l150))]) fun p151=>bnd (bc false 5 48 p151.2 y p151.1) fun p152=>aj.L0 σ K (.ptr b 0) p152.1 p152.2) (bnd (bi [.lit (.int .i64 0),.lit (.string ⟨#[]⟩),.lit (.int .i64 0),.lit (.bool false),.lit (.int .i64 0)] [(0,1,(.lit (.int .i64 1))),(1,1,x138)]) fun l153=>bnd (aw [.int .i64 0,.string ⟨#[]⟩,.int .i64 0,.bool false,.int .i64 0] 5 1 H141 [(0,5,(.agg l153))]) fun p154=>bnd (bc false 5 48 p154.2 y p154.1) fun p155=>aj.L0 σ K (.ptr b 0) p155.1 p155.2)) (ai Tryz.prog σ bg [(I (cN l a1))] H1 fun x156 H157=>bnd (af .gtr x156 (.lit (.int .i64 0))) fun x158=>ifB x158 (bnd (au (.ptr b 0)) fun x159=>bnd (ae x159 1) fun x160=>bnd (ldA false 1 H157 x160) fun x161=>bnd (af .add x161 (.lit (.int .i64 1))) fun x162=>bnd (au (.ptr b 0)) fun x163=>bnd (ae x163 1) fun x164=>bnd (stA 1 H157 x164 x162) fun H165=>ai Tryz.prog σ bg [(I (cN l a1))] H165 fun x166 H167=>bnd (bi [.lit (.int .i64 0),.lit (.string ⟨#[]⟩),.lit (.int .i64 0),.lit (.bool false),.lit (.int .i64 0)] [(0,1,x166)]) fun l168=>bnd (aw [.int .i64 0,.string ⟨#[]⟩,.int .i64 0,.bool false,.int .i64 0] 5 1 H167 [(0,5,(.agg l168))]) fun p169=>bnd (bc false 5 48 p169.2 y p169.1) fun p170=>aj.L0 σ K (.ptr b 0) p170.1 p170.2) (bnd (au (.ptr b 0)) fun x171=>bnd (ae x171 1) fun x172=>bnd (ldA false 1 H157 x172) fun x173=>bnd (af .add x173 (.lit (.int .i64 1))) fun x174=>bnd (au (.ptr b 0)) fun x175=>bnd (ae x175 1) fun x176=>bnd (stA 1 H157 x176 x174) fun H177=>bnd (bi [.lit (.int .i64 0),.lit (.string ⟨#[]⟩),.lit (.int .i64 0),.lit (.bool false),.lit (.int .i64 0)] [(0,1,(.lit (.int .i64 10))),(4,1,(I (cN l a1)))]) fun l178=>bnd (aw [.int .i64 0,.string ⟨#[]⟩,.int .i64 0,.bool false,.int .i64 0] 5 1 H177 [(0,5,(.agg l178))]) fun p179=>bnd (bc false 5 48 p179.2 y p179.1) fun p180=>aj.L0 σ K (.ptr b 0) p180.1 p180.2)))):=by
   rw [ah]
   split
   ·rename_i hnum
    exact wz hT.rd (hbn hT) hl hnum (fun t a2 H2 h2 k2 g2 le2 ht=>alc a2 H2 t (hT.to h2 k2) ht g2 (by omega)) (by omega)
   ·rw [bD,aa,ah]
    split
    ·refine o4 1 rfl hT.rd (by omega) ?_
     rw [ah]
     split
     ·refine mg 1 rfl hT.rd (by omega) fun H2 h2 k2 _=>?_
      have hT2:=hT.to h2 k2
      refine ql h2 (hbn hT2) hl (by omega) fun s a3 H3 h3 k3 ge le hs _=>?_
      rw [z2,aa]
      exact app a3 H3 _ (hT2.to h3 k3) (ok2 _ _ hs) (by omega) (by omega)
     ·exact AB
    ·exact AB
  have hsh:∀ (H2:Hp),Rd b l (a1+1) H2→Kpb b H1 H2→ai Tryz.prog σ aA [.ptr b 0] H2 fun x53 H54=>bnd (bi [.lit (.int .i64 0),.lit (.string ⟨#[]⟩),.lit (.int .i64 0),.lit (.bool false),.lit (.int .i64 0)] [(0,1,(.lit (.int .i64 3))),(1,1,x53)]) fun l55=>bnd (aw [.int .i64 0,.string ⟨#[]⟩,.int .i64 0,.bool false,.int .i64 0] 5 1 H54 [(0,5,(.agg l55))]) fun p56=>bnd (bc false 5 48 p56.2 y p56.1) fun p57=>aj.L0 σ K (.ptr b 0) p57.1 p57.2:=by
   intro H2 h2 k2
   have hT2:=hT.to h2 k2
   refine ql h2 (hbn hT2) hl (by omega) fun s a3 H3 h3 k3 ge le hs _=>?_
   rw [z2,aa]
   exact app a3 H3 _ (hT2.to h3 k3) (ok2 _ _ hs) (by omega) (by omega)
  have L2:∀ (f a2:Nat) (H2:Hp),l.length+3 - a2≤f→a2≤l.length→TkS b l H0 a2 y ts H2→(a1<a2∨(a2=a1∧rC (cN l a1)=true))→aj.L2 σ K (.ptr b 0) y H2:=by
   intro f2
   induction f2 with
   | zero=>intro a2 H2 hf2 h1 h2 h3; omega
   | succ f2 ih2 =>
    intro a2 H2 hf2 h1 h2 h3
    refine aj.L2_step ?_
    refine cF 0 rfl h2.rd (by omega) (am (pr _ H2) ?_)
    rw [ah,Nat.add_zero]
    split
    ·rename_i hw
     have:=(gE l a2).2.1 (sG hw)
     refine mg 1 rfl h2.rd (by omega) fun H3 h4 k4 _=>?_
     exact ih2 (a2+1) H3 (by omega) (by omega) (h2.to h4 k4) (.inl (by omega))
    ·rename_i hw
     rw [z1,aa]
     refine app a2 H2 _ h2 (ok1 _ _) ?_ (by omega)
     rcases h3 with h3 | ⟨h3,h4⟩
     ·exact h3
     ·subst h3; exact absurd h4 hw
  have W:ai Tryz.prog σ dE [(I (cN l a1))] H1 fun x21 H22=>ifB x21 (aj.L2 σ K (.ptr b 0) y H22) (bnd (af .eql (I (cN l a1)) (.lit (.int .i64 34))) fun x23=>ifB x23 (ai Tryz.prog σ cR [(.ptr b 0)] H22 fun x24 H25=>bq [.lit (.int .i64 0),.lit (.string ⟨#[]⟩),.lit (.int .i64 0),.lit (.bool false),.lit (.int .i64 0)] H25 fun x26 H27=>bnd (stA 5 H27 x26 x24) fun H28=>bnd (ldA true 5 H28 x26) fun x29=>bnd (aw [.int .i64 0,.string ⟨#[]⟩,.int .i64 0,.bool false,.int .i64 0] 5 1 H28 [(0,5,x29)]) fun p30=>bnd (bc false 5 48 p30.2 y p30.1) fun p31=>aj.L0 σ K (.ptr b 0) p31.1 p31.2) (bnd (af .eql (I (cN l a1)) (.lit (.int .i64 39))) fun x32=>ifB x32 (ai Tryz.prog σ cR [(.ptr b 0)] H22 fun x33 H34=>bq [.lit (.int .i64 0),.lit (.string ⟨#[]⟩),.lit (.int .i64 0),.lit (.bool false),.lit (.int .i64 0)] H34 fun x35 H36=>bnd (stA 5 H36 x35 x33) fun H37=>bnd (ldA true 5 H37 x35) fun x38=>bnd (aw [.int .i64 0,.string ⟨#[]⟩,.int .i64 0,.bool false,.int .i64 0] 5 1 H37 [(0,5,x38)]) fun p39=>bnd (bc false 5 48 p39.2 y p39.1) fun p40=>aj.L0 σ K (.ptr b 0) p40.1 p40.2) (bnd (af .eql (I (cN l a1)) (.lit (.int .i64 35))) fun x41=>ifB x41 (ai Tryz.prog σ ak [(.ptr b 0),(.lit (.int .i64 1))] H22 fun x42 H43=>ai Tryz.prog σ dD [x42] H43 fun x44 H45=>ifB x44 (bnd (au (.ptr b 0)) fun x46=>bnd (ae x46 1) fun x47=>bnd (ldA false 1 H45 x47) fun x48=>bnd (af .add x48 (.lit (.int .i64 1))) fun x49=>bnd (au (.ptr b 0)) fun x50=>bnd (ae x50 1) fun x51=>bnd (stA 1 H45 x51 x49) fun H52=>ai Tryz.prog σ aA [(.ptr b 0)] H52 fun x53 H54=>bnd (bi [.lit (.int .i64 0),.lit (.string ⟨#[]⟩),.lit (.int .i64 0),.lit (.bool false),.lit (.int .i64 0)] [(0,1,(.lit (.int .i64 3))),(1,1,x53)]) fun l55=>bnd (aw [.int .i64 0,.string ⟨#[]⟩,.int .i64 0,.bool false,.int .i64 0] 5 1 H54 [(0,5,(.agg l55))]) fun p56=>bnd (bc false 5 48 p56.2 y p56.1) fun p57=>aj.L0 σ K (.ptr b 0) p57.1 p57.2) (ai Tryz.prog σ co [(.ptr b 0),(.lit (.int .i64 1))] H45 fun x58 H59=>ifB x58 (bnd (au (.ptr b 0)) fun x60=>bnd (ae x60 1) fun x61=>bnd (ldA false 1 H59 x61) fun x62=>bnd (af .add x62 (.lit (.int .i64 1))) fun x63=>bnd (au (.ptr b 0)) fun x64=>bnd (ae x64 1) fun x65=>bnd (stA 1 H59 x65 x63) fun H66=>ai Tryz.prog σ aA [(.ptr b 0)] H66 fun x67 H68=>bnd (bi [.lit (.int .i64 0),.lit (.string ⟨#[]⟩),.lit (.int .i64 0),.lit (.bool false),.lit (.int .i64 0)] [(0,1,(.lit (.int .i64 3))),(1,1,x67)]) fun l69=>bnd (aw [.int .i64 0,.string ⟨#[]⟩,.int .i64 0,.bool false,.int .i64 0] 5 1 H68 [(0,5,(.agg l69))]) fun p70=>bnd (bc false 5 48 p70.2 y p70.1) fun p71=>aj.L0 σ K (.ptr b 0) p71.1 p71.2) (ifB (Bo (wT l a1)) (ai Tryz.prog σ bW [(.ptr b 0)] H59 fun x72 H73=>bq [.lit (.int .i64 0),.lit (.string ⟨#[]⟩),.lit (.int .i64 0),.lit (.bool false),.lit (.int .i64 0)] H73 fun x74 H75=>bnd (stA 5 H75 x74 x72) fun H76=>bnd (ldA true 5 H76 x74) fun x77=>bnd (aw [.int .i64 0,.string ⟨#[]⟩,.int .i64 0,.bool false,.int .i64 0] 5 1 H76 [(0,5,x77)]) fun p78=>bnd (bc false 5 48 p78.2 y p78.1) fun p79=>aj.L0 σ K (.ptr b 0) p79.1 p79.2) (bnd (af .eql (I (cN l a1)) (.lit (.int .i64 64))) fun x80=>ifB x80 (ai Tryz.prog σ bG [(.ptr b 0),(.lit (.int .i64 1))] H59 fun x81 H82=>ifB x81 (bnd (au (.ptr b 0)) fun x83=>bnd (ae x83 1) fun x84=>bnd (ldA false 1 H82 x84) fun x85=>bnd (af .add x85 (.lit (.int .i64 1))) fun x86=>bnd (au (.ptr b 0)) fun x87=>bnd (ae x87 1) fun x88=>bnd (stA 1 H82 x88 x86) fun H89=>ai Tryz.prog σ aA [(.ptr b 0)] H89 fun x90 H91=>bnd (bi [.lit (.int .i64 0),.lit (.string ⟨#[]⟩),.lit (.int .i64 0),.lit (.bool false),.lit (.int .i64 0)] [(0,1,(.lit (.int .i64 2))),(1,1,x90)]) fun l92=>bnd (aw [.int .i64 0,.string ⟨#[]⟩,.int .i64 0,.bool false,.int .i64 0] 5 1 H91 [(0,5,(.agg l92))]) fun p93=>bnd (bc false 5 48 p93.2 y p93.1) fun p94=>aj.L0 σ K (.ptr b 0) p94.1 p94.2) (ifB (Bo (qu l a1)) (ai Tryz.prog σ aA [(.ptr b 0)] H82 fun x95 H96=>ai Tryz.prog σ ak [(.ptr b 0),(.lit (.int .i64 0))] H96 fun x97 H98=>bnd (af .eql x97 (.lit (.int .i64 40))) fun x99=>ifB x99 (bnd (au (.ptr b 0)) fun x100=>bnd (ae x100 1) fun x101=>bnd (ldA false 1 H98 x101) fun x102=>bnd (af .add x102 (.lit (.int .i64 1))) fun x103=>bnd (au (.ptr b 0)) fun x104=>bnd (ae x104 1) fun x105=>bnd (stA 1 H98 x105 x103) fun H106=>bnd (bi [.lit (.int .i64 0),.lit (.string ⟨#[]⟩),.lit (.int .i64 0),.lit (.bool false),.lit (.int .i64 0)] [(0,1,(.lit (.int .i64 20))),(1,1,x95)]) fun l107=>bnd (aw [.int .i64 0,.string ⟨#[]⟩,.int .i64 0,.bool false,.int .i64 0] 5 1 H106 [(0,5,(.agg l107))]) fun p108=>bnd (bc false 5 48 p108.2 y p108.1) fun p109=>aj.L0 σ K (.ptr b 0) p109.1 p109.2) (bnd (bi [.lit (.int .i64 0),.lit (.string ⟨#[]⟩),.lit (.int .i64 0),.lit (.bool false),.lit (.int .i64 0)] [(0,1,(.lit (.int .i64 1))),(1,1,x95)]) fun l110=>bnd (aw [.int .i64 0,.string ⟨#[]⟩,.int .i64 0,.bool false,.int .i64 0] 5 1 H98 [(0,5,(.agg l110))]) fun p111=>bnd (bc false 5 48 p111.2 y p111.1) fun p112=>aj.L0 σ K (.ptr b 0) p112.1 p112.2)) (ai Tryz.prog σ bg [(I (cN l a1))] H82 fun x113 H114=>bnd (af .gtr x113 (.lit (.int .i64 0))) fun x115=>ifB x115 (bnd (au (.ptr b 0)) fun x116=>bnd (ae x116 1) fun x117=>bnd (ldA false 1 H114 x117) fun x118=>bnd (af .add x118 (.lit (.int .i64 1))) fun x119=>bnd (au (.ptr b 0)) fun x120=>bnd (ae x120 1) fun x121=>bnd (stA 1 H114 x121 x119) fun H122=>ai Tryz.prog σ bg [(I (cN l a1))] H122 fun x123 H124=>bnd (bi [.lit (.int .i64 0),.lit (.string ⟨#[]⟩),.lit (.int .i64 0),.lit (.bool false),.lit (.int .i64 0)] [(0,1,x123)]) fun l125=>bnd (aw [.int .i64 0,.string ⟨#[]⟩,.int .i64 0,.bool false,.int .i64 0] 5 1 H124 [(0,5,(.agg l125))]) fun p126=>bnd (bc false 5 48 p126.2 y p126.1) fun p127=>aj.L0 σ K (.ptr b 0) p127.1 p127.2) (bnd (au (.ptr b 0)) fun x128=>bnd (ae x128 1) fun x129=>bnd (ldA false 1 H114 x129) fun x130=>bnd (af .add x130 (.lit (.int .i64 1))) fun x131=>bnd (au (.ptr b 0)) fun x132=>bnd (ae x132 1) fun x133=>bnd (stA 1 H114 x133 x131) fun H134=>bnd (bi [.lit (.int .i64 0),.lit (.string ⟨#[]⟩),.lit (.int .i64 0),.lit (.bool false),.lit (.int .i64 0)] [(0,1,(.lit (.int .i64 10))),(4,1,(I (cN l a1)))]) fun l135=>bnd (aw [.int .i64 0,.string ⟨#[]⟩,.int .i64 0,.bool false,.int .i64 0] 5 1 H134 [(0,5,(.agg l135))]) fun p136=>bnd (bc false 5 48 p136.2 y p136.1) fun p137=>aj.L0 σ K (.ptr b 0) p137.1 p137.2)))) (ifB (Bo (qu l a1)) (ai Tryz.prog σ aA [(.ptr b 0)] H59 fun x138 H139=>ai Tryz.prog σ ak [(.ptr b 0),(.lit (.int .i64 0))] H139 fun x140 H141=>bnd (af .eql x140 (.lit (.int .i64 40))) fun x142=>ifB x142 (bnd (au (.ptr b 0)) fun x143=>bnd (ae x143 1) fun x144=>bnd (ldA false 1 H141 x144) fun x145=>bnd (af .add x145 (.lit (.int .i64 1))) fun x146=>bnd (au (.ptr b 0)) fun x147=>bnd (ae x147 1) fun x148=>bnd (stA 1 H141 x148 x146) fun H149=>bnd (bi [.lit (.int .i64 0),.lit (.string ⟨#[]⟩),.lit (.int .i64 0),.lit (.bool false),.lit (.int .i64 0)] [(0,1,(.lit (.int .i64 20))),(1,1,x138)]) fun l150=>bnd (aw [.int .i64 0,.string ⟨#[]⟩,.int .i64 0,.bool false,.int .i64 0] 5 1 H149 [(0,5,(.agg l150))]) fun p151=>bnd (bc false 5 48 p151.2 y p151.1) fun p152=>aj.L0 σ K (.ptr b 0) p152.1 p152.2) (bnd (bi [.lit (.int .i64 0),.lit (.string ⟨#[]⟩),.lit (.int .i64 0),.lit (.bool false),.lit (.int .i64 0)] [(0,1,(.lit (.int .i64 1))),(1,1,x138)]) fun l153=>bnd (aw [.int .i64 0,.string ⟨#[]⟩,.int .i64 0,.bool false,.int .i64 0] 5 1 H141 [(0,5,(.agg l153))]) fun p154=>bnd (bc false 5 48 p154.2 y p154.1) fun p155=>aj.L0 σ K (.ptr b 0) p155.1 p155.2)) (ai Tryz.prog σ bg [(I (cN l a1))] H59 fun x156 H157=>bnd (af .gtr x156 (.lit (.int .i64 0))) fun x158=>ifB x158 (bnd (au (.ptr b 0)) fun x159=>bnd (ae x159 1) fun x160=>bnd (ldA false 1 H157 x160) fun x161=>bnd (af .add x161 (.lit (.int .i64 1))) fun x162=>bnd (au (.ptr b 0)) fun x163=>bnd (ae x163 1) fun x164=>bnd (stA 1 H157 x164 x162) fun H165=>ai Tryz.prog σ bg [(I (cN l a1))] H165 fun x166 H167=>bnd (bi [.lit (.int .i64 0),.lit (.string ⟨#[]⟩),.lit (.int .i64 0),.lit (.bool false),.lit (.int .i64 0)] [(0,1,x166)]) fun l168=>bnd (aw [.int .i64 0,.string ⟨#[]⟩,.int .i64 0,.bool false,.int .i64 0] 5 1 H167 [(0,5,(.agg l168))]) fun p169=>bnd (bc false 5 48 p169.2 y p169.1) fun p170=>aj.L0 σ K (.ptr b 0) p170.1 p170.2) (bnd (au (.ptr b 0)) fun x171=>bnd (ae x171 1) fun x172=>bnd (ldA false 1 H157 x172) fun x173=>bnd (af .add x173 (.lit (.int .i64 1))) fun x174=>bnd (au (.ptr b 0)) fun x175=>bnd (ae x175 1) fun x176=>bnd (stA 1 H157 x176 x174) fun H177=>bnd (bi [.lit (.int .i64 0),.lit (.string ⟨#[]⟩),.lit (.int .i64 0),.lit (.bool false),.lit (.int .i64 0)] [(0,1,(.lit (.int .i64 10))),(4,1,(I (cN l a1)))]) fun l178=>bnd (aw [.int .i64 0,.string ⟨#[]⟩,.int .i64 0,.bool false,.int .i64 0] 5 1 H177 [(0,5,(.agg l178))]) fun p179=>bnd (bc false 5 48 p179.2 y p179.1) fun p180=>aj.L0 σ K (.ptr b 0) p180.1 p180.2))))))) (ifB (Bo (wT l a1)) (ai Tryz.prog σ bW [(.ptr b 0)] H22 fun x181 H182=>bq [.lit (.int .i64 0),.lit (.string ⟨#[]⟩),.lit (.int .i64 0),.lit (.bool false),.lit (.int .i64 0)] H182 fun x183 H184=>bnd (stA 5 H184 x183 x181) fun H185=>bnd (ldA true 5 H185 x183) fun x186=>bnd (aw [.int .i64 0,.string ⟨#[]⟩,.int .i64 0,.bool false,.int .i64 0] 5 1 H185 [(0,5,x186)]) fun p187=>bnd (bc false 5 48 p187.2 y p187.1) fun p188=>aj.L0 σ K (.ptr b 0) p188.1 p188.2) (bnd (af .eql (I (cN l a1)) (.lit (.int .i64 64))) fun x189=>ifB x189 (ai Tryz.prog σ bG [(.ptr b 0),(.lit (.int .i64 1))] H22 fun x190 H191=>ifB x190 (bnd (au (.ptr b 0)) fun x192=>bnd (ae x192 1) fun x193=>bnd (ldA false 1 H191 x193) fun x194=>bnd (af .add x194 (.lit (.int .i64 1))) fun x195=>bnd (au (.ptr b 0)) fun x196=>bnd (ae x196 1) fun x197=>bnd (stA 1 H191 x197 x195) fun H198=>ai Tryz.prog σ aA [(.ptr b 0)] H198 fun x199 H200=>bnd (bi [.lit (.int .i64 0),.lit (.string ⟨#[]⟩),.lit (.int .i64 0),.lit (.bool false),.lit (.int .i64 0)] [(0,1,(.lit (.int .i64 2))),(1,1,x199)]) fun l201=>bnd (aw [.int .i64 0,.string ⟨#[]⟩,.int .i64 0,.bool false,.int .i64 0] 5 1 H200 [(0,5,(.agg l201))]) fun p202=>bnd (bc false 5 48 p202.2 y p202.1) fun p203=>aj.L0 σ K (.ptr b 0) p203.1 p203.2) (ifB (Bo (qu l a1)) (ai Tryz.prog σ aA [(.ptr b 0)] H191 fun x204 H205=>ai Tryz.prog σ ak [(.ptr b 0),(.lit (.int .i64 0))] H205 fun x206 H207=>bnd (af .eql x206 (.lit (.int .i64 40))) fun x208=>ifB x208 (bnd (au (.ptr b 0)) fun x209=>bnd (ae x209 1) fun x210=>bnd (ldA false 1 H207 x210) fun x211=>bnd (af .add x211 (.lit (.int .i64 1))) fun x212=>bnd (au (.ptr b 0)) fun x213=>bnd (ae x213 1) fun x214=>bnd (stA 1 H207 x214 x212) fun H215=>bnd (bi [.lit (.int .i64 0),.lit (.string ⟨#[]⟩),.lit (.int .i64 0),.lit (.bool false),.lit (.int .i64 0)] [(0,1,(.lit (.int .i64 20))),(1,1,x204)]) fun l216=>bnd (aw [.int .i64 0,.string ⟨#[]⟩,.int .i64 0,.bool false,.int .i64 0] 5 1 H215 [(0,5,(.agg l216))]) fun p217=>bnd (bc false 5 48 p217.2 y p217.1) fun p218=>aj.L0 σ K (.ptr b 0) p218.1 p218.2) (bnd (bi [.lit (.int .i64 0),.lit (.string ⟨#[]⟩),.lit (.int .i64 0),.lit (.bool false),.lit (.int .i64 0)] [(0,1,(.lit (.int .i64 1))),(1,1,x204)]) fun l219=>bnd (aw [.int .i64 0,.string ⟨#[]⟩,.int .i64 0,.bool false,.int .i64 0] 5 1 H207 [(0,5,(.agg l219))]) fun p220=>bnd (bc false 5 48 p220.2 y p220.1) fun p221=>aj.L0 σ K (.ptr b 0) p221.1 p221.2)) (ai Tryz.prog σ bg [(I (cN l a1))] H191 fun x222 H223=>bnd (af .gtr x222 (.lit (.int .i64 0))) fun x224=>ifB x224 (bnd (au (.ptr b 0)) fun x225=>bnd (ae x225 1) fun x226=>bnd (ldA false 1 H223 x226) fun x227=>bnd (af .add x227 (.lit (.int .i64 1))) fun x228=>bnd (au (.ptr b 0)) fun x229=>bnd (ae x229 1) fun x230=>bnd (stA 1 H223 x230 x228) fun H231=>ai Tryz.prog σ bg [(I (cN l a1))] H231 fun x232 H233=>bnd (bi [.lit (.int .i64 0),.lit (.string ⟨#[]⟩),.lit (.int .i64 0),.lit (.bool false),.lit (.int .i64 0)] [(0,1,x232)]) fun l234=>bnd (aw [.int .i64 0,.string ⟨#[]⟩,.int .i64 0,.bool false,.int .i64 0] 5 1 H233 [(0,5,(.agg l234))]) fun p235=>bnd (bc false 5 48 p235.2 y p235.1) fun p236=>aj.L0 σ K (.ptr b 0) p236.1 p236.2) (bnd (au (.ptr b 0)) fun x237=>bnd (ae x237 1) fun x238=>bnd (ldA false 1 H223 x238) fun x239=>bnd (af .add x239 (.lit (.int .i64 1))) fun x240=>bnd (au (.ptr b 0)) fun x241=>bnd (ae x241 1) fun x242=>bnd (stA 1 H223 x242 x240) fun H243=>bnd (bi [.lit (.int .i64 0),.lit (.string ⟨#[]⟩),.lit (.int .i64 0),.lit (.bool false),.lit (.int .i64 0)] [(0,1,(.lit (.int .i64 10))),(4,1,(I (cN l a1)))]) fun l244=>bnd (aw [.int .i64 0,.string ⟨#[]⟩,.int .i64 0,.bool false,.int .i64 0] 5 1 H243 [(0,5,(.agg l244))]) fun p245=>bnd (bc false 5 48 p245.2 y p245.1) fun p246=>aj.L0 σ K (.ptr b 0) p246.1 p246.2)))) (ifB (Bo (qu l a1)) (ai Tryz.prog σ aA [(.ptr b 0)] H22 fun x247 H248=>ai Tryz.prog σ ak [(.ptr b 0),(.lit (.int .i64 0))] H248 fun x249 H250=>bnd (af .eql x249 (.lit (.int .i64 40))) fun x251=>ifB x251 (bnd (au (.ptr b 0)) fun x252=>bnd (ae x252 1) fun x253=>bnd (ldA false 1 H250 x253) fun x254=>bnd (af .add x254 (.lit (.int .i64 1))) fun x255=>bnd (au (.ptr b 0)) fun x256=>bnd (ae x256 1) fun x257=>bnd (stA 1 H250 x257 x255) fun H258=>bnd (bi [.lit (.int .i64 0),.lit (.string ⟨#[]⟩),.lit (.int .i64 0),.lit (.bool false),.lit (.int .i64 0)] [(0,1,(.lit (.int .i64 20))),(1,1,x247)]) fun l259=>bnd (aw [.int .i64 0,.string ⟨#[]⟩,.int .i64 0,.bool false,.int .i64 0] 5 1 H258 [(0,5,(.agg l259))]) fun p260=>bnd (bc false 5 48 p260.2 y p260.1) fun p261=>aj.L0 σ K (.ptr b 0) p261.1 p261.2) (bnd (bi [.lit (.int .i64 0),.lit (.string ⟨#[]⟩),.lit (.int .i64 0),.lit (.bool false),.lit (.int .i64 0)] [(0,1,(.lit (.int .i64 1))),(1,1,x247)]) fun l262=>bnd (aw [.int .i64 0,.string ⟨#[]⟩,.int .i64 0,.bool false,.int .i64 0] 5 1 H250 [(0,5,(.agg l262))]) fun p263=>bnd (bc false 5 48 p263.2 y p263.1) fun p264=>aj.L0 σ K (.ptr b 0) p264.1 p264.2)) (ai Tryz.prog σ bg [(I (cN l a1))] H22 fun x265 H266=>bnd (af .gtr x265 (.lit (.int .i64 0))) fun x267=>ifB x267 (bnd (au (.ptr b 0)) fun x268=>bnd (ae x268 1) fun x269=>bnd (ldA false 1 H266 x269) fun x270=>bnd (af .add x270 (.lit (.int .i64 1))) fun x271=>bnd (au (.ptr b 0)) fun x272=>bnd (ae x272 1) fun x273=>bnd (stA 1 H266 x273 x271) fun H274=>ai Tryz.prog σ bg [(I (cN l a1))] H274 fun x275 H276=>bnd (bi [.lit (.int .i64 0),.lit (.string ⟨#[]⟩),.lit (.int .i64 0),.lit (.bool false),.lit (.int .i64 0)] [(0,1,x275)]) fun l277=>bnd (aw [.int .i64 0,.string ⟨#[]⟩,.int .i64 0,.bool false,.int .i64 0] 5 1 H276 [(0,5,(.agg l277))]) fun p278=>bnd (bc false 5 48 p278.2 y p278.1) fun p279=>aj.L0 σ K (.ptr b 0) p279.1 p279.2) (bnd (au (.ptr b 0)) fun x280=>bnd (ae x280 1) fun x281=>bnd (ldA false 1 H266 x281) fun x282=>bnd (af .add x282 (.lit (.int .i64 1))) fun x283=>bnd (au (.ptr b 0)) fun x284=>bnd (ae x284 1) fun x285=>bnd (stA 1 H266 x285 x283) fun H286=>bnd (bi [.lit (.int .i64 0),.lit (.string ⟨#[]⟩),.lit (.int .i64 0),.lit (.bool false),.lit (.int .i64 0)] [(0,1,(.lit (.int .i64 10))),(4,1,(I (cN l a1)))]) fun l287=>bnd (aw [.int .i64 0,.string ⟨#[]⟩,.int .i64 0,.bool false,.int .i64 0] 5 1 H286 [(0,5,(.agg l287))]) fun p288=>bnd (bc false 5 48 p288.2 y p288.1) fun p289=>aj.L0 σ K (.ptr b 0) p289.1 p289.2)))))))):=by
   refine am (pr _ H1) ?_
   rw [ah]
   split
   ·rename_i hw
    exact L2 _ a1 H1 (Nat.le_refl _) (by omega) hT (.inr ⟨rfl,hw⟩)
   ·rw [bD,aa,ah]
    split
    ·exact CQ hT.rd (hbn hT) hl hlt fun t a2 H2 h2 k2 g2 le2 ht=>alc a2 H2 t (hT.to h2 k2) ht g2 (by omega)
    ·rw [bD,aa,ah]
     split
     ·exact CQ hT.rd (hbn hT) hl hlt fun t a2 H2 h2 k2 g2 le2 ht=>alc a2 H2 t (hT.to h2 k2) ht g2 (by omega)
     ·rw [bD,aa,ah]
      split
      ·refine cF 1 rfl hT.rd (by omega) (am (oM _ H1) ?_)
       rw [ah]
       split
       ·exact mg 1 rfl hT.rd (by omega) fun H2 h2 k2 _=>hsh H2 h2 k2
       ·refine mQ 1 rfl hT.rd (by omega) ?_
        rw [ah]
        split
        ·exact mg 1 rfl hT.rd (by omega) fun H2 h2 k2 _=>hsh H2 h2 k2
        ·exact AN
      ·exact AN
  have L1:∀ (f a2:Nat) (H2:Hp),l.length+3 - a2≤f→a2≤l.length→TkS b l H0 a2 y ts H2→a1<a2→aj.L1 σ K (.ptr b 0) y H2:=by
   intro f2
   induction f2 with
   | zero=>intro a2 H2 hf2 h1 h2 h3; omega
   | succ f2 ih2 =>
    intro a2 H2 hf2 h1 h2 h3
    have sb2:=gE l a2
    have st1:a2<l.length→bnd (au (.ptr b 0)) fun x7=>bnd (ae x7 1) fun x8=>bnd (ldA false 1 H2 x8) fun x9=>bnd (af .add x9 (.lit (.int .i64 1))) fun x10=>bnd (au (.ptr b 0)) fun x11=>bnd (ae x11 1) fun x12=>bnd (stA 1 H2 x12 x10) fun H13=>aj.L1 σ K (.ptr b 0) y H13:=fun hlt2 =>
     mg 1 rfl h2.rd (by omega) fun H3 h4 k4 _=>ih2 (a2+1) H3 (by omega) (by omega) (h2.to h4 k4) (by omega)
    refine aj.L1_step ?_
    refine cF 0 rfl h2.rd (by omega) ?_
    rw [fl,aa,ah,Nat.add_zero]
    split
    ·rename_i hc
     have hlt2:=sb2.2.1 (of_decide_eq_true hc)
     refine cF 0 rfl h2.rd (by omega) ?_
     rw [ki,aa,ah]
     split
     ·exact st1 hlt2
     ·refine cF 1 rfl h2.rd (by omega) ?_
      rw [ki,aa,ah]
      split
      ·exact st1 hlt2
      ·exact mg 2 rfl h2.rd (by omega) fun H3 h4 k4 _=>nxt (a2+2) H3 (h2.to h4 k4) (by omega) (by omega)
    ·exact mg 2 rfl h2.rd (by omega) fun H3 h4 k4 _=>nxt (a2+2) H3 (h2.to h4 k4) (by omega) (by omega)
  refine cF 0 rfl hT.rd (by omega) ?_
  refine zw hT.rd (by omega) ?_
  refine o4 0 rfl hT.rd (by omega) ?_
  rw [bD,aa,ah,Nat.add_zero]
  split
  ·refine cF 1 rfl hT.rd (by omega) ?_
   rw [bD,aa,ah]
   split
   ·rename_i h42
    have h42:=of_decide_eq_true h42
    have:=sb1.2.1 (by omega)
    exact mg 2 rfl hT.rd (by omega) fun H2 h2 k2 _=>L1 _ (a1+2) H2 (Nat.le_refl _) (by omega) (hT.to h2 k2) (by omega)
   ·exact W
  ·exact W
end
def lX (l:List Tn):AV:=.imm 5 (l.map bV)
theorem ze (l:List Int) (hl:l.length≤200):∃ ts:List Tn,ts.length≤l.length+2∧(∀ t ∈ ts,jm t)∧∀ H,az Tryz.prog σ gF [zs l] H (lX ts) H:=by
 obtain ⟨Q,hQ⟩:∃ Q:AV→Hp→Prop,∀ r H1,Q r H1 ↔ ∃ ts:List Tn,ts.length≤l.length+2∧(∀ t ∈ ts,jm t)∧Gs 5 H1 r (ts.map bV):=⟨_,fun _ _=>Iff.rfl⟩
 have run:∃ r H1,az Tryz.prog σ gF [zs l] Hp.empty r H1∧Q r H1:=by
  refine aj.run ?_
  have eb:bi [.lit (.slice none 0 0),.lit (.int .i64 0)] [(0,1,zs l)]=some [zs l,I ((0:Nat):Int)]:=rfl
  rw [eb,aa,d7]
  refine yY (H0:=Hp.empty.new (.cells [zs l,I ((0:Nat):Int)] true)) (by simp) hl (fun y ts a H' hT h1 h2=>(hQ _ _).2 ⟨ts,h1,h2,hT.gs⟩) _ 0 _ _ [] (Nat.le_refl _) (by omega) ⟨?_,.refl,.nil,fun j hj=>hj.elim,fun j hj=>hj.elim⟩ (by simp) (fun t ht=>by cases ht)
  unfold Rd
  rw [aB,if_pos rfl]
 obtain ⟨r,H1,hg,hq⟩:=run
 obtain ⟨ts,h1,h2,h3⟩:=(hQ _ _).1 hq
 exact ⟨ts,h1,h2,fun H=>hg.frzR (by simp [aP,EU]) (h3.fz (bm _ (fun _=>rfl) _)) H⟩
end Go.Proofs.YthmaggcfghjmfaaGreat.Ev
namespace Go.Proofs.YthmaggcfghjmfaaGreat.Ev
set_option linter.unusedVariables false
set_option linter.unusedSimpArgs false
set_option maxRecDepth 100000
variable {σ:Sig}
theorem K9 {bs:List UInt8} {i:Nat} (h:i≤bs.length):vH 1 (.imm 1 (B8 bs)) (some (I (i:Int))) none none=some (.imm 1 (B8 (bs.drop i))):=by
 have h1:(i:Int)≤(bs.length:Int):=by omega
 have e:((B8 bs).drop i).take ((B8 bs).length - i)=B8 (bs.drop i):=by
  rw [List.take_of_length_le (by rw [List.length_drop]; exact Nat.le_refl _)]
  unfold B8
  rw [List.map_drop]
 rw [jf] at e
 simp [vH,oc,jt,yp,db,fB,kE,jf,h1,h,e]
theorem LF (c:UInt8):dP .i64 (dN c)=some (I (c.toNat:Int)):=by
 show some (AV.lit (.int .i64 (wr .i64 (c.toNat:Int))))=_
 have:=c.toNat_lt
 rw [eh (by omega) (by omega)]
section
attribute [local irreducible] bJ.J0 bJ.L1
theorem D7 {bs:List UInt8} (h0:bs≠[]) (hl:bs.length≤1000000) {H:Hp} {K:AV→Hp→Prop} (hK:∀ (c:Int) (n:Nat),1≤n→n≤bs.length→K (.tup [I c,I (n:Int)]) H):ai Tryz.prog σ jy [.imm 1 (B8 bs)] H K:=by
 have hlen:1≤bs.length:=by
  cases bs with
  | nil=>exact absurd rfl h0
  | cons _ _=>simp
 have an:∀ v w:Int,∃ z,af .and (I v) (I w)=some (I z):=fun v w=>⟨_,by simp [af,lit?,fM]; rfl⟩
 have ix:∀ i:Nat,i<bs.length→∃ c:UInt8,aJ 1 (.imm 1 (B8 bs)) (I (i:Int))=some (.ip [dN c]):=fun i hi=>by
  obtain ⟨c,hc⟩:=cb hi
  exact ⟨c,bS hc⟩
 have l8:∀ (c:UInt8) (H:Hp),ldA false 1 H (.ip [dN c])=some (dN c):=fun _ _=>rfl
 have one:∀ c:Int,K (.tup [I c,I 1]) H:=fun c=>hK c 1 (by omega) hlen
 have lb:aW (.imm 1 (B8 bs))=some (I (bs.length:Int)):=by rw [cI,jf]
 refine bJ.run ?_
 have L1:∀ (f n i:Nat) (lo v:Int),n - i=f→i≤n→1≤n→n≤bs.length→bJ.L1 σ K (.imm 1 (B8 bs)) (I (n:Int)) (I lo) (I v) (I (i:Int)) H:=by
  intro f
  induction f with
  | zero =>
   intro n i lo v hf hi h1 hn
   have:¬ ((i:Int)<(n:Int)):=by omega
   refine bJ.L1_step ?_
   simp only [bA,aa,this,decide_false,ah,Bool.false_eq_true,if_false]
   split
   ·exact one _
   ·refine am (oV v H) ?_
    rw [dQ,aa,ah]
    split
    ·exact one _
    ·exact hK v n h1 hn
  | succ f ih =>
   intro n i lo v hf hi h1 hn
   have hlt:(i:Int)<(n:Int):=by omega
   obtain ⟨c,hc⟩:=ix i (by omega)
   obtain ⟨z,hz⟩:=an (c.toNat:Int) 63
   refine bJ.L1_step ?_
   simp only [bA,eF,oE,bN,aa,hlt,decide_true,ah,if_true,hc,l8,LF,hz]
   split
   ·exact one _
   ·split
    ·exact one _
    ·rw [bz (by omega)]
     exact ih n (i+1) lo _ (by omega) (by omega) h1 hn
 have J0:∀ (n:Nat) (lo v:Int) (y8:AV),1≤n→bJ.J0 σ K (.imm 1 (B8 bs)) (I (n:Int)) (I lo) (I v) y8 H:=by
  intro n lo v y8 h1
  refine bJ.J0_step ?_
  simp only [lb,aa,bA,ah,decide_eq_true_eq]
  split
  ·exact one _
  ·exact L1 _ n 1 lo v rfl h1 h1 (by omega)
 obtain ⟨c,hc⟩:=ix 0 (by omega)
 have hc:aJ 1 (.imm 1 (B8 bs)) (I 0)=some (.ip [dN c]):=hc
 obtain ⟨z31,h31⟩:=an (c.toNat:Int) 31
 obtain ⟨z15,h15⟩:=an (c.toNat:Int) 15
 obtain ⟨z7,h7⟩:=an (c.toNat:Int) 7
 have j2:=J0 2 128 z31 (.lit undef) (by omega)
 have j3:=J0 3 2048 z15 (.lit undef) (by omega)
 have j4:=J0 4 65536 z7 (.lit undef) (by omega)
 simp only [hc,aa,l8,LF,bA,fl,ah,h31,h15,h7]
 repeat' split
 all_goals first | exact one _ | exact j2 | exact j3 | exact j4
end
section
attribute [local irreducible] dj.L0
theorem zJ (bs:List UInt8) (hl:bs.length≤100000):∃ l:List Int,l.length≤bs.length∧∀ H,az Tryz.prog σ gK [.imm 1 (B8 bs)] H (zs l) H:=by
 obtain ⟨Q,hQ⟩:∃ Q:AV→Hp→Prop,∀ r H1,Q r H1 ↔ ∃ l:List Int,l.length≤bs.length∧Gs 1 H1 r (l.map zrw):=⟨_,fun _ _=>Iff.rfl⟩
 have lb:aW (.imm 1 (B8 bs))=some (I (bs.length:Int)):=by rw [cI,jf]
 have ex:∀ x y:AV,exR (.tup [x,y]) 0=some x∧exR (.tup [x,y]) 1=some y:=fun _ _=>⟨rfl,rfl⟩
 have run:∃ r H1,az Tryz.prog σ gK [.imm 1 (B8 bs)] Hp.empty r H1∧Q r H1:=by
  refine dj.run ?_
  have L0:∀ (f i:Nat) (H1:Hp) (y:AV) (l:List Int),bs.length+1 - i≤f→i≤bs.length→l.length≤i→Gs 1 H1 y (l.map zrw)→dj.L0 σ Q (.imm 1 (B8 bs)) y (I (i:Int)) H1:=by
   intro f
   induction f with
   | zero=>intro i H1 y l hf hi hll hg; omega
   | succ f ih =>
    intro i H1 y l hf hi hll hg
    refine dj.L0_step ?_
    simp only [lb,aa,bA,ah,decide_eq_true_eq]
    split
    ·rename_i hlt
     rw [K9 hi,aa]
     refine D7 (fun h=>by have:=congrArg List.length h; simp at this; omega) (by rw [List.length_drop]; omega) fun c n h1 h2=>?_
     rw [List.length_drop] at h2
     rw [(ex _ _).1,aa,(ex _ _).2,aa]
     refine fJ (y:=I c) hg rfl rfl rfl (by rw [List.length_map]; omega) (by rw [List.length_map]; omega) fun x' H' g' fr=>?_
     have e:wr .i64 ((i:Int)+(n:Int))=((i+n:Nat):Int):=by rw [eh (by omega) (by omega)]; omega
     rw [bN,aa,e]
     exact ih (i+n) H' x' (l++[c]) (by omega) (by omega) (by simp; omega) (by rw [List.map_append]; exact g')
    ·exact (hQ _ _).2 ⟨l,by omega,hg⟩
  exact L0 _ 0 Hp.empty _ [] (Nat.le_refl _) (Nat.zero_le _) (by simp) .nil
 obtain ⟨r,H1,hg,hq⟩:=run
 obtain ⟨l,h1,h2⟩:=(hQ _ _).1 hq
 exact ⟨l,h1,fun H=>hg.frzR (by simp only [aP,bF,Bool.and_true]; exact bm _ (fun _=>rfl) _) (h2.fz (bm _ (fun _=>rfl) _)) H⟩
end
section
attribute [local irreducible] aO.L0 aO.J1
theorem wQ (bs:List UInt8) (hl:bs.length≤100000):∃ l:List Int,l.length≤bs.length∧∀ H,az Tryz.prog σ gg [.imm 1 (B8 bs)] H (zs l) H:=by
 obtain ⟨p,hp,hpg⟩:=zJ (σ:=σ) bs hl
 obtain ⟨Q,hQ⟩:∃ Q:AV→Hp→Prop,∀ r H1,Q r H1 ↔ ∃ l:List Int,l.length≤bs.length∧Gs 1 H1 r (l.map zrw):=⟨_,fun _ _=>Iff.rfl⟩
 have run:∃ r H1,az Tryz.prog σ gg [.imm 1 (B8 bs)] Hp.empty r H1∧Q r H1:=by
  refine aO.run (am (hpg _) ?_)
  have L0:∀ (f i:Nat) (H1:Hp) (y:AV) (l:List Int),p.length+1 - i≤f→i≤p.length→l.length≤i→Gs 1 H1 y (l.map zrw)→aO.L0 σ Q (zs p) y (I (i:Int)) H1:=by
   intro f
   induction f with
   | zero=>intro i H1 y l hf hi hll hg; omega
   | succ f ih =>
    intro i H1 y l hf hi hll hg
    refine aO.L0_step ?_
    simp only [t7,aa,bA,ah,decide_eq_true_eq]
    split
    ·rename_i hlt
     have J1:∀ (H2:Hp) (y2:AV) (l2:List Int),l2.length≤i+1→Gs 1 H2 y2 (l2.map zrw)→aO.J1 σ Q (zs p) y2 (I (i:Int)) H2:=by
      intro H2 y2 l2 h1 h2
      refine aO.J1_step ?_
      rw [bN,aa,bz (by omega)]
      exact ih (i+1) H2 y2 l2 (by omega) (by omega) h1 h2
     have app:∀ v:Int,bnd (aw [.int .i64 0] 1 1 H1 [(0,1,I v)]) fun q=>bnd (bc false 1 8 q.2 y q.1) fun q2=>aO.J1 σ Q (zs p) q2.1 (I (i:Int)) q2.2:=by
      intro v
      refine fJ (y:=I v) hg rfl rfl rfl (by rw [List.length_map]; omega) (by rw [List.length_map]; omega) fun x' H' g' fr=>?_
      exact J1 H' x' (l++[v]) (by simp; omega) (by rw [List.map_append]; exact g')
     have skip:=J1 H1 y l (by omega) hg
     obtain ⟨c,hc⟩:=cb (show i<p.length by omega)
     have hix:aJ 1 (zs p) (I (i:Int))=some (.ip (zrw c)):=bS hc
     have lc:∀ (c:Int) (H:Hp),ldA false 1 H (.ip (zrw c))=some (I c):=fun _ _=>rfl
     have e1:wr .i64 ((i:Int)+1)=((i+1:Nat):Int):=bz (by omega)
     by_cases h1:i+1<p.length
     ·obtain ⟨c1,hc1⟩:=cb h1
      have hix1:aJ 1 (zs p) (I ((i+1:Nat):Int))=some (.ip (zrw c1)):=bS hc1
      simp only [hix,hix1,lc,aa,bD,bN,bA,t7,ah,e1]
      repeat' split
      all_goals first | exact skip | exact app _
     ·have h1':¬ (((i+1:Nat):Int)<(p.length:Int)):=by omega
      simp only [hix,lc,aa,bD,bN,bA,t7,ah,e1,h1',decide_false,Bool.false_eq_true,if_false]
      repeat' split
      all_goals first | exact skip | exact app _
    ·exact (hQ _ _).2 ⟨l,by omega,hg⟩
  exact L0 _ 0 Hp.empty _ [] (Nat.le_refl _) (Nat.zero_le _) (by simp) .nil
 obtain ⟨r,H1,hg,hq⟩:=run
 obtain ⟨l,h1,h2⟩:=(hQ _ _).1 hq
 exact ⟨l,h1,fun H=>hg.frzR (by simp only [aP,bF,Bool.and_true]; exact bm _ (fun _=>rfl) _) (h2.fz (bm _ (fun _=>rfl) _)) H⟩
end
end Go.Proofs.YthmaggcfghjmfaaGreat.Ev
namespace Go.Proofs.YthmaggcfghjmfaaGreat.Ev
set_option linter.unusedVariables false
set_option linter.unusedSimpArgs false
variable {σ:Sig}
def Hp.lo (H:Hp):Nat→Hp
 | 0=>H
 | n+1=>(H.lo n).set n none
theorem Hn (H:Hp):∀ n,(H.lo n).n=H.n
 | 0=>rfl
 | n+1=>Hn H n
theorem ua (H:Hp) (j:Nat):∀ n,(H.lo n).get j=if j<n then none else H.get j
 | 0=>by rw [if_neg (by omega)]; rfl
 | n+1=>by
  show ((H.lo n).set n none).get j=_
  rw [ay,ua H j n]
  by_cases h:j=n
  ·rw [if_pos h,if_pos (by omega)]
  ·rw [if_neg h]
   by_cases h2:j<n
   ·rw [if_pos h2,if_pos (by omega)]
   ·rw [if_neg h2,if_neg (by omega)]
def Hp.reN (H:Hp) (n:Nat):Hp:=⟨n,H.t⟩
theorem yi (H:Hp) (n j:Nat):(H.reN n).get j=H.get j:=rfl
theorem yE {P:Program} {f b:Nat} {xs:List AV} {H:Hp} (ok:∀ j,H.n≤j→H.get j=none) (hb:b<H.n) {K:AV→Hp→Prop}
  (h:ai P σ f xs H fun r H1=>∃ r',Kpb b H H1∧FzE (H1.lo H.n) r r'∧K r' ((H.set b (H1.get b)).reN H1.n)):ai P σ f xs H K:=by
 obtain ⟨r,H1,hg,r',kp,hr,hk⟩:=h
 have g2:∀ j,((H.set b (H1.get b)).reN H1.n).get j=if j=b then H1.get b else H.get j:=fun j=>by rw [yi,ay]
 refine ⟨r',_,hg.frzH (H2:=(H.set b (H1.get b)).reN H1.n) (Hd:=H1.lo H.n) rfl (Hn _ _) (fun id k hk=>?_) (fun id k2 hk=>?_) hr,hk⟩
 ·rw [ua] at hk
  split at hk
  ·cases hk
  ·refine ⟨hk,?_⟩
   rw [g2,if_neg (by omega)]
   exact ok id (by omega)
 ·rw [g2] at hk
  split at hk
  ·rename_i e
   exact ⟨k2,by rw [e]; exact hk,.refl _ k2⟩
  ·rename_i e
   have hlt:id<H.n:=by
    rcases Nat.lt_or_ge id H.n with h | h
    ·exact h
    ·rw [ok id h] at hk; cases hk
   exact ⟨k2,by rw [kp.g id hlt e]; exact hk,.refl _ k2⟩
theorem Gs.lo {sz:Nat} {H:Hp} {x:AV} {rows:List (List AV)} (h:Gs sz H x rows) {n:Nat} (ho:∀ j,own x j→n≤j) (hn:eQ rows=true):Fz (H.lo n) x (.imm sz rows) :=
 (h.keep (H':=H.lo n) (fun j hj=>by rw [ua,if_neg (by have:=ho j hj; omega)]) (by rw [Hn]; exact Nat.le_refl _)).fz hn
structure PkS (b:Nat) (ts:List Tn) (a:Nat) (bad:Bool) (dp:Int) (H:Hp):Prop where
 g:H.get b=some (.cells [lX ts,I (a:Int),Bo bad,I dp] true)
 ok:∀ j,H.n≤j→H.get j=none
 lt:b<H.n
structure Wb (b:Nat) (H H':Hp):Prop where
 n:H.n≤H'.n
 g:∀ j,j≠b→H'.get j=H.get j
theorem Wb.refl {b:Nat} {H:Hp}:Wb b H H:=⟨Nat.le_refl _,fun _ _=>rfl⟩
theorem Wb.trans {b:Nat} {H H1 H2:Hp} (h:Wb b H H1) (h':Wb b H1 H2):Wb b H H2:=⟨Nat.le_trans h.n h'.n,fun j hj=>(h'.g j hj).trans (h.g j hj)⟩
theorem Wb.kp {b:Nat} {H H':Hp} (h:Wb b H H'):Kpb b H H':=⟨h.n,fun j _ hj=>h.g j hj⟩
theorem PkS.l0 {b a:Nat} {ts:List Tn} {bad:Bool} {dp:Int} {H:Hp} (s:PkS b ts a bad dp H):ldA false 1 H (.ptr b (0+0))=some (lX ts):=by rw [bE,s.g]; rfl
theorem PkS.l1 {b a:Nat} {ts:List Tn} {bad:Bool} {dp:Int} {H:Hp} (s:PkS b ts a bad dp H):ldA false 1 H (.ptr b (0+1))=some (I (a:Int)):=by rw [bE,s.g]; rfl
theorem PkS.l2 {b a:Nat} {ts:List Tn} {bad:Bool} {dp:Int} {H:Hp} (s:PkS b ts a bad dp H):ldA false 1 H (.ptr b (0+2))=some (Bo bad):=by rw [bE,s.g]; rfl
theorem PkS.l3 {b a:Nat} {ts:List Tn} {bad:Bool} {dp:Int} {H:Hp} (s:PkS b ts a bad dp H):ldA false 1 H (.ptr b (0+3))=some (I dp):=by rw [bE,s.g]; rfl
theorem qp (ts:List Tn):aW (lX ts)=some (I (ts.length:Int)):=by simp [lX]
theorem yB (ts:List Tn):bF (lX ts)=true:=by unfold lX; simp only [bF]; exact bm _ (fun _=>rfl) ts
def e_ (b:Nat) (ts:List Tn) (H0:Hp) (K:AV→Hp→Prop) (r:AV) (H1:Hp):Prop:=∃ r' a' bad' dp',H1.get b=some (.cells [lX ts,I ((a':Nat):Int),Bo bad',I dp'] true)∧Kpb b H0 H1∧FzE (H1.lo H0.n) r r'∧∀ H',PkS b ts a' bad' dp' H'→Wb b H0 H'→K r' H'
theorem ja {f b a:Nat} {xs:List AV} {ts:List Tn} {bad:Bool} {dp:Int} {H:Hp} {K:AV→Hp→Prop} (s:PkS b ts a bad dp H)
  (h:ai Tryz.prog σ f xs H (e_ b ts H K)):ai Tryz.prog σ f xs H K:=by
 refine yE s.ok s.lt ?_
 obtain ⟨r,H1,hg,r',a',bad',dp',g1,kp,hr,hk⟩:=h
 have g2:∀ j,((H.set b (H1.get b)).reN H1.n).get j=if j=b then H1.get b else H.get j:=fun j=>by rw [yi,ay]
 refine ⟨r,H1,hg,r',kp,hr,hk _ ⟨?_,fun j hj=>?_,?_⟩ ⟨kp.n,fun j hj=>by rw [g2,if_neg hj]⟩⟩
 ·rw [g2,if_pos rfl]; exact g1
 ·have hj':H1.n≤j:=hj
  have:=kp.n
  have:=s.lt
  rw [g2,if_neg (by omega)]
  exact s.ok j (by omega)
 ·have:=kp.n
  have:=s.lt
  show b<H1.n
  omega
structure PL (b:Nat) (ts:List Tn) (H0:Hp) (a:Nat) (bad:Bool) (dp:Int) (H:Hp):Prop where
 s:PkS b ts a bad dp H
 k:Kpb b H0 H
theorem PkS.pl {b a:Nat} {ts:List Tn} {bad:Bool} {dp:Int} {H:Hp} (s:PkS b ts a bad dp H):PL b ts H a bad dp H:=⟨s,.refl⟩
theorem PL.to {b a a':Nat} {ts:List Tn} {bad bad':Bool} {dp dp':Int} {H0 H H':Hp} (p:PL b ts H0 a bad dp H) (s:PkS b ts a' bad' dp' H') (w:Wb b H H'):PL b ts H0 a' bad' dp' H':=⟨s,p.k.trans w.kp⟩
theorem PL.new {b a:Nat} {ts:List Tn} {bad:Bool} {dp:Int} {H0 H:Hp} (p:PL b ts H0 a bad dp H) (k:Blk):PL b ts H0 a bad dp (H.new k):=by
 have h1:=p.s.lt
 refine ⟨⟨by rw [aB,if_neg (by omega)]; exact p.s.g,fun j hj=>?_,by simp; omega⟩,⟨by have:=p.k.n; simp; omega,fun j hj hjb=>by have:=p.k.n; rw [aB,if_neg (by omega)]; exact p.k.g j hj hjb⟩⟩
 simp at hj
 rw [aB,if_neg (by omega)]
 exact p.s.ok j (by omega)
theorem PL.set {b a i:Nat} {ts:List Tn} {bad:Bool} {dp:Int} {H0 H:Hp} (p:PL b ts H0 a bad dp H) (k:Blk) (h1:H0.n≤i) (h2:i<H.n) (h3:i≠b):PL b ts H0 a bad dp (H.set i (some k)):=by
 refine ⟨⟨by rw [ay,if_neg (Ne.symm h3)]; exact p.s.g,fun j hj=>?_,by simpa using p.s.lt⟩,⟨by simpa using p.k.n,fun j hj hjb=>by rw [ay,if_neg (by omega)]; exact p.k.g j hj hjb⟩⟩
 simp at hj
 rw [ay,if_neg (by omega)]
 exact p.s.ok j hj
theorem PL.fin {b a:Nat} {ts:List Tn} {bad:Bool} {dp:Int} {H0 H:Hp} {r r':AV} {K:AV→Hp→Prop} (p:PL b ts H0 a bad dp H) (hr:FzE (H.lo H0.n) r r') (hK:∀ H',PkS b ts a bad dp H'→Wb b H0 H'→K r' H') :
  e_ b ts H0 K r H :=
 ⟨r',a,bad,dp,p.s.g,p.k,hr,hK⟩
theorem lP {b a:Nat} {ts:List Tn} {bad:Bool} {dp:Int} {H:Hp} {K:Hp→Prop} {k:Int} (m:Nat) (hk:k=(m:Int)) (s:PkS b ts a bad dp H) (hm:a+m<4000000000) (hK:∀ H',PkS b ts (a+m) bad dp H'→Wb b H H'→H'.n=H.n→K H') :
  bnd (au (.ptr b 0)) fun x1=>bnd (ae x1 1) fun x2=>bnd (ldA false 1 H x2) fun x3=>bnd (af .add x3 (I k)) fun x4=>bnd (au (.ptr b 0)) fun x5=>bnd (ae x5 1) fun x6=>bnd (stA 1 H x6 x4) K:=by
 subst hk
 have e:wr .i64 ((a:Int)+(m:Int))=((a+m:Nat):Int):=by rw [eh (by omega) (by omega)]; omega
 have st:stA 1 H (.ptr b (0+1)) (I ((a+m:Nat):Int))=some (H.set b (some (.cells [lX ts,I ((a+m:Nat):Int),Bo bad,I dp] true))):=jd s.g rfl rfl rfl (by simp)
 simp only [gH,bj,aa,s.l1,bN,e,st]
 exact hK _ ⟨by rw [ay,if_pos rfl],fun j hj=>by have:=s.lt; simp at hj; rw [ay,if_neg (by omega)]; exact s.ok j hj,by simpa using s.lt⟩ ⟨by simp,fun j hj=>by rw [ay,if_neg hj]⟩ (by simp)
theorem qc {b a:Nat} {ts:List Tn} {bad:Bool} {dp:Int} {H:Hp} {K:Hp→Prop} (w:Bool) (s:PkS b ts a bad dp H) (hK:∀ H',PkS b ts a w dp H'→Wb b H H'→H'.n=H.n→K H') :
  bnd (au (.ptr b 0)) fun x1=>bnd (ae x1 2) fun x2=>bnd (stA 1 H x2 (Bo w)) K:=by
 have st:stA 1 H (.ptr b (0+2)) (Bo w)=some (H.set b (some (.cells [lX ts,I (a:Int),Bo w,I dp] true))):=jd s.g rfl rfl rfl (by simp)
 simp only [gH,bj,aa,st]
 exact hK _ ⟨by rw [ay,if_pos rfl],fun j hj=>by have:=s.lt; simp at hj; rw [ay,if_neg (by omega)]; exact s.ok j hj,by simpa using s.lt⟩ ⟨by simp,fun j hj=>by rw [ay,if_neg hj]⟩ (by simp)
def tn0:Tn:=⟨0,⟨#[]⟩,0,false,0⟩
def ia (ts:List Tn) (i:Nat):Tn:=match ts[i]? with
 | none=>tn0
 | some t=>t
theorem iq {ts:List Tn} {i:Nat} (h:(ia ts i).kind≠0):i<ts.length:=by
 unfold ia at h
 split at h
 ·exact absurd rfl h
 ·rename_i t ht
  exact (List.getElem?_eq_some_iff.1 ht).1
theorem nq {ts:List Tn} (h:∀ t ∈ ts,jm t) (i:Nat):jm (ia ts i):=by
 unfold ia
 split
 ·exact ⟨by decide,by decide⟩
 ·rename_i t ht
  exact h t (List.mem_of_getElem? ht)
theorem jl (t:Tn):dW false 0 1 (.agg (bV t))=some (I t.kind):=rfl
theorem rm (t:Tn):dW false 1 1 (.agg (bV t))=some (Sx t.text):=rfl
theorem p_c (t:Tn):dW false 4 1 (.agg (bV t))=some (I t.c):=rfl
theorem kG {b a:Nat} {ts:List Tn} {bad:Bool} {dp:Int} {H:Hp} {K:AV→Hp→Prop} {k:Int} (n:Nat) (hk:k=(n:Int)) (s:PkS b ts a bad dp H) (hn:a+n<4000000000) (hK:∀ H',PkS b ts a bad dp H'→Wb b H H'→K (.agg (bV (ia ts (a+n)))) H') :
  ai Tryz.prog σ aN [.ptr b 0,I k] H K:=by
 subst hk
 refine ja s ?_
 refine jj.run ?_
 rw [bw]
 have p:=s.pl.new (.cells zTn true)
 have e0:(Blk.cells [I 0,.lit (.string ⟨#[]⟩),I 0,.lit (.bool false),I 0] true)=.cells zTn true:=rfl
 rw [e0]
 have gr:(H.new (.cells zTn true)).get H.n=some (.cells zTn true):=by rw [aB,if_pos rfl]
 have nn:(H.new (.cells zTn true)).n=H.n+1:=rfl
 generalize H.new (.cells zTn true)=H2 at p gr nn ⊢
 have e:wr .i64 ((a:Int)+(n:Int))=((a+n:Nat):Int):=by rw [eh (by omega) (by omega)]; omega
 have hlt:=s.lt
 have done:∀ t:Tn,t=ia ts (a+n)→bnd (stA 5 H2 (.ptr H.n 0) (.agg (bV t))) fun H13=>bnd (ldA true 5 H13 (.ptr H.n 0)) fun r14=>e_ b ts H K r14 H13:=by
  intro t ht
  have st:stA 5 H2 (.ptr H.n 0) (.agg (bV t))=some (H2.set H.n (some (.cells (bV t) true))):=by
   rw [gU,gr,if_pos (show (bV t).length=5 from rfl),cC,if_pos ⟨by show 0+5≤5; omega,rfl⟩,a8 (by rfl)]
  have l2:ldA true 5 (H2.set H.n (some (.cells (bV t) true))) (.ptr H.n 0)=some (.agg (bV t)):=by
   rw [bE,ay,if_pos rfl,br,List.drop_zero,dm (show (bV t).length=5 from rfl)]
  rw [st,aa,l2,aa]
  exact (p.set (.cells (bV t) true) (Nat.le_refl _) (by omega) (by omega)).fin (.inl rfl) fun H' s' w=>by rw [ht]; exact hK H' s' w
 simp only [gH,bj,aa,p.s.l0,p.s.l1,bN,e,qp,fl,ah,decide_eq_true_eq]
 by_cases hi:(ts.length:Int)≤((a+n:Nat):Int)
 ·rw [if_pos hi]
  have eb:bi [I 0,.lit (.string ⟨#[]⟩),I 0,.lit (.bool false),I 0] []=some (bV tn0):=rfl
  rw [eb,aa]
  exact done tn0 (by unfold ia; rw [List.getElem?_eq_none (by omega)])
 ·rw [if_neg hi]
  obtain ⟨t,ht⟩:=cb (show a+n<ts.length by omega)
  have hix:aJ 5 (lX ts) (I ((a+n:Nat):Int))=some (.ip (bV t)):=bS ht
  have lt:ldA true 5 H2 (.ip (bV t))=some (.agg (bV t)):=rfl
  rw [hix,aa,lt,aa]
  exact done t (by unfold ia; rw [ht])
theorem Ht {b a:Nat} {ts:List Tn} {bad:Bool} {dp:Int} {H:Hp} {K:AV→Hp→Prop} (s:PkS b ts a bad dp H) (hK:K (Bo (decide ((ts.length:Int)≤(a:Int)))) H):ai Tryz.prog σ eK [.ptr b 0] H K:=by
 refine iL.run ?_
 simp only [gH,bj,aa,s.l0,s.l1,qp,fl]
 exact hK
theorem pI {b a:Nat} {ts:List Tn} {bad:Bool} {dp:Int} {H:Hp} {K:AV→Hp→Prop} {k c:Int} (n:Nat) (hk:k=(n:Int)) (s:PkS b ts a bad dp H) (hn:a+n<4000000000) (hK:∀ (w:Bool) (H':Hp),PkS b ts a bad dp H'→Wb b H H'→(w=true→a+n<ts.length)→K (Bo w) H') :
  ai Tryz.prog σ b_ [.ptr b 0,I k,I c] H K:=by
 refine hY.run ?_
 refine kG n hk s hn fun H1 s1 w1=>?_
 rw [jl,aa,bD,aa,ah]
 split
 ·rename_i h
  have h:=of_decide_eq_true h
  have hlt:a+n<ts.length:=iq (by omega)
  refine kG n hk s1 hn fun H2 s2 w2=>?_
  rw [p_c,aa,bD,aa]
  exact hK _ H2 s2 (w1.trans w2) fun _=>hlt
 ·exact hK _ H1 s1 w1 fun h=>by cases h
section
attribute [local irreducible] bT.L0
theorem kZ {b a:Nat} {ts:List Tn} {bad:Bool} {dp:Int} {H:Hp} {K:AV→Hp→Prop} (s:PkS b ts a bad dp H) (hl:ts.length≤1000000) (ha:a≤1000000) (hK:∀ (w:Bool) (a':Nat) (H':Hp),PkS b ts a' bad dp H'→Wb b H H'→a≤a'→(a'≤ts.length∨a'=a)→K (Bo w) H') :
  ai Tryz.prog σ bu [.ptr b 0] H K:=by
 refine bT.run ?_
 have L0:∀ (f a1:Nat) (H1:Hp),1000001 - a1=f→a1≤1000000→PkS b ts a1 bad dp H1→Wb b H H1→a≤a1→(a1≤ts.length∨a1=a)→bT.L0 σ K (.ptr b 0) (I (a:Int)) H1:=by
  intro f
  induction f with
  | zero=>intro a1 H1 hf h1 s1 w1 h2 h3; omega
  | succ f ih =>
   intro a1 H1 hf h1 s1 w1 h2 h3
   refine bT.L0_step ?_
   refine kG 0 rfl s1 (by omega) fun H2 s2 w2=>?_
   rw [jl,aa,bD,aa,ah]
   split
   ·rename_i h
    have h:=of_decide_eq_true h
    have hlt:a1+0<ts.length:=iq (by omega)
    exact lP 1 rfl s2 (by omega) fun H3 s3 w3 _=>ih (a1+1) H3 (by omega) (by omega) s3 ((w1.trans w2).trans w3) (by omega) (by omega)
   ·simp only [gH,bj,aa,s2.l1,eF]
    exact hK _ a1 H2 s2 (w1.trans w2) h2 h3
 simp only [gH,bj,aa,s.l1]
 exact L0 _ a H rfl ha s .refl (Nat.le_refl _) (.inr rfl)
end
theorem Ls {b a:Nat} {ts:List Tn} {bad:Bool} {dp:Int} {H:Hp} {K:AV→Hp→Prop} (s:PkS b ts a bad dp H) (hn:a<3000000000) (hK:∀ (w:Bool) (H':Hp),PkS b ts a bad dp H'→Wb b H H'→K (Bo w) H'):ai Tryz.prog σ fG [.ptr b 0] H K:=by
 refine iJ.run ?_
 refine kG 0 rfl s (by omega) fun H1 s1 w1=>?_
 rw [jl,aa]
 refine Ht s1 ?_
 rw [ah]
 split
 ·exact hK _ H1 s1 w1
 ·rw [bD,aa,ah]
  split
  ·exact hK _ H1 s1 w1
  ·rw [bD,aa]
   exact hK _ H1 s1 w1
theorem KD {b a:Nat} {ts:List Tn} {bad:Bool} {dp:Int} {H:Hp} {K:AV→Hp→Prop} (s:PkS b ts a bad dp H) (hn:a<3000000000) (hK:∀ (c:Int) (H':Hp),PkS b ts a bad dp H'→Wb b H H'→0≤c→c≤4→(0<c→a<ts.length)→K (I c) H'):ai Tryz.prog σ fF [.ptr b 0] H K:=by
 refine iK.run ?_
 refine pI 0 rfl s (by omega) fun d1 H1 s1 w1 h1=>?_
 rw [ah]
 split
 ·rename_i h; exact hK 2 H1 s1 w1 (by decide) (by decide) fun _=>h1 h
 ·refine pI 0 rfl s1 (by omega) fun d2 H2 s2 w2 h2=>?_
  rw [ah]
  split
  ·rename_i h; exact hK 3 H2 s2 (w1.trans w2) (by decide) (by decide) fun _=>h2 h
  ·refine pI 0 rfl s2 (by omega) fun d3 H3 s3 w3 h3=>?_
   rw [ah]
   split
   ·rename_i h; exact hK 4 H3 s3 ((w1.trans w2).trans w3) (by decide) (by decide) fun _=>h3 h
   ·exact hK 0 H3 s3 ((w1.trans w2).trans w3) (by decide) (by decide) fun h=>absurd h (by decide)
section
attribute [local irreducible] dV.L0
theorem Ew {s:ByteArray} {id n:Nat} {l:List ByteArray} {H:Hp} {ex:Bool} (hg:H.get id=some (.cells (l.map fun s=>Sx s) ex)) (hn:n=l.length) (hl:l.length≤1000) {K:AV→Hp→Prop} (hK:∀ (k:Nat) (ok:Bool),k≤l.length→K (.tup [I (k:Int),Bo ok]) H) :
  ai Tryz.prog σ ku [Sx s,.sl id 0 1 n (some n)] H K:=by
 subst hn
 refine dV.run ?_
 have L0:∀ (f k:Nat),l.length - k=f→k≤l.length→dV.L0 σ K (Sx s) (.sl id 0 1 l.length (some l.length)) (I (k:Int)) H:=by
  intro f
  induction f with
  | zero =>
   intro k hf hk
   have:¬ ((k:Int)<(l.length:Int)):=by omega
   refine dV.L0_step ?_
   simp only [pg,aa,bA,this,decide_false,ah,Bool.false_eq_true,if_false]
   exact hK 0 false (by omega)
  | succ f ih =>
   intro k hf hk
   have hlt:(k:Int)<(l.length:Int):=by omega
   have hix:aJ 1 (.sl id 0 1 l.length (some l.length)) (I (k:Int))=some (.ptr id k):=by rw [oH (by omega) (by omega)]; simp
   obtain ⟨t,ht⟩:=cb (show k<l.length by omega)
   have hld:ldA false 1 H (.ptr id k)=some (Sx t):=by
    rw [bE,hg,br,t0 (f:=fun s=>Sx s) (by omega)]
    have e:=List.getElem?_eq_getElem (l:=l) (i:=k) (by omega)
    rw [e] at ht
    cases ht; rfl
   refine dV.L0_step ?_
   simp only [pg,aa,bA,hlt,decide_true,ah,if_true,hix,hld,gD]
   split
   ·exact hK k true (by omega)
   ·rw [bN,aa,bz (by omega)]
    exact ih (k+1) (by omega) (by omega)
 exact L0 _ 0 rfl (Nat.zero_le _)
end
end Go.Proofs.YthmaggcfghjmfaaGreat.Ev
namespace Go.Proofs.YthmaggcfghjmfaaGreat.Ev
set_option linter.unusedVariables false
set_option linter.unusedSimpArgs false
variable {σ:Sig}
structure LV (b:Nat) (ts:List Tn) (H0:Hp) (a:Nat) (bad:Bool) (dp:Int) (q r:Nat) (cs:List AV) (H:Hp):Prop where
 pl:PL b ts H0 a bad dp H
 gq:H.get q=some (.cells cs true)
 gr:∃ c0,H.get r=some (.cells c0 true)∧c0.length=cs.length
 q0:H0.n≤q
 r0:H0.n≤r
 qr:q≠r
 hb:b<H0.n
section
variable {b a a' q r:Nat} {ts:List Tn} {bad bad':Bool} {dp dp':Int} {H0 H H':Hp} {cs:List AV}
theorem LV.s (v:LV b ts H0 a bad dp q r cs H):PkS b ts a bad dp H:=v.pl.s
theorem LV.lt (v:LV b ts H0 a bad dp q r cs H) {j:Nat} {k:Blk} (h:H.get j=some k):j<H.n:=by
 rcases Nat.lt_or_ge j H.n with h1 | h1
 ·exact h1
 ·rw [v.s.ok j h1] at h; cases h
theorem LV.to (v:LV b ts H0 a bad dp q r cs H) (s:PkS b ts a' bad' dp' H') (w:Wb b H H'):LV b ts H0 a' bad' dp' q r cs H':=by
 obtain ⟨c0,g,l⟩:=v.gr
 have:=v.q0
 have:=v.r0
 have:=v.hb
 exact ⟨v.pl.to s w,by rw [w.g q (by omega)]; exact v.gq,⟨c0,by rw [w.g r (by omega)]; exact g,l⟩,v.q0,v.r0,v.qr,v.hb⟩
theorem LV.new (v:LV b ts H0 a bad dp q r cs H) (k:Blk):LV b ts H0 a bad dp q r cs (H.new k):=by
 obtain ⟨c0,g,l⟩:=v.gr
 have h1:=v.lt v.gq
 have h2:=v.lt g
 exact ⟨v.pl.new k,by rw [aB,if_neg (by omega)]; exact v.gq,⟨c0,by rw [aB,if_neg (by omega)]; exact g,l⟩,v.q0,v.r0,v.qr,v.hb⟩
theorem LV.other (v:LV b ts H0 a bad dp q r cs H) {j:Nat} (k:Blk) (h0:H0.n≤j) (h1:j<H.n) (hq:j≠q) (hr:j≠r):LV b ts H0 a bad dp q r cs (H.set j (some k)):=by
 obtain ⟨c0,g,l⟩:=v.gr
 have:=v.hb
 exact ⟨v.pl.set k h0 h1 (by omega),by rw [ay,if_neg (Ne.symm hq)]; exact v.gq,⟨c0,by rw [ay,if_neg (Ne.symm hr)]; exact g,l⟩,v.q0,v.r0,v.qr,v.hb⟩
theorem LV.set (v:LV b ts H0 a bad dp q r cs H) (cs':List AV) (hl:cs'.length=cs.length):LV b ts H0 a bad dp q r cs' (H.set q (some (.cells cs' true))):=by
 obtain ⟨c0,g,l⟩:=v.gr
 have:=v.hb
 have:=v.q0
 have:=v.qr
 exact ⟨v.pl.set _ v.q0 (v.lt v.gq) (by omega),by rw [ay,if_pos rfl],⟨c0,by rw [ay,if_neg (Ne.symm v.qr)]; exact g,by rw [hl]; exact l⟩,v.q0,v.r0,v.qr,v.hb⟩
theorem LV.st (v:LV b ts H0 a bad dp q r cs H) {i:Nat} {x:AV} {K:Hp→Prop} (hi:i<cs.length) (h1:x.cells=[x]) (h2:x.isAny=false) (h3:AV.one x=true) (hK:∀ H',LV b ts H0 a bad dp q r (cs.set i x) H'→K H'):bnd (stA 1 H (.ptr q i) x) K:=by
 rw [jd v.gq h1 h2 h3 hi,aa]
 exact hK _ (v.set _ (by rw [List.length_set]))
theorem LV.ret (v:LV b ts H0 a bad dp q r cs H) {n:Nat} (hn:cs.length=n) (h1:cs.all AV.one=true) {r':AV} {K:AV→Hp→Prop} (hr:∀ Hd:Hp,H.n≤Hd.n→(∀ j k,H.get j=some k→H0.n≤j→j≠r→Hd.get j=some k)→FzE Hd (.agg cs) r') (hK:∀ H',PkS b ts a bad dp H'→Wb b H0 H'→K r' H') :
  bnd (ldA true n H (.ptr q 0)) fun x8=>bnd (stA n H (.ptr r 0) x8) fun H9=>bnd (ldA true n H9 (.ptr r 0)) fun r10=>e_ b ts H0 K r10 H9:=by
 obtain ⟨c0,g,l⟩:=v.gr
 have lq:ldA true n H (.ptr q 0)=some (.agg cs):=by rw [bE,v.gq,br,List.drop_zero,dm hn]
 have st:stA n H (.ptr r 0) (.agg cs)=some (H.set r (some (.cells cs true))):=by
  rw [gU,g,if_pos hn,cC,if_pos ⟨by rw [l]; omega,h1⟩,a8 (by rw [l])]
 have lr:ldA true n (H.set r (some (.cells cs true))) (.ptr r 0)=some (.agg cs):=by rw [bE,ay,if_pos rfl,br,List.drop_zero,dm hn]
 rw [lq,aa,st,aa,lr,aa]
 have hb:=v.hb
 have hr0:=v.r0
 refine (v.pl.set (.cells cs true) v.r0 (v.lt g) (by omega)).fin (hr _ (by rw [Hn]; simp) fun j k hj h0 hjr=>?_) hK
 rw [ua,if_neg (by omega),ay,if_neg hjr]
 exact hj
theorem PL.ret (p:PL b ts H0 a bad dp H) {n:Nat} {c0:List AV} (g:H.get r=some (.cells c0 true)) (l:c0.length=n) (r0:H0.n≤r) (hb:b<H0.n) (hn:cs.length=n) (h1:cs.all AV.one=true) {r':AV} {K:AV→Hp→Prop} (hr:∀ Hd:Hp,FzE Hd (.agg cs) r') (hK:∀ H',PkS b ts a bad dp H'→Wb b H0 H'→K r' H') :
  bnd (stA n H (.ptr r 0) (.agg cs)) fun H9=>bnd (ldA true n H9 (.ptr r 0)) fun r10=>e_ b ts H0 K r10 H9:=by
 have st:stA n H (.ptr r 0) (.agg cs)=some (H.set r (some (.cells cs true))):=by
  rw [gU,g,if_pos hn,cC,if_pos ⟨by omega,h1⟩,a8 (by omega)]
 have lr:ldA true n (H.set r (some (.cells cs true))) (.ptr r 0)=some (.agg cs):=by rw [bE,ay,if_pos rfl,br,List.drop_zero,dm hn]
 have hlt:r<H.n:=by
  rcases Nat.lt_or_ge r H.n with h1 | h1
  ·exact h1
  ·rw [p.s.ok r h1] at g; cases g
 rw [st,aa,lr,aa]
 exact (p.set (.cells cs true) r0 hlt (by omega)).fin (hr _) hK
end
def zAt:List AV:=cg ⟨⟨#[]⟩,0,⟨#[]⟩⟩
section
attribute [local irreducible] ao.J0 ao.L1 ao.J2 ao.J3
theorem KE {b a : Nat} {ts : List Tn} {dp : Int} {H : Hp} {K : AV → Hp → Prop} (s : PkS b ts a false dp H) (hok : ∀ t ∈ ts, jm t) (hl : ts.length ≤ 300) (ha : a ≤ ts.length)
    (hK:∀ (x:At) (a':Nat) (bad':Bool) (H':Hp),PkS b ts a' bad' dp H'→Wb b H H'→a≤a'→a'≤ts.length+2→(bad'=false→a+2≤a'∧a'≤ts.length∧x.name.data.size≤900∧x.text.data.size≤900∧i64 x.op)→K (.agg (cg x)) H') :
    ai Tryz.prog σ dA [.ptr b 0] H K:=by
  refine ja s ?_
  refine ao.run ?_
  rw [bw]
  obtain ⟨r,hr⟩:∃ r,r=H.n:=⟨_,rfl⟩
  have ez:(Blk.cells [.lit (.string ⟨#[]⟩),.lit (.int .i64 0),.lit (.string ⟨#[]⟩)] true)=.cells zAt true:=rfl
  rw [ez,← hr]
  have hbr:b<H.n:=s.lt
  have p0:=s.pl.new (.cells zAt true)
  have gr0:(H.new (.cells zAt true)).get r=some (.cells zAt true):=by rw [aB,if_pos hr]
  generalize H.new (.cells zAt true)=H2 at p0 gr0 ⊢
  refine kZ p0.s (by omega) (by omega) fun w1 a1 H3 s3 w3 ge1 le1=>?_
  have p3:=p0.to s3 w3
  have gr3:H3.get r=some (.cells zAt true):=by rw [w3.g r (by omega)]; exact gr0
  refine kG 0 rfl s3 (by omega) fun H4 s4 w4=>?_
  rw [Nat.add_zero]
  obtain ⟨t1,ht1⟩:∃ t,t=ia ts a1:=⟨_,rfl⟩
  have ok1:jm t1:=ht1 ▸ nq hok a1
  rw [← ht1,rm,aa]
  have p4:=p3.to s4 w4
  have gr4:H4.get r=some (.cells zAt true):=by rw [w4.g r (by omega)]; exact gr3
  have sz1:=ok1.text
  refine am (jE t1.text (by omega) H4) ?_
  have eb:bi [.lit (.string ⟨#[]⟩),.lit (.int .i64 0),.lit (.string ⟨#[]⟩)] [(0,1,Sx (kP t1.text))]=some (cg ⟨kP t1.text,0,⟨#[]⟩⟩):=rfl
  have szn:(kP t1.text).data.size≤900:=by
    have:(kP t1.text).data.size=t1.text.data.size:=by simp [kP]
    omega
  generalize kP t1.text=nm at eb szn ⊢
  rw [eb,aa,bw,ez]
  obtain ⟨q,hq⟩:∃ q,q=H4.n:=⟨_,rfl⟩
  have hrq:r<q:=by
    rcases Nat.lt_or_ge r H4.n with h1 | h1
    · omega
    · rw [s4.ok r h1] at gr4; cases gr4
  have p5:=p4.new (.cells zAt true)
  have gq5:(H4.new (.cells zAt true)).get q=some (.cells zAt true):=by rw [aB,if_pos hq]
  have gr5:(H4.new (.cells zAt true)).get r=some (.cells zAt true):=by rw [aB,if_neg (by omega)]; exact gr4
  have n5:(H4.new (.cells zAt true)).n=q+1:=by rw [hq]; rfl
  rw [← hq]
  generalize H4.new (.cells zAt true)=H5 at p5 gq5 gr5 n5 ⊢
  have kq:H.n≤q:=by have:=p4.k.n; omega
  have v5:LV b ts H a1 false dp q r zAt H5:=⟨p5,gq5,⟨zAt,gr5,rfl⟩,kq,by omega,by omega,hbr⟩
  have st5:stA 3 H5 (.ptr q 0) (.agg (cg ⟨nm,0,⟨#[]⟩⟩))=some (H5.set q (some (.cells (cg ⟨nm,0,⟨#[]⟩⟩) true))):=by
    rw [gU,gq5,if_pos (show (cg ⟨nm,0,⟨#[]⟩⟩).length=3 from rfl),cC,if_pos ⟨by show 0+3≤3; omega,rfl⟩,a8 (by rfl)]
  rw [st5,aa]
  have v6:=v5.set (cg ⟨nm,0,⟨#[]⟩⟩) rfl
  generalize H5.set q (some (.cells (cg ⟨nm,0,⟨#[]⟩⟩) true))=H6 at v6 ⊢
  have opz:i64 0:=by unfold i64; decide
  have fin : ∀ (x : At) (a' : Nat) (bad' : Bool) (H7 : Hp), LV b ts H a' bad' dp q r (cg x) H7 → a ≤ a' → a' ≤ ts.length + 2 → (bad' = false → a + 2 ≤ a' ∧ a' ≤ ts.length ∧ x.name.data.size ≤ 900 ∧ x.text.data.size ≤ 900 ∧ i64 x.op) →
      bnd (ldA true 3 H7 (.ptr q 0)) fun x8=>bnd (stA 3 H7 (.ptr r 0) x8) fun H9=>bnd (ldA true 3 H9 (.ptr r 0)) fun r10=>e_ b ts H K r10 H9:=by
    intro x a' bad' H7 v h1 h2 h3
    exact v.ret (r':=.agg (cg x)) rfl rfl (fun _ _ _=>.inl rfl) fun H' s' w'=>hK x a' bad' H' s' w' h1 h2 h3
  have J2:∀ (x:At) (a3:Nat) (bad':Bool) (H7:Hp) (y4 y5 y6:AV),LV b ts H a3 bad' dp q r (cg x) H7→a+1≤a3→a3≤ts.length+1→(bad'=false→a3<ts.length∧x.name.data.size≤900∧x.text.data.size≤900∧i64 x.op)→ao.J2 σ (e_ b ts H K) (.ptr b 0) (.ptr r 0) (.ptr q 0) y4 y5 y6 H7:=by
    intro x a3 bad' H7 y4 y5 y6 v h1 h2 h3
    refine ao.J2_step ?_
    refine lP 1 rfl v.s (by omega) fun H8 s8 w8 _=>?_
    exact fin x (a3+1) bad' H8 (v.to s8 w8) (by omega) (by omega) fun hb=>by have:=h3 hb; exact ⟨by omega,by omega,this.2⟩
  have bk : ∀ (x : At) (a3 : Nat) (H7 : Hp) (y4 y5 y6 : AV), LV b ts H a3 false dp q r (cg x) H7 → a + 1 ≤ a3 → a3 ≤ ts.length → x.name.data.size ≤ 900 ∧ x.text.data.size ≤ 900 ∧ i64 x.op →
      ai Tryz.prog σ aN [.ptr b 0,.lit (.int .i64 0)] H7 fun x37 H38=>bnd (dW false 0 1 x37) fun x39=>bnd (af .neq x39 (.lit (.int .i64 19))) fun x40=>ifB x40 (bnd (au (.ptr b 0)) fun x41=>bnd (ae x41 2) fun x42=>bnd (stA 1 H38 x42 (.lit (.bool true))) fun H43=>ao.J2 σ (e_ b ts H K) (.ptr b 0) (.ptr r 0) (.ptr q 0) y4 y5 y6 H43) (ao.J2 σ (e_ b ts H K) (.ptr b 0) (.ptr r 0) (.ptr q 0) y4 y5 y6 H38):=by
    intro x a3 H7 y4 y5 y6 v h1 h2 h3
    refine kG 0 rfl v.s (by omega) fun H8 s8 w8=>?_
    have v8:=v.to s8 w8
    rw [jl,aa,ki,aa,ah]
    split
    · refine qc true s8 fun H9 s9 w9 _=>?_
      exact J2 x a3 true H9 _ _ _ (v8.to s9 w9) h1 (by omega) fun h=>by cases h
    · rename_i hk
      have hk:(ia ts (a3+0)).kind=19:=by simpa using hk
      have:=iq (ts:=ts) (i:=a3+0) (by omega)
      exact J2 x a3 false H8 _ _ _ v8 h1 (by omega) fun _=>⟨by omega,h3⟩
  have J0:∀ (op:Int) (a3:Nat) (H7:Hp) (y4 y5 y6:AV),LV b ts H a3 false dp q r (cg ⟨nm,op,⟨#[]⟩⟩) H7→a+1≤a3→a3≤ts.length→i64 op→ao.J0 σ (e_ b ts H K) (.ptr b 0) (.ptr r 0) (.ptr q 0) y4 y5 y6 H7:=by
    intro op a3 H7 y4 y5 y6 v h1 h2 hop
    refine ao.J0_step ?_
    have lop:ldA false 1 H7 (.ptr q (0+1))=some (I op):=by rw [bE,v.gq]; rfl
    rw [bj,aa,lop,aa,bD,aa,ah]
    split
    · refine qc true v.s fun H8 s8 w8 _=>?_
      exact fin _ a3 true H8 (v.to s8 w8) (by omega) (by omega) fun h=>by cases h
    · refine kZ v.s (by omega) (by omega) fun w a4 H8 s8 w8 ge4 le4=>?_
      have v8:=v.to s8 w8
      refine kG 0 rfl s8 (by omega) fun H9 s9 w9=>?_
      have v9:=v8.to s9 w9
      rw [jl,aa]
      refine kG 0 rfl s9 (by omega) fun H10 s10 w10=>?_
      have v10:=v9.to s10 w10
      rw [rm,aa,bj,aa]
      have okt:=(nq hok (a4+0)).text
      have hkl:(ia ts (a4+0)).kind≠0→a4<ts.length:=fun h=>by have:=iq h; omega
      generalize ia ts (a4+0)=t4 at okt hkl ⊢
      refine v10.st (i:=0+2) (by show 0+2<3; omega) rfl rfl rfl fun H11 v11=>?_
      have v11:LV b ts H a4 false dp q r (cg ⟨nm,op,t4.text⟩) H11:=v11
      have tail:t4.kind≠0→bnd (au (.ptr b 0)) fun x28=>bnd (ae x28 1) fun x29=>bnd (ldA false 1 H11 x29) fun x30=>bnd (af .add x30 (.lit (.int .i64 1))) fun x31=>bnd (au (.ptr b 0)) fun x32=>bnd (ae x32 1) fun x33=>bnd (stA 1 H11 x33 x31) fun H34=>ai Tryz.prog σ bu [.ptr b 0] H34 fun x35 H36=>ai Tryz.prog σ aN [.ptr b 0,.lit (.int .i64 0)] H36 fun x37 H38=>bnd (dW false 0 1 x37) fun x39=>bnd (af .neq x39 (.lit (.int .i64 19))) fun x40=>ifB x40 (bnd (au (.ptr b 0)) fun x41=>bnd (ae x41 2) fun x42=>bnd (stA 1 H38 x42 (.lit (.bool true))) fun H43=>ao.J2 σ (e_ b ts H K) (.ptr b 0) (.ptr r 0) (.ptr q 0) y4 y5 y6 H43) (ao.J2 σ (e_ b ts H K) (.ptr b 0) (.ptr r 0) (.ptr q 0) y4 y5 y6 H38):=by
        intro hne
        have hlt:=hkl hne
        refine lP 1 rfl v11.s (by omega) fun H12 s12 w12 _=>?_
        have v12:=v11.to s12 w12
        refine kZ s12 (by omega) (by omega) fun w a5 H13 s13 w13 ge5 le5=>?_
        exact bk _ a5 H13 _ _ _ (v12.to s13 w13) (by omega) (by omega) ⟨szn,okt,hop⟩
      rw [ki,aa,ah]
      split
      · rw [ki,aa,ah]
        split
        · refine qc true v11.s fun H12 s12 w12 _=>?_
          exact fin _ a4 true H12 (v11.to s12 w12) (by omega) (by omega) fun h=>by cases h
        · rename_i hk
          exact tail (by have : t4.kind = 4 := by simpa using hk
                         omega)
      · rename_i hk
        exact tail (by have : t4.kind = 1 := by simpa using hk
                       omega)
  have L1:∀ (f i:Nat) (op:Int) (a3 m o:Nat) (c:Int) (H7:Hp),5 - i=f→i≤5→LV b ts H a3 false dp q r (cg ⟨nm,op,⟨#[]⟩⟩) H7→a+1≤a3→a3+2≤ts.length→i64 op→m≠q→o≠q→(∃ tc,H7.get o=some (.cells (bV tc) true))→H7.get m=some (.cells [I 126,I 124,I 94,I 36,I 42] true)→ao.L1 σ (e_ b ts H K) (.ptr b 0) (.ptr r 0) (.ptr q 0) (.ptr o 0) (.sl m 0 1 5 (some 5)) (I (i:Int)) H7:=by
    intro f
    induction f with
    | zero =>
      intro i op a3 m o c H7 hf hi v h1 h2 hop hmq hoq ho hm
      have:¬ ((i:Int)<((5:Nat):Int)):=by omega
      refine ao.L1_step ?_
      simp only [pg,aa,bA,this,decide_false,ah,Bool.false_eq_true,if_false]
      refine lP 2 rfl v.s (by omega) fun H8 s8 w8 _=>?_
      exact J0 op (a3+2) H8 _ _ _ (v.to s8 w8) (by omega) (by omega) hop
    | succ f ih =>
      intro i op a3 m o c H7 hf hi v h1 h2 hop hmq hoq ho hm
      have hlt:(i:Int)<((5:Nat):Int):=by omega
      have hix:aJ 1 (.sl m 0 1 5 (some 5)) (I (i:Int))=some (.ptr m i):=by rw [oH (by omega) (by omega)]; simp
      have hld:∃ z:Int,ldA false 1 H7 (.ptr m i)=some (I z):=by
        rw [bE,hm]
        rcases i with _ | _ | _ | _ | _ | i
        · exact ⟨126,rfl⟩
        · exact ⟨124,rfl⟩
        · exact ⟨94,rfl⟩
        · exact ⟨36,rfl⟩
        · exact ⟨42,rfl⟩
        · omega
      obtain ⟨z,hz⟩:=hld
      obtain ⟨tc,htc⟩:=ho
      have ltc:ldA false 1 H7 (.ptr o (0+4))=some (I tc.c):=by rw [bE,htc]; rfl
      have J3:∀ (op:Int) (H8:Hp),LV b ts H a3 false dp q r (cg ⟨nm,op,⟨#[]⟩⟩) H8→i64 op→(∀ j,j≠q→H8.get j=H7.get j)→ao.J3 σ (e_ b ts H K) (.ptr b 0) (.ptr r 0) (.ptr q 0) (.ptr o 0) (.sl m 0 1 5 (some 5)) (I (i:Int)) H8:=by
        intro op H8 v8 hop hsame
        refine ao.J3_step ?_
        rw [bN,aa,bz (by omega)]
        exact ih (i+1) op a3 m o c H8 (by omega) (by omega) v8 h1 h2 hop hmq hoq ⟨tc,by rw [hsame o hoq]; exact htc⟩ (by rw [hsame m hmq]; exact hm)
      refine ao.L1_step ?_
      simp only [pg,aa,bA,hlt,decide_true,ah,if_true,hix,hz,bj,ltc,bD]
      split
      · have e:wr .i64 (2+(i:Int))=2+(i:Int):=eh (by omega) (by omega)
        rw [bN,aa,e]
        have st:stA 1 H7 (.ptr q (0+1)) (I (2+(i:Int)))=some (H7.set q (some (.cells (cg ⟨nm,2+(i:Int),⟨#[]⟩⟩) true))):=jd v.gq rfl rfl rfl (by show 0+1<3; omega)
        rw [st,aa]
        exact J3 _ _ (v.set _ rfl) (by unfold i64; omega) fun j hj=>by rw [ay,if_neg hj]
      · exact J3 op H7 v hop fun _ _=>rfl
  refine kG 0 rfl v6.s (by omega) fun H7 s7 w7=>?_
  have v7:=v6.to s7 w7
  rw [Nat.add_zero,← ht1,jl,aa,ki,aa,ah]
  split
  · refine qc true s7 fun H8 s8 w8 _=>?_
    exact fin _ a1 true H8 (v7.to s8 w8) ge1 (by omega) fun h=>by cases h
  · rename_i hk1
    have hk1:t1.kind=1:=by simpa using hk1
    have lt1:a1<ts.length:=iq (by rw [← ht1]; omega)
    refine lP 1 rfl s7 (by omega) fun H8 s8 w8 _=>?_
    have v8:=v7.to s8 w8
    refine kZ s8 (by omega) (by omega) fun w a2 H9 s9 w9 ge2 le2=>?_
    have v9:=v8.to s9 w9
    refine kG 0 rfl s9 (by omega) fun H10 s10 w10=>?_
    have v10:=v9.to s10 w10
    rw [jl,aa,bD,aa,ah]
    split
    · rename_i hk
      have hk:=of_decide_eq_true hk
      have:=iq (ts:=ts) (i:=a2+0) (by omega)
      refine lP 1 rfl s10 (by omega) fun H11 s11 w11 _=>?_
      exact fin _ (a2+1) false H11 (v10.to s11 w11) (by omega) (by omega) fun _=>⟨by omega,by omega,szn,(by decide:(0:Nat)≤900),opz⟩
    · refine kG 0 rfl s10 (by omega) fun H11 s11 w11=>?_
      have v11:=v10.to s11 w11
      rw [bw]
      obtain ⟨o,ho⟩:∃ o,o=H11.n:=⟨_,rfl⟩
      have hqo:q<o:=by rw [ho]; exact v11.lt v11.gq
      have ez5:(Blk.cells [.lit (.int .i64 0),.lit (.string ⟨#[]⟩),.lit (.int .i64 0),.lit (.bool false),.lit (.int .i64 0)] true)=.cells zTn true:=rfl
      rw [ez5,← ho]
      have v12:=v11.new (.cells zTn true)
      have go:(H11.new (.cells zTn true)).get o=some (.cells zTn true):=by rw [aB,if_pos ho]
      have no:(H11.new (.cells zTn true)).n=o+1:=by rw [ho]; rfl
      generalize H11.new (.cells zTn true)=H12 at v12 go no ⊢
      rw [Nat.add_zero]
      have hk2:(ia ts a2).kind≠0→a2<ts.length:=iq
      generalize ia ts a2=t2 at hk2 ⊢
      have st:stA 5 H12 (.ptr o 0) (.agg (bV t2))=some (H12.set o (some (.cells (bV t2) true))):=by
        rw [gU,go,if_pos (show (bV t2).length=5 from rfl),cC,if_pos ⟨by show 0+5≤5; omega,rfl⟩,a8 (by rfl)]
      rw [st,aa]
      have v13:=v12.other (.cells (bV t2) true) (j:=o) (by omega) (by omega) (by omega) (by omega)
      have go13:(H12.set o (some (.cells (bV t2) true))).get o=some (.cells (bV t2) true):=by rw [ay,if_pos rfl]
      generalize H12.set o (some (.cells (bV t2) true))=H13 at v13 go13 ⊢
      have lk:ldA false 1 H13 (.ptr o (0+0))=some (I t2.kind):=by rw [bE,go13]; rfl
      have lc:ldA false 1 H13 (.ptr o (0+4))=some (I t2.c):=by rw [bE,go13]; rfl
      have opq:=opz
      have dl:ai Tryz.prog σ b_ [.ptr b 0,.lit (.int .i64 1),.lit (.int .i64 61)] H13 fun x70 H71=>ifB x70 (bnd (aw [.int .i64 0] 1 5 H71 [(0,1,.lit (.int .i64 126)),(1,1,.lit (.int .i64 124)),(2,1,.lit (.int .i64 94)),(3,1,.lit (.int .i64 36)),(4,1,.lit (.int .i64 42))]) fun p72=>ao.L1 σ (e_ b ts H K) (.ptr b 0) (.ptr r 0) (.ptr q 0) (.ptr o 0) p72.1 (.lit (.int .i64 0)) p72.2) (ao.J0 σ (e_ b ts H K) (.ptr b 0) (.ptr r 0) (.ptr q 0) (.ptr o 0) (.lit undef) (.lit undef) H71):=by
        refine pI 1 rfl v13.s (by omega) fun d H14 s14 w14 hd=>?_
        have v14:=v13.to s14 w14
        rw [ah]
        split
        · rename_i h
          have h2:=hd h
          have eb:aw [.int .i64 0] 1 5 H14 [(0,1,.lit (.int .i64 126)),(1,1,.lit (.int .i64 124)),(2,1,.lit (.int .i64 94)),(3,1,.lit (.int .i64 36)),(4,1,.lit (.int .i64 42))]=some (.sl H14.n 0 1 5 (some 5),H14.new (.cells [I 126,I 124,I 94,I 36,I 42] true)):=rfl
          rw [eb,aa]
          have gq14:=v14.lt v14.gq
          have go14:H14.get o=some (.cells (bV t2) true):=by rw [w14.g o (by omega)]; exact go13
          have lo14:=v14.lt go14
          exact L1 _ 0 0 a2 H14.n o 0 _ rfl (by omega) (v14.new _) (by omega) (by omega) opq (by omega) (by omega) ⟨t2,by rw [aB,if_neg (by omega)]; exact go14⟩ (by rw [aB,if_pos rfl])
        · exact J0 0 a2 H14 _ _ _ v14 (by omega) (by omega) opq
      simp only [bj,aa,lk,lc,bD,ah,decide_eq_true_eq]
      by_cases hk10:t2.kind=10
      · simp only [hk10,if_true]
        have lt2:=hk2 (by omega)
        by_cases hc:t2.c=61
        · simp only [hc,if_true]
          refine v13.st (i:=0+1) (by show 0+1<3; omega) rfl rfl rfl fun H14 v14=>?_
          have v14:LV b ts H a2 false dp q r (cg ⟨nm,1,⟨#[]⟩⟩) H14:=v14
          refine lP 1 rfl v14.s (by omega) fun H15 s15 w15 _=>?_
          exact J0 1 (a2+1) H15 _ _ _ (v14.to s15 w15) (by omega) (by omega) (by unfold i64; decide)
        · simp only [hc,if_false]
          exact dl
      · simp only [hk10,if_false]
        exact J0 0 a2 H13 _ _ _ v13 (by omega) (by omega) opq
end
end Go.Proofs.YthmaggcfghjmfaaGreat.Ev
