/- The walks, part 8: the evaluator, the functions, the laws. Conditions: none. -/
import Derived.Shelf.LaysM
import Derived.Shelf.Strings.Search1
import Derived.Shelf.Strings.Search2
import Derived.Shelf.Strings.Search3
import Derived.Shelf.Strings.Shaped
import Derived.Test.YthmaggcfghjmfaaZ7
namespace Go.Proofs.Ythmaggcfghjmfaa.Ev
open Go.Shelf Go.Proofs
def cD:Ren :=
{
 f:=fun x =>
  match x with
  | 144=>124
  | 143=>128
  | 219=>131
  | 217=>132
  | 225=>133
  | 224=>134
  | 267=>135
  | 266=>136
  | 314=>137
  | n=>n,
 t:=fun x =>
  match x with
  | 9=>9
  | 4=>4
  | 3=>3
  | 5=>5
  | 46=>142
  | 146=>163
  | 51=>162
  | n=>n,
 g:=fun x =>
  match x with
  | 1=>0
  | n=>n }
theorem sr:LaysM.n144 Try.prog cD :=
{ mixed:=by kernel_rfl,f143:=Eq.trans Try.func128 (congrArg some (Eq.refl (Body.n143 cD))),
  f144:=Eq.trans Try.func124 (congrArg some (Eq.refl (Body.n144 cD))),
  f217:=Eq.trans Try.func132 (congrArg some (Eq.refl (Body.n217 cD))),
  f219:=Eq.trans Try.func131 (congrArg some (Eq.refl (Body.n219 cD))),
  f224:=Eq.trans Try.func134 (congrArg some (Eq.refl (Body.n224 cD))),
  f225:=Eq.trans Try.func133 (congrArg some (Eq.refl (Body.n225 cD))),
  f266:=Eq.trans Try.func136 (congrArg some (Eq.refl (Body.n266 cD))),
  f267:=Eq.trans Try.func135 (congrArg some (Eq.refl (Body.n267 cD))),
  f314:=Eq.trans Try.func137 (congrArg some (Eq.refl (Body.n314 cD))),t3:=Try.underlying3,
  a3:=Try.isAgg3,z3:=Try.sizeOf3,v3:=Try.zeroValue3,t4:=Try.underlying4,a4:=Try.isAgg4,z4:=Try.sizeOf4,
  v4:=Try.zeroValue4,t5:=Try.underlying5,a5:=Try.isAgg5,z5:=Try.sizeOf5,v5:=Try.zeroValue5,
  t9:=Try.underlying9,a9:=Try.isAgg9,z9:=Try.sizeOf9,v9:=Try.zeroValue9,t46:=Try.underlying142,
  a46:=Try.isAgg142,z46:=Try.sizeOf142,v46:=Try.zeroValue142,t51:=Try.underlying162,a51:=Try.isAgg162,
  z51:=Try.sizeOf162,v51:=Try.zeroValue162,t146:=Try.underlying163,a146:=Try.isAgg163,z146:=Try.sizeOf163,
  v146:=Try.zeroValue163,g1:=by kernel_rfl,
  i3:=by kernel_rfl,i4:=by kernel_rfl,
  i5:=by kernel_rfl,
  i9:=by kernel_rfl,
  i46:=by kernel_rfl,
  i51:=by kernel_rfl,
  i146:=by kernel_rfl,
  m1:=by kernel_rfl,
  s1_3:=fun w h=>Go.Proofs.cell_of_shapedOpen_int h (zero:=#[Go.Value.int Go.IntKind.i64 0]) (t:=3) (of_decide_eq_true (by kernel_rfl)) (by kernel_rfl) rfl (by kernel_rfl) (by kernel_rfl) Try.underlying3 }
def z_:Nat:=cD.g 1
theorem KH {σ:Sig} (hg:σ.g=some z_):mK σ:=by
 intro s t H hs
 refine ⟨⟨_,Try.func124,by kernel_rfl,by kernel_rfl⟩,fun B w0 E w vs hσ hst hx=>?_⟩
 obtain ⟨_,m,hm⟩:=hst.glNow z_ (by rw [hσ]; exact hg)
 have hl:=hx.len
 obtain ⟨v0,v1,rfl⟩:∃ v0 v1,vs=#[v0,v1]:=by
  obtain ⟨l⟩:=vs
  match l,hl with
  | [a,b],_=>exact ⟨a,b,rfl⟩
 have r0:=hx.at_ 0 _ v0 rfl (by simp)
 have r1:=hx.at_ 1 _ v1 rfl (by simp)
 cases r0
 cases r1
 refine (Any.strings_Contains (ρ:=cD) { sr with } s t m w hs hm).mono fun e w' he=>?_
 obtain ⟨rfl,rfl⟩:=he
 exact ⟨E,_,rfl,.refl E,hst,.lit _⟩
theorem Du (W:World) (h:W.ShapedOpen Try.prog) {σ:Sig} (hg:σ.g=some z_):∀ g,σ.g=some g→∃ m:Int,W.cell? ⟨g,0,none⟩=some (.int .i64 m):=by
 intro g hg'
 rw [hg] at hg'
 cases hg'
 exact sr.s1_3 W h
end Go.Proofs.Ythmaggcfghjmfaa.Ev
namespace Go.Proofs.Ythmaggcfghjmfaa.Ev
set_option linter.unusedVariables false
set_option linter.unusedSimpArgs false
def mM (k:Int):Int:=if k=2 then 1 else if k=3 then 4 else k
def ov (p:Pt):Pt:=.mk (mM p.comb) p.c
def iq (s:Sl):Sl:=s.map ov
theorem Ai {k:Int} (h:i64 k):i64 (mM k):=by
 unfold mM i64 at *
 split
 ·omega
 ·split<;>omega
theorem ug {L:List Nd} {e:Nat} {k:Int}:cH L e (mM k)=cH L e k:=by
 unfold cH mM
 by_cases h2:k=2
 ·subst h2; rfl
 ·by_cases h3:k=3
  ·subst h3; rfl
  ·rw [if_neg h2,if_neg h3]
theorem xR {k:Int} (h:lL k=true):lL (mM k)=true:=by
 unfold lL at *
 unfold mM
 by_cases h2:k=2
 ·subst h2; cases h
 ·by_cases h3:k=3
  ·subst h3; cases h
  ·rw [if_neg h2,if_neg h3]; exact h
theorem qB {L:List Nd} {g g':Nat→Bool} (h:∀ e,g e=true→g' e=true) (k:Int):∀ (f e:Nat),fj g L k f e=true→fj g' L (mM k) f e=true
 | 0,_,h0=>by cases h0
 | f+1,e,h0=>by
  unfold fj at h0 ⊢
  rw [ug]
  simp only [Bool.and_eq_true,Bool.or_eq_true] at h0 ⊢
  refine ⟨h0.1,?_⟩
  rcases h0.2 with h1 | ⟨h1,h2⟩
  ·exact .inl (h _ h1)
  ·exact .inr ⟨xR h1,qB h k f _ h2⟩
theorem vM (s:Sl) (i:Nat):(iq s)[i]?=s[i]?.map ov:=by unfold iq; rw [List.getElem?_map]
theorem qE {any:List Sl→Nat→Bool} {L:List Nd} {s:Sl}:∀ (i e:Nat),c7 any L s i e=true→c7 any L (iq s) i e=true
 | 0,e,h=>by
  unfold c7 at h ⊢
  rw [vM]
  cases hs:s[0]? with
  | none=>rw [hs] at h; cases h
  | some p=>rw [hs] at h; exact h
 | i+1,e,h=>by
  unfold c7 at h ⊢
  rw [vM]
  cases hs:s[i+1]? with
  | none=>rw [hs] at h; cases h
  | some p =>
   rw [hs] at h
   simp only [Bool.and_eq_true] at h
   show (lG any L e p.c&&fj (c7 any L (iq s) i) L (mM p.comb) (e+1) e)=true
   rw [Bool.and_eq_true]
   exact ⟨h.1,qB (fun e=>qE i e) p.comb (e+1) e h.2⟩
theorem DM {g:List Sl→Nat→Bool} {dp:Nat} {s:Sl}:sK g dp (iq s)=sK g dp s:=by
 unfold sK iq
 rw [List.length_map,List.all_map]
 rfl
theorem Ij (s:Sl):bkL (bc (iq s))=bkL (bc s):=by
 rw [pp,pp]
 congr 1
 unfold iq
 induction s with
 | nil=>rfl
 | cons p s ih =>
  simp only [List.map_cons,cP,ih]
  congr 1
  rw [qJ,qJ]
  rfl
theorem ID {s:Sl} (h:tQ cU s):tQ cU (iq s):=by
 refine ⟨by unfold iq; rw [List.length_map]; exact h.1,fun p hp=>?_⟩
 obtain ⟨q,hq,rfl⟩:=List.mem_map.1 hp
 have:=Pt.wf_iff.1 (h.2 q hq)
 rw [Pt.wf_iff]
 exact ⟨Ai this.1,this.2⟩
theorem EE {l:List Sl} (hw:gt cU l) (hf:nD 11 l) (hb:cP (l.map bc)≤NB) {s:Sl} (hs:s ∈ l):lF 11 [iq s]:=by
 have h1:=pL (f:=bc) hs
 refine (tF ⟨by show 1≤cU; decide,fun s' h=>by rw [List.mem_singleton.1 h]; exact ID (hw.2 s hs)⟩ (fun s' h=>?_) ?_).1
 ·rw [List.mem_singleton.1 h]
  have:=hf s hs
  refine ⟨by unfold iq; rw [List.length_map]; exact this.1,fun p hp=>?_⟩
  obtain ⟨q,hq,rfl⟩:=List.mem_map.1 hp
  exact this.2 q hq
 ·simp only [List.map_cons,List.map_nil,cP]
  rw [Ij]
  omega
theorem yU {L:List Nd} {s:Sl} (S:lF 11 [s]) (S':lF 11 [iq s]) {e:Int} (h:sQ L 11 s e=true):sQ L 11 (iq s) e=true:=by
 unfold sQ ku at h ⊢
 simp only [List.any_cons,List.any_nil,Bool.or_false,xV,DM] at h ⊢
 rw [AC S.nest S.hf] at h
 rw [AC S'.nest S'.hf]
 simp only [Bool.and_eq_true] at h ⊢
 refine ⟨h.1,h.2.1,?_⟩
 have h3:=h.2.2
 unfold frB at h3 ⊢
 rw [show (iq s).length=s.length from by unfold iq; rw [List.length_map]]
 simp only [Bool.and_eq_true] at h3 ⊢
 exact ⟨h3.1,qE _ _ h3.2⟩
end Go.Proofs.Ythmaggcfghjmfaa.Ev
namespace Go.Proofs.Ythmaggcfghjmfaa.Ev
open Go.RowKit
set_option linter.unusedVariables false
set_option linter.unusedSimpArgs false
set_option maxRecDepth 100000
variable {σ:Sig}
theorem xg.low {n:Nd} (h:xg n):SmN (cg n):=by
 have r:reachBytes=140737488351232:=rfl
 refine ⟨by have:=h.classes; show n.classes.length≤_; omega,by have:=h.attrs; show (n.attrs.map iV).length≤_; rw [List.length_map]; omega,fun p hp=>?_⟩
 obtain ⟨q,hq,rfl⟩:=List.mem_map.1 hp
 have:=(h.at' q hq).2
 show q.2.data.size<_
 omega
theorem nz.smN {L:List Nd} {d:List Nat} (h:nz L d):∀ e,e<L.length→SmN (cg (cQ L e)):=by
 intro e he
 refine (h.sm _ ?_).low
 unfold cQ
 rw [List.getD_eq_getElem?_getD,List.getElem?_eq_getElem he]
 exact List.getElem_mem _
theorem nz.mc {L:List Nd} {d:List Nat} (h:nz L d) (hC:mK σ):McT σ L d:=⟨hC,h.hB,by have:=h.len; omega,h.smN⟩
def HQ:Sig:=⟨fun _=>0,fun _=>false,fun _=>⟨#[]⟩,some z_⟩
theorem Bh:HQ.g=some z_:=rfl
structure LoS (c:Nat) (l:Sl) (x:AV) (H:Hp):Prop where
 gc:H.get c=some (.cells [x] true)
 lt:c<H.n
 g:Gs 6 H x (l.map aZ)
 w:∀ j,own x j→j≠c
theorem LoS.app {c:Nat} {l:Sl} {x:AV} {H:Hp} (s:LoS c l x H) (hn:l.length≤100000) (t:Pt) {K:Hp→Prop} (hK:∀ x' H',LoS c (l++[t]) x' H'→K H') :
  bnd (aT false 6 120 (H.new (.cells (aZ t) true)) x (.sl H.n 0 6 1 (some 1))) fun p=>bnd (ae (.ptr c 0) 0) fun z=>bnd (stA 1 p.2 z p.1) K:=by
 have hk:Gs 6 (H.new (.cells (aZ t) true)) x (l.map aZ):=by
  refine s.g.keep (fun j hj=>?_) (by simp)
  have:=s.g.lt hj
  rw [az,if_neg (by omega)]
 have hsrc:gK (H.new (.cells (aZ t) true)) 6 (.sl H.n 0 6 1 (some 1))=some (([aZ t]:List (List AV)).length,([aZ t]:List (List AV)).flatten):=oM (row:=aZ t) (ex:=true) (by rw [az,if_pos rfl]) (dt t)
 have ho1:(([aZ t]:List (List AV)).flatten).all AV.one=true:=by simp
 have h2:∀ row ∈ ([aZ t]:List (List AV)),row.length=6:=fun row hrow=>by rw [List.mem_singleton.1 hrow]; exact dt t
 refine oO (rows2:=[aZ t]) hk rfl hsrc h2 ho1 (by rw [List.length_map]; simp; omega) (by rw [List.length_map]; simp; omega) fun x' H' g' fr=>?_
 have gr:=fr.grow
 simp at gr
 have gc':H'.get c=some (.cells [x] true):=by
  rw [fr.same c (by have:=s.lt; simp; omega) fun h=>s.w c h rfl,az,if_neg (by have:=s.lt; omega)]
  exact s.gc
 have mine:∀ j,own x' j→j≠c:=by
  intro j hj
  rcases fr.mine j hj with h | ⟨h1,h2⟩
  ·exact s.w j h
  ·simp at h1; have:=s.lt; omega
 rw [bx,aa,fS gc' g'.cells.1 g'.cells.2 g'.one (by show 0+0<1; omega),aa]
 refine hK x' _ ⟨by rw [ax,if_pos rfl]; rfl,by have:=s.lt; simp; omega,?_,mine⟩
 rw [List.map_append]
 exact g'.keep (fun j hj=>by rw [ax,if_neg (mine j hj)]) (by simp)
section
attribute [local irreducible] ak.L0 ak.L1 ak.J2 ak.L3
theorem oz (hC:mK σ) {L:List Nd} (hW:∀ n ∈ L,lu n) {s:ByteArray}:∃ Hf,aH Try.prog σ eB [nds L,Sx s] Hp.empty (Bo true) Hf:=by
 refine ⟨Hp.empty,bP (fun K hK=>ak.run ?_) (by simp [aU,bQ]) rfl _⟩
 refine aw (EN hC _) ?_
 rcases xW (σ:=σ) L hW with hg | ⟨d,hT,hg⟩
 ·refine aw (hg _) ?_
  simp only [mE,List.getElem?_cons_zero,List.getElem?_cons_succ,aa,ep,aj,Bool.not_true,Bool.not_false,Bool.false_eq_true,if_true,if_false]
  exact hK _
 refine aw (hg _) ?_
 simp only [mE,List.getElem?_cons_zero,List.getElem?_cons_succ,aa,ep,aj,Bool.not_true,Bool.not_false,Bool.false_eq_true,if_true,if_false,ik,eT]
 split
 ·exact hK _
 rename_i hs
 have hs:s.data.size≤200:=by
  have:¬ (200:Int)<(s.data.size:Int):=by simpa using hs
  omega
 obtain ⟨m,hm,hb,hSels⟩:=FB (σ:=σ) s hs
 refine aw (hSels _) ?_
 obtain ⟨much,hdear,hfit⟩:=Dz (σ:=σ) m hm
 refine aw (hdear _) ?_
 rw [aj]
 cases hmu:much with
 | true=>exact hK _
 | false =>
 simp only [Bool.false_eq_true,if_false]
 have M:=hT.mc hC
 have hl40:=hT.len
 have hN:NB=1048576:=rfl
 obtain ⟨S,X⟩:=tF hm (hfit hmu) (by omega)
 have hml:m.length≤cP (m.map bc):=lU fun s _=>by rw [pp]; omega
 have L0:∀ (f i:Nat) (y12 y13 y14 y15:AV) (H:Hp),m.length - i=f→i≤m.length→ak.L0 σ K (nds L) (dw L d) (sls m) (I (i:Int)) y12 y13 y14 y15 H:=by
  intro f
  induction f with
  | zero =>
   intro i y12 y13 y14 y15 H hf hi
   have:¬ ((i:Int)<(m.length:Int)):=by omega
   refine ak.L0_step ?_
   simp only [vw,aa,b8,this,decide_false,aj,Bool.false_eq_true,if_false]
   exact hK _
  | succ f ih =>
   intro i y12 y13 y14 y15 H hf hi
   have hlt:(i:Int)<(m.length:Int):=by omega
   obtain ⟨t,ht⟩:=cb (show i<m.length by omega)
   have htm:=List.mem_of_getElem? ht
   have hfit1:=hfit hmu t htm
   have hix:aQ 1 (sls m) (I (i:Int))=some (.ip (bc t)):=cd ht
   have S1:=S.one htm
   have S2:=EE hm (hfit hmu) (by omega) htm
   have lp:∀ H:Hp,ldA false 1 H (.ip (bc t))=some (.imm 6 (t.map aZ)):=fun H=>rfl
   have shp:∀ cs:List AV,ae (.ip cs) 0=some (.ip (cs.drop 0)):=fun cs=>rfl
   refine ak.L0_step ?_
   simp only [vw,aa,b8,hlt,decide_true,aj,if_true,bl]
   have L3:∀ (c:Nat) (y13 y14 x:AV) (Hx:Hp),Hx.get c=some (.cells [x] true)→Fz Hx (.agg [x]) (.agg (bc (iq t)))→∀ (g e:Nat),L.length - e=g→e≤L.length→ak.L3 σ K (nds L) (dw L d) (sls m) (I (i:Int)) (.ptr c 0) y13 y14 (I (e:Int)) Hx:=by
    intro c y13 y14 x Hx gx fx g
    induction g with
    | zero =>
     intro e hg he
     have:¬ ((e:Int)<(L.length:Int)):=by omega
     refine ak.L3_step ?_
     simp only [gQ,aa,b8,this,decide_false,aj,Bool.false_eq_true,if_false,co]
     rw [bW (by omega)]
     exact ih (i+1) _ _ _ _ Hx (by omega) (by omega)
    | succ g ihg =>
     intro e hg he
     have hlt:(e:Int)<(L.length:Int):=by omega
     have nx:=ihg (e+1) (by omega) (by omega)
     have lx:ldA true 1 Hx (.ptr c 0)=some (.agg [x]):=by rw [bA,gx]; rfl
     refine ak.L3_step ?_
     simp only [gQ,aa,b8,hlt,decide_true,aj,if_true,hix,fJ,ry]
     refine aw (pq M S1 _ _) ?_
     rw [aj]
     cases ha:sQ L 11 t (e:Int) with
     | false =>
      simp only [Bool.false_eq_true,if_false,co,aa]
      rw [bW (by omega)]
      exact nx
     | true =>
      simp only [if_true,lx,aa]
      have hs2:=pq M S2 (e:Int) Hp.empty
      rw [yU S1 S2 ha] at hs2
      refine aw (hs2.frzA (.cons (.refl (cq L d)) (.cons (.refl rfl) (.cons fx .nil))) rfl) ?_
      simp only [ep,Bool.not_true,aa,aj,Bool.false_eq_true,if_false,co]
      rw [bW (by omega)]
      exact nx
   have L1:∀ (g k:Nat) (c:Nat) (x y14 y15:AV) (Hx:Hp),t.length - k=g→k≤t.length→LoS c (iq (t.take k)) x Hx→ak.L1 σ K (nds L) (dw L d) (sls m) (I (i:Int)) (.ptr c 0) (I (k:Int)) y14 y15 Hx:=by
    intro g
    induction g with
    | zero =>
     intro k c x y14 y15 Hx hg hk ls
     have hk:k=t.length:=by omega
     subst hk
     have hk:¬ ((t.length:Int)<((t.length:Nat):Int)):=by omega
     refine ak.L1_step ?_
     simp only [hix,aa,shp,List.drop_zero,lp,fR,List.length_map,b8,hk,decide_false,aj,Bool.false_eq_true,if_false]
     refine L3 c _ _ x Hx ls.gc ?_ _ 0 rfl (Nat.zero_le _)
     have:=ls.g
     rw [List.take_length] at this
     exact .aggL (.cons (this.fz (a_ _ oN _)) .nil)
    | succ g ihg =>
     intro k c x y14 y15 Hx hg hk ls
     have hlt:(k:Int)<(t.length:Int):=by omega
     obtain ⟨p,hp⟩:=cb (show k<t.length by omega)
     have hix2:aQ 6 (.imm 6 (t.map aZ)) (I (k:Int))=some (.ip (aZ p)):=cd hp
     have lpt:∀ H:Hp,ldA true 6 H (.ip (aZ p))=some (.agg (aZ p)):=fun H=>by rw [fJ,cB (dt p)]
     refine ak.L1_step ?_
     simp only [hix,aa,shp,List.drop_zero,lp,fR,List.length_map,b8,hlt,decide_true,aj,if_true,hix2,lpt,bl]
     obtain ⟨o,ho⟩:∃ o,o=Hx.n:=⟨_,rfl⟩
     have st:stA 6 (Hx.new (.cells [.lit (.int .i64 0),.lit (.string ⟨#[]⟩),.lit (.slice none 0 0),.lit (.slice none 0 0),.lit (.slice none 0 0),.lit (.slice none 0 0)] true)) (.ptr Hx.n 0) (.agg (aZ p))=some ((Hx.new (.cells [.lit (.int .i64 0),.lit (.string ⟨#[]⟩),.lit (.slice none 0 0),.lit (.slice none 0 0),.lit (.slice none 0 0),.lit (.slice none 0 0)] true)).set Hx.n (some (.cells (aZ p) true))):=by
      rw [fC,az,if_pos rfl,if_pos (dt p),cp,if_pos ⟨by rw [dt]; show 0+6≤6; omega,B0 p⟩,aS (by rw [dt]; rfl)]
     rw [st,aa,← ho]
     have hco:=ls.lt
     have ls2:∀ cs:List AV,LoS c (iq (t.take k)) x ((Hx.new (.cells [.lit (.int .i64 0),.lit (.string ⟨#[]⟩),.lit (.slice none 0 0),.lit (.slice none 0 0),.lit (.slice none 0 0),.lit (.slice none 0 0)] true)).set o (some (.cells cs true))):=fun cs =>
      ⟨by rw [ax,if_neg (by omega),az,if_neg (by omega)]; exact ls.gc,by simp; omega,ls.g.keep (fun j hj=>by have:=ls.g.lt hj; rw [ax,if_neg (by omega),az,if_neg (by omega)]) (by simp),ls.w⟩
     have J2:∀ (Hy:Hp),LoS c (iq (t.take k)) x Hy→Hy.get o=some (.cells (aZ (ov p)) true)→ak.J2 σ K (nds L) (dw L d) (sls m) (I (i:Int)) (.ptr c 0) (I (k:Int)) (.ptr o 0) y15 Hy:=by
      intro Hy lsy go
      refine ak.J2_step ?_
      have lx:ldA false 1 Hy (.ptr c (0+0))=some x:=by rw [bA,lsy.gc]; rfl
      have lo:ldA true 6 Hy (.ptr o 0)=some (.agg (aZ (ov p))):=by rw [bA,go,bK,List.drop_zero,cB (dt _)]
      have eb:au [.int .i64 0,.string ⟨#[]⟩,.slice none 0 0,.slice none 0 0,.slice none 0 0,.slice none 0 0] 6 1 Hy [(0,6,.agg (aZ (ov p)))]=some (.sl Hy.n 0 6 1 (some 1),Hy.new (.cells (aZ (ov p)) true)):=kY (x:=.agg (aZ (ov p))) (dt _) rfl
      rw [bx,aa,lx,aa,lo,aa,eb,aa]
      refine lsy.app (by unfold iq; rw [List.length_map,List.length_take]; have:=hfit1.1; omega) (ov p) fun x' H' ls'=>?_
      rw [co,aa,bW (by omega)]
      refine ihg (k+1) c x' _ _ H' (by omega) (by omega) ?_
      have:iq (t.take (k+1))=iq (t.take k)++[ov p]:=by
       unfold iq
       rw [← List.map_singleton,← List.map_append,List.take_add_one,hp]
       rfl
      rw [this]
      exact ls'
     have go:∀ cs:List AV,((Hx.new (.cells [.lit (.int .i64 0),.lit (.string ⟨#[]⟩),.lit (.slice none 0 0),.lit (.slice none 0 0),.lit (.slice none 0 0),.lit (.slice none 0 0)] true)).set o (some (.cells cs true))).get o=some (.cells cs true):=fun cs=>by rw [ax,if_pos rfl]
     have g0:=go (aZ p)
     have l0:=ls2 (aZ p)
     generalize ((Hx.new (.cells [.lit (.int .i64 0),.lit (.string ⟨#[]⟩),.lit (.slice none 0 0),.lit (.slice none 0 0),.lit (.slice none 0 0),.lit (.slice none 0 0)] true)).set o (some (.cells (aZ p) true)))=Hy at g0 l0 ⊢
     have lc:ldA false 1 Hy (.ptr o (0+0))=some (I p.comb):=by rw [bA,g0,dy]; rfl
     have hne:o≠c:=by omega
     have wr1:∀ (v:Int),mM p.comb=v→bnd (ae (.ptr o 0) 0) fun x17=>bnd (stA 1 Hy x17 (I v)) fun H18=>ak.J2 σ K (nds L) (dw L d) (sls m) (I (i:Int)) (.ptr c 0) (I (k:Int)) (.ptr o 0) y15 H18:=by
      intro v hv
      have st1:stA 1 Hy (.ptr o (0+0)) (I v)=some (Hy.set o (some (.cells ((aZ p).set (0+0) (I v)) true))):=fS g0 rfl rfl rfl (by rw [dt]; omega)
      rw [bx,aa,st1,aa]
      have ec:(aZ p).set (0+0) (I v)=aZ (ov p):=by
       rw [dy,dy]
       show I v::bZ p.c=I (mM p.comb)::bZ p.c
       rw [hv]
      rw [ec]
      refine J2 _ ⟨by rw [ax,if_neg (Ne.symm hne)]; exact l0.gc,by simpa using l0.lt,l0.g.keep (fun j hj=>?_) (by simp),l0.w⟩ (by rw [ax,if_pos rfl])
      have:j<o∨o<j∨j=o:=by omega
      by_cases hjo:j=o
      ·have:=ls.g.lt (j:=j) hj; omega
      ·rw [ax,if_neg hjo]
     rw [bx,aa,lc,aa,bT,aa,aj]
     split
     ·rename_i h
      exact wr1 1 (by unfold mM; rw [if_pos (of_decide_eq_true h)])
     ·rename_i h
      have h:¬ p.comb=2:=by simpa using h
      rw [bT,aa,aj]
      split
      ·rename_i h3
       exact wr1 4 (by unfold mM; rw [if_neg h,if_pos (of_decide_eq_true h3)])
      ·rename_i h3
       have h3:¬ p.comb=3:=by simpa using h3
       refine J2 Hy l0 ?_
       have:ov p=p:=by
        unfold ov mM
        rw [if_neg h,if_neg h3]
        cases p; rfl
       rw [this]
       exact g0
   refine L1 _ 0 H.n (.lit (.slice none 0 0)) _ _ _ rfl (Nat.zero_le _) ⟨by rw [az,if_pos rfl],by simp,.nil,fun _ h=>h.elim⟩
 exact L0 _ 0 _ _ _ _ _ rfl (Nat.zero_le _)
end
theorem MatchLoose_walk {H:Type} {enc:TypeId × Value→H} (W:World) (hsh:W.ShapedOpen Try.prog) {v0 v1:Value} {r:Reach} {b0 base:Nat} {spare:Nat→Bool} {held:Bool} {d0 d1:DataW H} {p0 p1:List MemPlace}
  (e0:Value.okWide Try.prog W r b0 de v0) (h0:DataW.Trod enc Try.prog W base spare held de v0 d0 p0) (w0:∀ n ∈ d0.weights Try.prog de,n≤reachBytes)
  (e1:Value.okWide Try.prog W r b0 dI v1) (h1:DataW.Trod enc Try.prog W base spare held dI v1 d1 p1) (w1:∀ n ∈ d1.weights Try.prog dI,n≤reachBytes) :
  Calls Try.prog eB #[v0,v1] W fun e W'=>e=.returned (.bool true)∧Below W.heap.size W W':=by
 obtain ⟨x0,r0,s0⟩:=tU (P:=Try.prog) (ti:=tiT.get) (S:=yz) (t:=de) (σ:=HQ) uk mD (k_ (by kernel_rfl)) e0 h0 w0
 obtain ⟨x1,r1,s1⟩:=tU (P:=Try.prog) (ti:=tiT.get) (S:=yz) (t:=dI) (σ:=HQ) uk mD (k_ (by kernel_rfl)) e1 h1 w1
 obtain ⟨a,rfl,ha,_⟩:=D9 s0
 obtain ⟨s,rfl,hs⟩:=Jt s1
 obtain ⟨Hf,hg⟩:=oz (KH Bh) ha
 exact sU (Jk r0 r1) hg (Du W hsh Bh)
end Go.Proofs.Ythmaggcfghjmfaa.Ev
