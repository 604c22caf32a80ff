/- The walks, part 2: the evaluator, the functions, the laws. Conditions: none. -/
import Derived.Test.YtegioimlblnajaaGreatZ1
namespace Go.Proofs.YtegioimlblnajaaGreat.Ev
open Go.RowKit (Below)
set_option linter.unusedVariables false
set_option linter.unusedSimpArgs false
set_option linter.unusedSectionVars false
theorem tQ {ti:Nat→Option TI} {t:Nat} {i:TI} (h:ti t=some i) (H:Hp) (x:AV):kM ti H t x=ldA i.d.agg i.size H x:=by
 unfold kM ldA; rw [h]; rfl
theorem mr {ti:Nat→Option TI} {t:Nat} {j:TI} (h:ti t=some j) (cs:List AV) (off:Nat):lD ti t cs off=Lw j.d.agg off j.size cs:=by
 unfold lD Lw; simp only [h]
theorem u5 {ti:Nat→Option TI} {s t e:Nat} {a b z:_} {j i:TI} {str:Bool} (hs:ti s=some ⟨.slice e,a,b,z⟩) (ht:ti t=some j) (he:ti e=some i) (hstr:uW j.d=some str) (hz:Nat.beq i.zero.length i.size=true) (H:Hp) (x y:AV) :
  mq ti H s t x y=eC str i.size i.bytes H x y:=by
 unfold mq eC
 rw [hs,ht]
 simp only [he,hz,Bool.true_and]
 have:rT j.d y=bif str then lF y else iZ y:=by
  cases hd:j.d<;>rw [hd] at hstr<;>simp only [uW,Option.some.injEq,reduceCtorEq] at hstr<;>subst hstr<;>rfl
 rw [this]
 cases str<;>rfl
theorem vA {ti:Nat→Option TI} {keys:Nat→Option (List KK)} {op:BinOp} {t:Nat} {x y v:AV} (h:aj op x y=some v):mG ti keys op t x y=some v:=by
 unfold aj at h
 unfold mG
 split at h
 ·rename_i a b ha hb
  rw [ha,hb]
  simp only
  split at h
  ·rename_i u hu; cases h; rw [hu]
  ·cases h
 ·cases h
theorem rE {op:BinOp} {a b:Value} (h:∀ k n,a≠.int k n) (h':∀ s,a≠.string s):fH op a b=none:=by
 unfold fH
 split
 ·exact absurd rfl (h _ _)
 ·exact absurd rfl (h' _)
 ·rfl
theorem k_ {ti:Nat→Option TI} {keys:Nat→Option (List KK)} {op:BinOp} {t:Nat} {x y v:AV} {b:Bool} (hx:∀ k n,x≠.lit (.int k n)) (hx2:∀ s,x≠.lit (.string s)) (hx3:toI x=none) (hx4:toS x=none)
  (h:eqA ti keys t x y=some (.lit b)) (hv:tfB op b=some v):mG ti keys op t x y=some v:=by
 have e2:zr op x y=none:=by
  unfold zr
  rw [hx3,hx4]
 unfold mG
 split
 ·rename_i u hu
  split at hu
  ·rename_i a b ha hb
   rw [rE (fun k n e=>?_) (fun s e=>?_)] at hu
   ·cases hu
   ·subst e; cases x<;>simp [lit?] at ha; exact hx _ _ (by rw [ha])
   ·subst e; cases x<;>simp [lit?] at ha; exact hx2 _ (by rw [ha])
  ·cases hu
 rw [e2]
 simp only
 cases op<;>simp only [tfB,Option.some.injEq,reduceCtorEq] at hv<;>subst hv<;>simp only [h]<;>rfl
theorem wW {ti:Nat→Option TI} {keys:Nat→Option (List KK)} {op:BinOp} {t:Nat} {a b z} {x y v:AV} (ht:ti t=some ⟨.bool,a,b,z⟩) (h:kX op x y=some v):mG ti keys op t x y=some v:=by
 unfold kX at h
 split at h
 ·exact k_ (by simp) (by simp) rfl rfl (by unfold eqA; rw [ht]) h
 ·cases h
theorem DW {ti:Nat→Option TI} {keys:Nat→Option (List KK)} {op:BinOp} {t e:Nat} {a b z} {x y v:AV} (ht:ti t=some ⟨.ptr e,a,b,z⟩) (h:fB op x y=some v):mG ti keys op t x y=some v:=by
 unfold fB at h
 split at h<;>first
  | (exact k_ (by simp) (by simp) rfl rfl (by unfold eqA; rw [ht]) h)
  | cases h
theorem Lu {ti:Nat→Option TI} {keys:Nat→Option (List KK)} {op:BinOp} {t e:Nat} {a b z} {x y v:AV} (ht:ti t=some ⟨.slice e,a,b,z⟩) (h:mT op x y=some v):mG ti keys op t x y=some v:=by
 unfold mT at h
 split at h<;>first
  | (exact k_ (by simp) (by simp) rfl rfl (by unfold eqA; rw [ht]) h)
  | cases h
theorem Md {ti:Nat→Option TI} {keys:Nat→Option (List KK)} {op:BinOp} {t:Nat} {a b z} {x y v:AV} (ht:ti t=some ⟨.func,a,b,z⟩) (h:lI op x y=some v):mG ti keys op t x y=some v:=by
 unfold lI at h
 split at h<;>first
  | (exact k_ (by simp) (by simp) rfl rfl (by unfold eqA; rw [ht]) h)
  | cases h
theorem JI {ti:Nat→Option TI} {keys:Nat→Option (List KK)} {op:BinOp} {t k e:Nat} {a b z} {x y v:AV} (ht:ti t=some ⟨.map k e,a,b,z⟩) (h:xV op x y=some v):mG ti keys op t x y=some v:=by
 unfold xV at h
 split at h<;>first
  | (exact k_ (by simp) (by simp) rfl rfl (by unfold eqA; rw [ht]) h)
  | cases h
theorem rM:∀ {ks:List KK} {xs ys:List AV} {b:Bool},eqC ks xs ys=some b→dJ ks xs ys=some (.lit b)
 | ks,xs,ys,b,h=>by
  unfold eqC at h
  split at h
  ·cases h; rfl
  ·rename_i k ks k1 a xs k2 b' ys
   cases hk:(decide (k=k1)&&decide (k=k2)) with
   | false=>rw [hk] at h; cases h
   | true =>
    rw [hk] at h
    simp only [cond_true,Option.map_eq_some_iff] at h
    obtain ⟨r,hr,rfl⟩:=h
    have:=rM hr
    simp only [dJ,toI,hk,cond_true,this,Option.map_some,eqI]
    congr 1
    cases decide (a=b')<;>cases r<;>rfl
  ·simp only [Option.map_eq_some_iff] at h
   obtain ⟨r,hr,rfl⟩:=h
   have:=rM hr
   rename_i a _ b' _ 
   simp only [dJ,this,Option.map_some]
   congr 1
   cases (a == b')<;>cases r<;>rfl
  ·simp only [Option.map_eq_some_iff] at h
   obtain ⟨r,hr,rfl⟩:=h
   have:=rM hr
   rename_i a _ b' _ 
   simp only [dJ,toS,this,Option.map_some,eqS]
   congr 1
   cases jv a b'<;>cases r<;>rfl
  ·cases h
theorem Jy {x:AV} (h:d6 x=true):toI x=none∧toS x=none:=by
 cases x<;>first | exact ⟨rfl,rfl⟩ | skip
 ·rename_i v; cases v<;>first | exact ⟨rfl,rfl⟩ | (simp [d6] at h)
 ·simp [d6] at h
 ·simp [d6] at h
theorem sE {ti:Nat→Option TI} {keys:Nat→Option (List KK)} {op:BinOp} {t:Nat} {i:TI} {ks:List KK} {x y v:AV} (ht:ti t=some i) (hd:(∃ fs,i.d=.struct fs)∨∃ n e,i.d=.array n e) (hk:keys t=some ks) (h:sn ks op x y=some v):mG ti keys op t x y=some v:=by
 unfold sn at h
 cases ha:(d6 x&&d6 y) with
 | false=>rw [ha] at h; cases h
 | true =>
  rw [ha] at h
  simp only [cond_true] at h
  split at h
  ·rename_i b hb
   have hb:=rM hb
   have hax:d6 x=true:=by cases hh:d6 x with | true=>rfl | false=>rw [hh] at ha; cases ha
   refine k_ (b:=b) (by rintro k n rfl; cases hax) (by rintro s rfl; cases hax) (Jy hax).1 (Jy hax).2 ?_ h
   obtain ⟨d,sz,by',z⟩:=i
   rcases hd with ⟨fs,hd⟩ | ⟨n,e,hd⟩
   ·simp only at hd; subst hd
    unfold eqA; rw [ht]; simp only [hk,ha,cond_true,hb]
   ·simp only at hd; subst hd
    unfold eqA; rw [ht]; simp only [hk,ha,cond_true,hb]
  ·cases h
theorem kZ {dR:Nat→Option (Nat × Nat)} {T:List AV}:∀ {ps:List (Nat × Operand)} {z l:List AV},cR z (qg dR T ps)=some l→nU dR z (ps.map fun p=>(p.1,evO T p.2))=some l
 | [],z,l,h=>h
 | (i,x)::r,z,l,h=>by
  simp only [qg] at h
  simp only [List.map_cons,nU]
  cases hp:dR i with
  | none=>rw [hp] at h; simp [cR,AV.cells,AV.isAny] at h
  | some p =>
   obtain ⟨o,s⟩:=p
   rw [hp] at h
   simp only [cR] at h ⊢
   cases hc:(Nat.beq (evO T x).cells.length s&&(Nat.ble (o+(evO T x).cells.length) z.length&&!(evO T x).isAny)) with
   | false=>rw [hc] at h; cases h
   | true=>rw [hc] at h; simp only [cond_true] at h ⊢; exact kZ h
theorem vL (i:TI) (n:Nat):iB i n=iG i.zero n:=rfl
theorem yp {ti:Nat→Option TI} {t e:Nat} {i j:TI} (ht:ti t=some i) (hd:i.d=.slice e) (he:ti e=some j) (H:Hp) (x:AV) (lo hi mx:Option Int):gI ti H t x lo hi mx=n9 j.size x lo hi mx:=by
 obtain ⟨d,s,b,z⟩:=i
 simp only at hd; subst hd
 unfold gI
 rw [ht]
 simp only [he]
 rfl
theorem jb {T:List AV} (o:Option Operand):dv T o=sg (o.map (evO T)):=by
 cases o<;>rfl
theorem ub {ti:Nat→Option TI} {H:Hp} {si:TI} {e:Nat} {a b z} {x y:AV} (hs:si.d=.slice e) (he:ti e=some ⟨.int .u8,a,b,z⟩) (hc:jh H x=some y):ic ti H si x=some y:=by
 unfold jh at hc
 unfold ic
 rw [hs]
 simp only [he]
 split at hc
 ·cases hc; rfl
 ·cases hc
 ·rename_i hx hy
  have:lF x=false:=by
   cases x<;>first | rfl | skip
   rename_i v
   cases v<;>first | rfl | skip
   exact absurd rfl (hy _)
  split
  ·rename_i a b; exact absurd rfl (hx _ _)
  ·rename_i hz; simp only [this,cond_false]; exact hc
section
variable {P:Program} (C:Ctx P)
theorem uN {T:List AV} {H:Hp} {oper:Oper} {K:AV→Hp→Prop} (h:opK C T H oper.op K):∃ x H1,K x H1∧(bT C.ti C.keys C.as T H oper=some (x,H1)∨(dx oper.op=false∧Op1 C T H oper x H1)):=by
 obtain ⟨dst,o,ty,pos,after,guard⟩:=oper
 simp only at h
 unfold opK at h
 split at h
 ·exact ⟨_,_,h,.inl rfl⟩
 ·exact ⟨_,_,h,.inl rfl⟩
 ·rename_i c a b
  obtain ⟨x,hx,hk⟩:=bI h
  unfold DY at hx
  split at hx
  ·rename_i t ht
   cases hx
   exact ⟨_,_,hk,.inl (by simp only [bT,ht,tn])⟩
  ·cases hx
 ·rename_i t
  obtain ⟨i,hi,hk⟩:=bY h
  exact ⟨_,_,hk,.inl (by simp only [bT,qh,hi])⟩
 ·rename_i t x
  unfold dN at h
  cases ha:(evO T x).isAny with
  | true=>rw [ha] at h; exact h.elim
  | false=>rw [ha] at h; exact ⟨_,_,h,.inl (by simp only [bT,ha,cond_false])⟩
 ·rename_i t ps
  obtain ⟨i,hi,hk⟩:=bY h
  split at hk
  ·rename_i dR hp
   obtain ⟨l,hl,hk⟩:=bI hk
   exact ⟨_,_,hk,.inl (by simp only [bT,rO,hi,hp,kZ hl,Option.map_some])⟩
  ·exact hk.elim
 ·rename_i t n ps
  obtain ⟨i,hi,hk⟩:=bY h
  split at hk
  case h_2=>exact hk.elim
  rename_i e he
  obtain ⟨j,hj,hk⟩:=bY hk
  split at hk
  case h_2=>exact hk.elim
  rename_i hb
  obtain ⟨p,hp,hk⟩:=bI hk
  obtain ⟨d,s,b,z⟩:=i
  simp only at he; subst he
  unfold cw at hp
  split at hp
  case h_2=>cases hp
  rename_i cs hcs
  cases hq:Nat.beq cs.length (n*j.size) with
  | false=>rw [hq] at hp; cases hp
  | true =>
   rw [hq] at hp; cases hp
   refine ⟨_,_,hk,.inl ?_⟩
   simp only [bT,gg,hi,hj,hb,cond_true,vL,kZ hcs,hq]
 ·rename_i t a
  obtain ⟨i,hi,hk⟩:=bY h
  obtain ⟨x,hx,hk⟩:=bI hk
  exact ⟨_,_,hk,.inl (by simp only [bT,tQ hi,hx,Option.map_some])⟩
 ·rename_i t a x
  obtain ⟨i,hi,hk⟩:=bY h
  obtain ⟨H1,hx,hk⟩:=bI hk
  unfold stA at hx
  refine ⟨_,_,hk,.inl ?_⟩
  simp only [bT,hi]
  cases hc:(Nat.beq (evO T x).cells.length i.size&&!(evO T x).isAny) with
  | false=>rw [hc] at hx; cases hx
  | true=>rw [hc] at hx; simp only [cond_true] at hx ⊢; rw [hx]; rfl
 ·rename_i x
  obtain ⟨y,hy,hk⟩:=bI h
  refine ⟨_,_,hk,.inl ?_⟩
  unfold ao at hy
  simp only [bT]
  split at hy<;>first | (cases hy; rename_i e; rw [e]) | cases hy
 ·rename_i op t x y t2
  obtain ⟨i,hi,hk⟩:=bY h
  have fin:∀ v,mG C.ti C.keys op t (evO T x) (evO T y)=some v→K v H→∃ x_1 H1,K x_1 H1∧(bT C.ti C.keys C.as T H ⟨dst,.binOp op t x y t2,ty,pos,after,guard⟩=some (x_1,H1)∨(dx (.binOp op t x y t2)=false∧Op1 C T H ⟨dst,.binOp op t x y t2,ty,pos,after,guard⟩ x_1 H1)) :=
   fun v hv hk=>⟨_,_,hk,.inl (by simp only [bT,hv,Option.map_some])⟩
  obtain ⟨d,s,b,z⟩:=i
  split at hk
  ·obtain ⟨v,hv,hk⟩:=bI hk; exact fin v (vA hv) hk
  ·obtain ⟨v,hv,hk⟩:=bI hk; exact fin v (vA hv) hk
  ·rename_i hd; simp only at hd; subst hd; obtain ⟨v,hv,hk⟩:=bI hk; exact fin v (wW hi hv) hk
  ·rename_i hd; simp only at hd; subst hd; obtain ⟨v,hv,hk⟩:=bI hk; exact fin v (DW hi hv) hk
  ·rename_i hd; simp only at hd; subst hd; obtain ⟨v,hv,hk⟩:=bI hk; exact fin v (Lu hi hv) hk
  ·rename_i hd; simp only at hd; subst hd; obtain ⟨v,hv,hk⟩:=bI hk; exact fin v (Md hi hv) hk
  ·rename_i hd; simp only at hd; subst hd; obtain ⟨v,hv,hk⟩:=bI hk; exact fin v (JI hi hv) hk
  ·rename_i fs hd
   split at hk
   ·rename_i ks hks; obtain ⟨v,hv,hk⟩:=bI hk; exact fin v (sE hi (.inl ⟨_,hd⟩) hks hv) hk
   ·exact hk.elim
  ·rename_i n e hd
   split at hk
   ·rename_i ks hks; obtain ⟨v,hv,hk⟩:=bI hk; exact fin v (sE hi (.inr ⟨_,_,hd⟩) hks hv) hk
   ·exact hk.elim
  ·exact hk.elim
 ·rename_i op t x
  obtain ⟨v,hv,hk⟩:=bI h
  refine ⟨_,_,hk,.inl ?_⟩
  unfold unR at hv
  simp only [bT]
  split at hv
  ·rename_i v' hv'
   rw [hv']
   simp only
   split at hv
   ·rename_i u hu; cases hv; rw [hu]; rfl
   ·cases hv
  ·cases hv
 ·rename_i s d x
  obtain ⟨si,hsi,hk⟩:=bY h
  obtain ⟨di,hdi,hk⟩:=bY hk
  have fin:∀ p,mZ C.ti H s d (evO T x)=some p→K p.1 p.2→∃ x_1 H1,K x_1 H1∧(bT C.ti C.keys C.as T H ⟨dst,.convert s d x,ty,pos,after,guard⟩=some (x_1,H1)∨(dx (.convert s d x)=false∧Op1 C T H ⟨dst,.convert s d x,ty,pos,after,guard⟩ x_1 H1)) :=
   fun p hp hk=>⟨_,_,hk,.inl (by simp only [bT,hp])⟩
  split at hk
  ·rename_i k hd
   obtain ⟨v,hv,hk⟩:=bI hk
   refine fin (v,H) ?_ hk
   unfold HX at hv
   split at hv
   ·rename_i k' n hx; cases hv; simp only [mZ,hsi,hdi,hd,hx]
   ·cases hv
  ·rename_i hd
   split at hk
   ·rename_i hs
    obtain ⟨v,hv,hk⟩:=bI hk
    refine fin (v,H) ?_ hk
    unfold IC at hv
    split at hv
    ·rename_i b hx; cases hv; simp only [mZ,hsi,hdi,hd,hx]
    ·cases hv
   ·rename_i e hs
    split at hk
    ·rename_i a b z he
     obtain ⟨v,hv,hk⟩:=bI hk
     refine fin (v,H) ?_ hk
     have h1:=ub (ti:=C.ti) hs he hv
     have:lF (evO T x)=false:=by
      cases hx:evO T x<;>first | rfl | skip
      rename_i v
      cases v<;>first | rfl | skip
      rw [hx] at hv; simp [jh] at hv
     simp only [mZ,hsi,hdi,hd]
     split
     ·rename_i b hx; rw [hx] at this; cases this
     ·rw [h1]; rfl
    ·exact hk.elim
   ·exact hk.elim
  ·rename_i e hd
   split at hk
   ·rename_i a b z he
    split at hk
    ·split at hk
     ·rename_i hsd
      obtain ⟨p,hp,hk⟩:=bI hk
      refine fin p ?_ hk
      unfold F7 at hp
      split at hp
      ·rename_i hx
       split at hp
       ·rename_i hg; cases hp; simp only [mZ,hsi,hdi,hd,hx,he,hg,hsd,cond_true]
       ·cases hp
      ·cases hp
     ·exact hk.elim
    ·obtain ⟨p,hp,hk⟩:=bI hk
     refine fin p ?_ hk
     unfold iK at hp
     split at hp
     ·rename_i b hx; cases hp; simp only [mZ,hsi,hdi,hd,hx,he]
     ·cases hp
   ·exact hk.elim
  ·exact hk.elim
 ·rename_i fn first caps
  split at h
  ·exact ⟨_,_,h,.inl rfl⟩
  ·exact h.elim
 ·rename_i t l c
  obtain ⟨i,hi,hk⟩:=bY h
  split at hk
  case h_2=>exact hk.elim
  rename_i e he
  obtain ⟨j,hj,hk⟩:=bY hk
  obtain ⟨p,hp,hk⟩:=bI hk
  obtain ⟨d,s,b,z⟩:=i
  simp only at he; subst he
  refine ⟨_,_,hk,.inl ?_⟩
  unfold lE at hp
  simp only [bT,jV,hi]
  split at hp
  ·rename_i l' c' hl hc
   rw [hl,hc]
   simp only [hj]
   cases hcond:(decide (0≤l')&&(decide (l'≤c')&&(Nat.ble c'.toNat 9223372036854775807&&Nat.ble (j.bytes*c'.toNat) 281474976710656))) with
   | false=>rw [hcond] at hp; cases hp
   | true=>rw [hcond] at hp; cases hp; rfl
  ·cases hp
 ·rename_i t x lo hi mx
  obtain ⟨i,hi',hk⟩:=bY h
  have fin:∀ v,(match dv T lo,dv T hi,dv T mx with | some lo,some hi,some mx=>(gI C.ti H t (evO T x) lo hi mx).map fun y=>(y,H) | _,_,_=>none)=some (v,H)→K v H→∃ x_1 H1,K x_1 H1∧(bT C.ti C.keys C.as T H ⟨dst,.slice t x lo hi mx,ty,pos,after,guard⟩=some (x_1,H1)∨(dx (.slice t x lo hi mx)=false∧Op1 C T H ⟨dst,.slice t x lo hi mx,ty,pos,after,guard⟩ x_1 H1)) :=
   fun v hv hk=>⟨_,_,hk,.inl (by simp only [bT]; exact hv)⟩
  split at hk
  ·rename_i hd
   split at hk
   ·obtain ⟨v,hv,hk⟩:=bI hk
    refine fin v ?_ hk
    unfold MH at hv
    rw [jb,jb]
    split at hv
    ·rename_i l h' hl hh
     rw [hl,hh]
     obtain ⟨d,s,b,z⟩:=i
     simp only at hd; subst hd
     split at hv
     ·rename_i s hs
      simp only [dv,gI,hi',hs,hv,Option.map_some]
     ·cases hv
    ·cases hv
   ·exact hk.elim
  ·rename_i e hd
   obtain ⟨j,hj,hk⟩:=bY hk
   obtain ⟨v,hv,hk⟩:=bI hk
   refine fin v ?_ hk
   unfold qr at hv
   rw [jb,jb,jb]
   split at hv
   ·rename_i l h' m hl hh hm
    rw [hl,hh,hm]
    simp only [yp hi' hd hj,hv,Option.map_some]
   ·cases hv
  ·rename_i n e hd
   obtain ⟨j,hj,hk⟩:=bY hk
   obtain ⟨v,hv,hk⟩:=bI hk
   refine fin v ?_ hk
   unfold MC at hv
   rw [jb,jb,jb]
   split at hv
   ·rename_i l h' m hl hh hm
    rw [hl,hh,hm]
    obtain ⟨d,s,b,z⟩:=i
    simp only at hd; subst hd
    have e:ge C.ti H n e (evO T x) l h' m=some v:=by unfold ge; rw [hj]; exact hv
    simp only [gI,hi',e,Option.map_some]
   ·cases hv
  ·exact hk.elim
 ·rename_i t x f
  obtain ⟨i,hi,hk⟩:=bY h
  split at hk
  case h_2=>exact hk.elim
  rename_i fs hd
  split at hk
  case h_2=>exact hk.elim
  rename_i off ft hf
  obtain ⟨j,hj,hk⟩:=bY hk
  split at hk
  ·exact hk.elim
  ·rename_i hb
   obtain ⟨y,hy,hk⟩:=bI hk
   obtain ⟨d,s,b,z⟩:=i
   simp only at hd; subst hd
   exact ⟨_,_,hk,.inl (by simp only [bT,jX,hi,hf,hj,hb,cond_false,hy,Option.map_some])⟩
 ·rename_i t x f
  obtain ⟨i,hi,hk⟩:=bY h
  split at hk
  case h_2=>exact hk.elim
  rename_i fs hd
  split at hk
  case h_2=>exact hk.elim
  rename_i off ft hf
  obtain ⟨j,hj,hk⟩:=bY hk
  obtain ⟨y,hy,hk⟩:=bI hk
  obtain ⟨d,s,b,z⟩:=i
  simp only at hd; subst hd
  refine ⟨_,_,hk,.inl ?_⟩
  unfold o9 at hy
  simp only [bT,rJ,hi,hf]
  split at hy
  ·rename_i cs hx; rw [hx]; simp only [mr hj,hy,Option.map_some]
  ·rename_i vs hx; rw [hx]; simp only [mr hj,hy,Option.map_some]
  ·cases hy
 ·rename_i t x i
  obtain ⟨ty',hi,hk⟩:=bY h
  obtain ⟨d,s,b,z⟩:=ty'
  split at hk
  ·rename_i n e hd
   simp only at hd; subst hd
   obtain ⟨j,hj,hk⟩:=bY hk
   obtain ⟨y,hy,hk⟩:=bI hk
   refine ⟨_,_,hk,.inl ?_⟩
   unfold jm at hy
   simp only [bT,iY,hi]
   split at hy
   ·rename_i k hk'; rw [hk']; simp only [hj,hy,Option.map_some]
   ·cases hy
  ·rename_i e hd
   simp only at hd; subst hd
   obtain ⟨j,hj,hk⟩:=bY hk
   obtain ⟨y,hy,hk⟩:=bI hk
   refine ⟨_,_,hk,.inl ?_⟩
   unfold aw at hy
   simp only [bT,iY,hi]
   split at hy
   ·rename_i k hk'; rw [hk']; simp only [hj]; exact congrArg (Option.map fun y=>(y,H)) hy
   ·cases hy
  ·exact hk.elim
 ·rename_i t x i
  obtain ⟨ty',hi,hk⟩:=bY h
  obtain ⟨d,s,b,z⟩:=ty'
  split at hk
  ·rename_i n e hd
   simp only at hd; subst hd
   obtain ⟨j,hj,hk⟩:=bY hk
   obtain ⟨y,hy,hk⟩:=bI hk
   refine ⟨_,_,hk,.inl ?_⟩
   unfold tL at hy
   simp only [bT,qj,hi]
   split at hy
   ·rename_i k hk'
    rw [hk']
    simp only [hj]
    cases hc:(decide (0≤k)&&decide (k<(n:Int))) with
    | false=>rw [hc] at hy; cases hy
    | true =>
     rw [hc] at hy
     simp only [cond_true] at hy ⊢
     unfold o9 at hy
     split at hy
     ·rename_i cs hx; rw [hx]; simp only [mr hj,hy,Option.map_some]
     ·rename_i vs hx; rw [hx]; simp only [mr hj,hy,Option.map_some]
     ·cases hy
   ·cases hy
  ·rename_i hd
   simp only at hd; subst hd
   obtain ⟨y,hy,hk⟩:=bI hk
   refine ⟨_,_,hk,.inl ?_⟩
   unfold MJ at hy
   simp only [bT,qj,hi]
   split at hy
   ·rename_i k hk'; rw [hk']; exact congrArg (Option.map fun y=>(y,H)) hy
   ·cases hy
  ·exact hk.elim
 ·rename_i x i
  obtain ⟨y,hy,hk⟩:=bI h
  refine ⟨_,_,hk,.inl ?_⟩
  unfold exR at hy
  simp only [bT]
  split at hy
  ·rename_i vs hx; rw [hx]; simp only [hy,Option.map_some]
  ·cases hy
 ·rename_i args ts
  split at h
  case h_2=>exact h.elim
  rename_i t x ht hargs
  obtain ⟨ty',hi,hk⟩:=bY h
  obtain ⟨d,s,b,z⟩:=ty'
  have fin:∀ v,rZ C.ti t (evO T x)=some v→K v H→∃ x_1 H1,K x_1 H1∧(bT C.ti C.keys C.as T H ⟨dst,.call ⟨.builtin .len,args,ts⟩,ty,pos,after,guard⟩=some (x_1,H1)∨(dx (.call ⟨.builtin .len,args,ts⟩)=false∧Op1 C T H ⟨dst,.call ⟨.builtin .len,args,ts⟩,ty,pos,after,guard⟩ x_1 H1)) :=
   fun v hv hk=>⟨_,_,hk,.inl (by simp only [bT,dW,ht,hargs,List.map_cons,List.map_nil,hv,Option.map_some])⟩
  split at hk
  ·rename_i hd
   simp only at hd; subst hd
   obtain ⟨v,hv,hk⟩:=bI hk
   refine fin v ?_ hk
   unfold kT at hv
   unfold rZ
   rw [hi]
   split at hv
   ·rename_i s hs; cases hv; rw [hs]
   ·cases hv
  ·rename_i e hd
   simp only at hd; subst hd
   obtain ⟨v,hv,hk⟩:=bI hk
   refine fin v ?_ hk
   unfold aM at hv
   unfold rZ
   rw [hi]
   split at hv<;>first | (rename_i hs; cases hv; rw [hs]) | cases hv
  ·rename_i n e hd
   simp only at hd; subst hd
   exact fin _ (by unfold rZ; rw [hi]) hk
  ·exact hk.elim
 ·rename_i args ts
  split at h
  case h_2=>exact h.elim
  rename_i t x ht hargs
  obtain ⟨ty',hi,hk⟩:=bY h
  obtain ⟨d,s,b,z⟩:=ty'
  split at hk
  ·rename_i e hd
   simp only at hd; subst hd
   obtain ⟨v,hv,hk⟩:=bI hk
   exact ⟨_,_,hk,.inl (by simp only [bT,dW,ht,hi,hargs,List.map_cons,List.map_nil,hv,Option.map_some])⟩
  ·exact hk.elim
 ·rename_i args ts
  split at h
  case h_2=>exact h.elim
  rename_i s t x y hargs
  obtain ⟨si,hsi,hk⟩:=bY h
  obtain ⟨tj,htj,hk⟩:=bY hk
  split at hk
  case h_2=>exact hk.elim
  rename_i e str hd hstr
  obtain ⟨i,hi,hk⟩:=bY hk
  split at hk
  case h_2=>exact hk.elim
  rename_i hz
  obtain ⟨p,hp,hkk⟩:=bI hk
  obtain ⟨d,s',b,z⟩:=si
  simp only at hd; subst hd
  exact ⟨_,_,hkk,.inl (by simp only [bT,dW,hargs,List.map_cons,List.map_nil,u5 hsi htj hi hstr hz,hp])⟩
 ·obtain ⟨v,hv,hk⟩:=bI h
  exact ⟨_,_,hk,.inl (by simp only [bT,dW,hv,Option.map_some])⟩
 ·obtain ⟨v,hv,hk⟩:=bI h
  exact ⟨_,_,hk,.inl (by simp only [bT,dW,hv,Option.map_some])⟩
 ·rename_i f args ts
  unfold jd at h
  split at h
  ·rename_i g caps hf
   obtain ⟨r,H1,hg,hk⟩:=h
   exact ⟨_,_,hk,.inr ⟨rfl,.call rfl hf hg⟩⟩
  ·rename_i id hf
   obtain ⟨r,H1,hg,hk⟩:=h
   exact ⟨_,_,hk,.inr ⟨rfl,.yield rfl hf hg⟩⟩
  ·exact h.elim
 ·exact ⟨_,_,h,.inr ⟨rfl,.sem (by intro c hc; cases hc) (uh C)⟩⟩
 ·rename_i t m k ok
  obtain ⟨i,hi,hk⟩:=bY h
  split at hk
  case h_2=>exact hk.elim
  rename_i kt et hd
  obtain ⟨ie,hie,hk⟩:=bY hk
  split at hk
  case h_2=>exact hk.elim
  rename_i ag ks z hmk hz
  obtain ⟨y,hy,hk⟩:=bI hk
  exact ⟨_,_,hk,.inr ⟨rfl,.sem (by intro c hc; cases hc) (mI C hi hd hie hmk hz hy)⟩⟩
 ·rename_i t m k v
  obtain ⟨i,hi,hk⟩:=bY h
  split at hk
  case h_2=>exact hk.elim
  rename_i kt et hd
  split at hk
  case h_2=>exact hk.elim
  rename_i ag ks hmk
  obtain ⟨y,hy,hk⟩:=bI hk
  exact ⟨_,_,hk,.inr ⟨rfl,.sem (by intro c hc; cases hc) (wo C hi hd hmk hy)⟩⟩
 ·exact h.elim
end
end Go.Proofs.YtegioimlblnajaaGreat.Ev
namespace Go.Proofs.YtegioimlblnajaaGreat.Ev
open Go.RowKit (Below)
set_option linter.unusedVariables false
set_option linter.unusedSimpArgs false
set_option linter.unusedSectionVars false
section
variable {P:Program} (C:Ctx P)
variable {B:Nat} {w0:fk} {E:Env} {H:Hp} {w:World}
theorem St.adopt {F1:Nat→Option Obj} (h:St B { w0 with F:=F1 } E H w) {b:Nat} {c:Array Value} {ty lo hi:Nat} (hF:F1 b=some (.cells c ty (lo,hi))) (hB:B≤b) (hl:hi=lo) {xs:List AV} (hx:bh E xs c) :
  E.Ext (E.put H.n (b,0,c.size))∧St B { w0 with F:=fun b'=>if b'=b then none else F1 b' } (E.put H.n (b,0,c.size)) (H.new (.cells xs true)) w:=by
 have hext:E.Ext (E.put H.n (b,0,c.size)):=Env.ext_put (h.dom _ (Nat.le_refl _))
 obtain ⟨hb1,hb2⟩:=h.fr b _ hF
 refine ⟨hext,h.below,h.size,h.ro,fun j hj=>?_,fun j hj=>?_,fun j l hl'=>?_,fun i j k' l hi hj hne p q hp hq=>?_,h.rob,fun b' x hx'=>?_,fun i k' hi p hp=>?_,h.sig,h.gl⟩
 ·simp only [Hp.n_new] at hj; simp only [Env.put]; rw [if_neg (by omega)]; exact h.dom j (by omega)
 ·simp only [Hp.n_new] at hj; rw [Hp.get_new,if_neg (by omega)]; exact h.hdom j (by omega)
 ·rw [Hp.get_new] at hl'
  split at hl'
  ·rename_i e; subst e; cases hl'
   refine ⟨b,0,c.size,by simp [Env.put],hB,hb2,c,ty,lo,hi,hb1,by simp,by have:=hx.len; omega,fun _=>by have:=hx.len; omega,.inl hl,fun j x hj=>?_⟩
   have hlt:j<c.size:=by have:=hx.len; have:=(List.getElem?_eq_some_iff.1 hj).1; omega
   exact ⟨c[j],by simp [hlt],(hx.at_ j x _ hj (by simp [hlt])).ext hext⟩
  ·obtain ⟨b',o',n',e,hb,hr,ok⟩:=h.live j l hl'
   exact ⟨b',o',n',hext.ρ _ _ e,hb,hr,ok.ext hext⟩
 ·rw [Hp.get_new] at hi hj
  simp only [Env.put] at hp hq
  split at hi
  ·rename_i ei
   rw [if_neg (by omega)] at hj
   rw [if_pos ei] at hp
   rw [if_neg (by omega)] at hq
   cases hp
   have:=h.frl j l hj q hq
   intro e
   have hF':F1 q.1=none:=this
   rw [← e,hF] at hF'
   cases hF'
  ·rename_i ei
   rw [if_neg ei] at hp
   split at hj
   ·rename_i ej
    rw [if_pos ej] at hq
    cases hq
    have:=h.frl i k' hi p hp
    intro e
    have hF':F1 p.1=none:=this
    rw [e,hF] at hF'
    cases hF'
   ·rename_i ej
    rw [if_neg ej] at hq
    exact h.disj i j k' l hi hj hne p q hp hq
 ·have hx2:(if b'=b then none else F1 b')=some x:=hx'
  split at hx2
  ·cases hx2
  ·exact h.fr b' x hx2
 ·show (if p.1=b then none else F1 p.1)=none
  split
  ·rfl
  ·rename_i hne
   rw [Hp.get_new] at hi
   simp only [Env.put] at hp
   split at hi
   ·rename_i ei
    rw [if_pos ei] at hp
    cases hp
    exact absurd rfl hne
   ·rename_i ei
    rw [if_neg ei] at hp
    exact h.frl i k' hi p hp
theorem wD {t:Nat} {i:TI} (ht:dC P t i) (w:World):(Instr.alloc t true (.tuple #[])).run P w=.ok (.pointer (some ⟨w.heap.size,0,none⟩)) { w with heap:=w.heap.push (.cells ht.z.cells t) }:=by
 have h1:(newRow t ht.z.cells).run P w=.ok ⟨w.heap.size,0,none⟩ { w with heap:=w.heap.push (.cells ht.z.cells t) }:=by simp [newRow]
 simp only [Instr.alloc,Sem.run_bind,ht.zeroValue,Result.andThen,newVar,h1]
 rfl
def sO (k:Option (Nat × Nat)) (id:Nat):AV:=match k with
 | none=>.ptr id 0
 | some (sz,n)=>.sl id 0 sz n (some n)
def fv (k:Option (Nat × Nat)) (b:Nat):Value:=match k with
 | none=>.pointer (some ⟨b,0,none⟩)
 | some (_,n)=>.slice (some ⟨b,0,none⟩) n n
theorem Gq {E:Env} {k:Option (Nat × Nat)} {id b m:Nat} (h:E.ρ id=some (b,0,m)) (hk:∀ sz n,k=some (sz,n)→m=n*sz):Rel E (sO k id) (fv k b):=by
 cases k with
 | none=>exact .ptr (off:=0) h
 | some p =>
  obtain ⟨sz,n⟩:=p
  have hm:=hk sz n rfl
  have:=Rel.sl (E:=E) (off:=0) (sz:=sz) (len:=n) (c:=n) (cap:=some n) h (fun k hk=>by cases hk; rfl) (Nat.le_refl _) (by omega)
  simpa [sO,fv] using this
def Mk (T:List AV) (o:Oper) (cs:List AV) (k:Option (Nat × Nat)):Prop :=
 (∀ c,o.op≠.defer c)∧(∀ sz n,k=some (sz,n)→cs.length=n*sz) ∧
 ∀ (E:Env) (T2:List AV) (a:Act),bh E T2 a.tmps→(∀ x ∈ o.op.operands,evO T x=evO T2 x)→∃ (c:Array Value) (ty:Nat),bh E cs c∧∀ w:World,(execOp a.eval o).run P w=.ok (.value (fv k w.heap.size)) { w with heap:=w.heap.push (.cells c ty (0,0)) }
theorem xH {T:List AV} {o:Oper} {t:Nat} {i:TI} (ho:o.op=.alloc t) (hi:C.ti t=some i):Mk (P:=P) T o (i.zero.map .lit) none:=by
 obtain ⟨ht⟩:=aG (C.hti _ _ hi)
 refine ⟨fun c h=>(by rw [ho] at h; cases h),fun sz n h=>(by cases h),fun E T2 a hT _=>⟨ht.z.cells,t,qi ht,fun w=>?_⟩⟩
 obtain ⟨dst,op,ty,pos,after,guard⟩:=o
 simp only at ho
 subst ho
 have e:execOp a.eval ⟨dst,.alloc t,ty,pos,after,guard⟩=(do pure (.value (← Instr.alloc t true (.tuple #[])))):=rfl
 rw [e,Sem.run_bind,wD ht w]
 rfl
theorem IG {T:List AV} {H:Hp} {o:Oper} {t n:Nat} {ps:Array (Nat × Operand)} {x:AV} {H':Hp} (ho:o.op=.buildSlice t n ps) (he:bT C.ti C.keys C.as T H o=some (x,H')):∃ cs k,Mk (P:=P) T o cs k∧x=sO k H.n∧H'=H.new (.cells cs true):=by
 obtain ⟨dst,op,ty,pos,after,guard⟩:=o
 simp only at ho
 subst ho
 simp only [bT] at he
 unfold gg at he
 split at he
 case h_2=>cases he
 rename_i e a b z htt
 obtain ⟨ht⟩:=aG (C.hti _ _ htt)
 have hd:=ht.slice
 split at he
 case h_2=>cases he
 rename_i i hi
 obtain ⟨ht2⟩:=aG (C.hti _ _ hi)
 cases hbb:Nat.ble (n*i.size) 16777216 with
 | false=>simp only [hbb,cond_false] at he; cases he
 | true =>
  simp only [hbb,cond_true] at he
  have hle:=Nat.le_of_ble_eq_true hbb
  split at he
  case h_2=>cases he
  rename_i cs hcs
  cases hc:Nat.beq cs.length (n*i.size) with
  | false=>simp only [hc,cond_false] at he; cases he
  | true =>
   simp only [hc,cond_true,Option.some.injEq,Prod.mk.injEq] at he
   obtain ⟨rfl,rfl⟩:=he
   have hc:=Nat.eq_of_beq_eq_true hc
   refine ⟨cs,some (i.size,n),⟨fun c h=>(by cases h),fun sz m h=>(by cases h; exact hc),fun E T2 ac hT hops=>?_⟩,rfl,rfl⟩
   have hz2:(if n*i.size=0 then #[] else ht2.z.cells)=ht2.z.cells∨n*i.size=0:=by
    by_cases h0:n*i.size=0
    ·exact .inr h0
    ·exact .inl (if_neg h0)
   have hpl:=mi hT ps.toList
   have hpe:(ps.toList.map fun p=>(p.1,evO T2 p.2))=(ps.toList.map fun p=>(p.1,evO T p.2)):=by
    refine List.map_congr_left fun p hp=>?_
    rw [hops p.2 (by simp [Op.operands]; exact ⟨p.1,by simpa using hp⟩)]
   rw [hpe] at hpl
   obtain ⟨us,h1,h2⟩:=oD (ps.toList.map fun p=>(p.1,evO T p.2)) (ps.map fun p=>(p.1,ac.eval p.2)).toList _ _ (kS (E:=E) ht2 (n*i.size) _ hz2) (by simpa using hpl) hcs
   refine ⟨us,e,h2,fun w=>?_⟩
   have hn:¬ (n*i.size > 2 ^ 24):=by simp; omega
   have g1:(newRow e us).run P w=.ok ⟨w.heap.size,0,none⟩ { w with heap:=w.heap.push (.cells us e) }:=by simp [newRow]
   rw [kd]
   simp only [Instr.buildSlice,Sem.run_bind,ht.underlying,hd,Result.andThen,ht2.sizeOf,hn,if_false]
   rw [lR ht2]
   simp only [h1,Sem.run_bind,Result.andThen,g1,Sem.run_pure]
   rfl
theorem nF {a:Act} {o:Option Tmp} {v:Value} {d:Nat} (h:o≠some d):(a.put o v).tmps[d]?=a.tmps[d]?:=by
 cases o with
 | none=>rfl
 | some e =>
  have:e≠d:=fun he=>h (by rw [he])
  simp only [Act.put,Array.getElem?_setIfInBounds]
  rw [if_neg this]
def nJ (H:Hp):List Blk→Hp
 | []=>H
 | b::r=>nJ (H.new b) r
theorem DJ:∀ (l:List Blk) (H:Hp),(nJ H l).n=H.n+l.length
 | [],H=>rfl
 | b::r,H=>by rw [nJ,DJ r,Hp.n_new,List.length_cons]; omega
structure PO (ops:Array Oper) (T0:List AV) (H0:Hp) (xs:Nat→AV) (hs:Nat→Hp) (louds free:List Nat) (q:Nat) (news:List Blk) (cf:Nat→List AV) (kf:Nat→Option (Nat × Nat)):Prop where
 h0:hs 0=H0
 hq:q<louds.length
 nof:∀ l ∈ louds,l ∉ free
 fnd:free.Nodup
 fr:∀ (j f:Nat),free[j]?=some f→∃ o d,ops[f]?=some o∧Mk (P:=P) (TT ops xs T0 f) o (cf f) (kf f)∧o.guard=none∧o.dst=some d∧xs f=sO (kf f) ((hs q).n+j)∧news[j]?=some (.cells (cf f) true)∧(d<T0.length→T0[d]?=some .any)
 newl:news.length=free.length
 each:∀ i o,ops[i]?=some o→i ∉ free →
  (c5 C.as ops (TT ops xs T0 i) o=some false∧xs i=.lit undef∧i ∉ louds) ∨
  (c5 C.as ops (TT ops xs T0 i) o=some true∧i ∉ louds∧∃ lo hi,lo≤louds.length∧(∀ k,lo≤k→k≤hi→Op1 C (TT ops xs T0 i) (hs k) o (xs i) (hs k)) ∧
   ∀ m l,louds[m]?=some l→(m<lo→bV ops i l=true)∧(hi≤m→bV ops l i=true)) ∨
  (c5 C.as ops (TT ops xs T0 i) o=some true∧∃ m,louds[m]?=some i∧Op1 C (TT ops xs T0 i) (if m=q then nJ (hs q) news else hs m) o (xs i) (hs (m+1)))
 ord:∀ m l l',louds[m]?=some l→louds[m+1]?=some l'→bV ops l' l=true
 lt:∀ l ∈ louds,l<ops.size
 pre:∀ f ∈ free,∀ l,louds[q]?=some l→bV ops l f=true
 late:∀ i o,ops[i]?=some o→∀ t ∈ o.looksAt ops,∀ f ∈ free,aN ops f=some t→∀ l,louds[q]?=some l→i=l∨bV ops i l=true
def eQ (free:List Nat) (q k:Nat) (listed:Array Bool) (i:Nat):Bool:=listed.getD i false&&(Nat.blt q k||!free.contains i)
structure rY (ops:Array Oper) (w0:fk) (B:Nat) (cf:Nat→List AV) (kf:Nat→Option (Nat × Nat)) (E:Env) (free:List Nat) (listed:Array Bool) (a:Act) (F:Nat→Option Obj) (gb:Nat→Nat):Prop where
 at_:∀ f ∈ free,listed.getD f false=true→∃ (o:Oper) (c:Array Value) (ty:Nat) (d:Nat),ops[f]?=some o∧o.dst=some d∧bh E (cf f) c∧F (gb f)=some (.cells c ty (0,0))∧B≤gb f∧(d<a.tmps.size→a.tmps[d]?=some (fv (kf f) (gb f)))
 inj:∀ f ∈ free,∀ f' ∈ free,listed.getD f false=true→listed.getD f' false=true→gb f=gb f'→f=f'
 up:∀ b o,w0.F b=some o→F b=some o
 off:∀ f ∈ free,listed.getD f false=true→w0.F (gb f)=none
theorem rY.ext {ops:Array Oper} {cf:Nat→List AV} {kf:Nat→Option (Nat × Nat)} {E E2:Env} {free:List Nat} {listed:Array Bool} {a:Act} {F:Nat→Option Obj} {gb:Nat→Nat} (hE:E.Ext E2) (h:rY ops w0 B cf kf E free listed a F gb):rY ops w0 B cf kf E2 free listed a F gb :=
 ⟨fun f hf hl=>by
  obtain ⟨o,c,ty,d,h1,h2,h3,h4⟩:=h.at_ f hf hl
  exact ⟨o,c,ty,d,h1,h2,h3.ext hE,h4⟩,h.inj,h.up,h.off⟩
theorem pz {ops:Array Oper} {cf:Nat→List AV} {kf:Nat→Option (Nat × Nat)} {E0:Env} {free:List Nat} {listed:Array Bool} {a:Act} {gb:Nat→Nat} {F0:Nat→Option Obj} (hh:rY ops w0 B cf kf E0 free listed a F0 gb) (hall:∀ f ∈ free,listed.getD f false=true) :
  ∀ (fs:List Nat) (news:List Blk) (E:Env) (H:Hp) (F:Nat→Option Obj),E0.Ext E→fs.Nodup→(∀ f ∈ fs,f ∈ free)→(∀ f ∈ fs,F (gb f)=F0 (gb f))→(∀ b o,w0.F b=some o→F b=some o)→news.length=fs.length →
   (∀ (j f:Nat),fs[j]?=some f→news[j]?=some (.cells (cf f) true)) →
   St B { w0 with F:=F } E H w→∃ E',E.Ext E'∧St B w0 E' (nJ H news) w∧∀ (j f:Nat),fs[j]?=some f→E'.ρ (H.n+j)=some (gb f,0,(cf f).length)
 | [],news,E,H,F,_,_,_,_,hup,hl,_,h=>by
  cases news with
  | nil=>exact ⟨E,.refl E,h.lessF hup,fun j f hj=>by simp at hj⟩
  | cons b r=>simp at hl
 | f::fs,news,E,H,F,hE0,hnd,hsub,hF,hup,hl,hnew,h=>by
  cases news with
  | nil=>simp at hl
  | cons b r =>
   have hb:=hnew 0 f rfl
   simp at hb
   subst hb
   have hff:=hsub f (by simp)
   obtain ⟨o',c,ty,d,ho',_,hrc,hFb,hBb,_⟩:=hh.at_ f hff (hall f hff)
   obtain ⟨h1,h2⟩:=h.adopt (b:=gb f) (c:=c) (ty:=ty) (lo:=0) (hi:=0) (by rw [hF f (by simp)]; exact hFb) hBb rfl (hrc.ext hE0)
   have hnd':=List.nodup_cons.1 hnd
   obtain ⟨E',e1,e2,e3⟩:=pz hh hall fs r _ _ _ (hE0.trans h1) hnd'.2 (fun g hg=>hsub g (by simp [hg])) (fun g hg=>by
    have hne:gb g≠gb f:=fun e=>by
     have:=hh.inj g (hsub g (by simp [hg])) f hff (hall _ (hsub g (by simp [hg]))) (hall _ hff) e
     subst this
     exact hnd'.1 hg
    show (if gb g=gb f then none else F (gb g))=_
    rw [if_neg hne]
    exact hF g (by simp [hg])) (fun b o hb=>by
    show (if b=gb f then none else F b)=some o
    rw [if_neg (fun e=>by rw [e,hh.off f hff (hall f hff)] at hb; cases hb)]
    exact hup b o hb) (by simpa using hl) (fun j g hg=>hnew (j+1) g (by simpa using hg)) h2
   refine ⟨E',h1.trans e1,e2,fun j g hg=>?_⟩
   cases j with
   | zero =>
    simp at hg
    subst hg
    have:=e1.ρ H.n (gb f,0,c.size) (by simp [Env.put])
    rw [hrc.len] at this
    simpa using this
   | succ j =>
    have hn:=e3 j g (by simpa using hg)
    rw [Hp.n_new] at hn; rw [show H.n+(j+1)=H.n+1+j by omega]; exact hn
theorem pC {ops:Array Oper} (hok:g9 ops=true) {louds:List Nat} (ord:∀ m l l',louds[m]?=some l→louds[m+1]?=some l'→bV ops l' l=true):∀ (d m l l':Nat),louds[m]?=some l→louds[m+(d+1)]?=some l'→l<l'
 | 0,m,l,l',h1,h2=>jy hok _ (ord m l l' h1 h2)
 | d+1,m,l,l',h1,h2=>by
  have hlt:=(List.getElem?_eq_some_iff.1 h2).1
  have hmid:louds[m+(d+1)]?=some louds[m+(d+1)]:=List.getElem?_eq_getElem (by omega)
  have h3:=pC hok ord d m l _ h1 hmid
  have h4:=jy hok _ (ord (m+(d+1)) _ _ hmid (by rw [show m+(d+1)+1=m+(d+1+1) by omega]; exact h2))
  omega
theorem CA (hm:P.follows .mixedOrders=true) {ops:Array Oper} (hst:yi ops) {T0:List AV} {H0:Hp} {xs:Nat→AV} {hs:Nat→Hp} {louds free:List Nat} {q:Nat} {news:List Blk} {cf:Nat→List AV} {kf:Nat→Option (Nat × Nat)} (hd:PO C ops T0 H0 xs hs louds free q news cf kf) :
  kE (P:=P) C.σ ops T0 H0 (TT ops xs T0 ops.size) (hs louds.length):=by
 intro B w0 E a w hσ hw hT Q hQ ro id
 refine wpIn_region_any hm ?_
 obtain ⟨lq,hlq⟩:∃ l,louds[q]?=some l:=⟨_,List.getElem?_eq_getElem hd.hq⟩
 have hlqf:lq ∉ free:=hd.nof lq (List.mem_of_getElem? hlq)
 have key:∀ (fuel:Nat) (listed:Array Bool) (a':Act) (w':World),listed.size=ops.size →
   ((List.range ops.size).filter fun i=>!listed.getD i false).length≤fuel →
   (∀ i o,listed.getD i false=true→ops[i]?=some o→∀ e ∈ o.after.toList,Region.binds .any e=true→listed.getD e.on false=true) →
   (∃ E' k F' gb,E.Ext E'∧k≤louds.length∧(∀ m l,louds[m]?=some l→(listed.getD l false=true ↔ m<k))∧St B { w0 with F:=F' } E' (hs k) w'∧(q<k→F'=w0.F)∧(k≤q→rY ops w0 B cf kf E' free listed a' F' gb) ∧
    bh E' (TS ops xs (eQ free q k listed) (List.range ops.size) T0) a'.tmps∧a'.defers=a.defers) →
   wpAnyIn (FW ro) 0 P .any ops Q fuel listed a' w':=by
  intro fuel
  have fin:∀ (listed:Array Bool) (a':Act) (w':World),listed.size=ops.size →
    (∀ i o,listed.getD i false=true→ops[i]?=some o→∀ e ∈ o.after.toList,Region.binds .any e=true→listed.getD e.on false=true) →
    (∃ E' k F' gb,E.Ext E'∧k≤louds.length∧(∀ m l,louds[m]?=some l→(listed.getD l false=true ↔ m<k))∧St B { w0 with F:=F' } E' (hs k) w'∧(q<k→F'=w0.F)∧(k≤q→rY ops w0 B cf kf E' free listed a' F' gb) ∧
     bh E' (TS ops xs (eQ free q k listed) (List.range ops.size) T0) a'.tmps∧a'.defers=a.defers) →
    Region.ready .any ops listed=[]→Q .normal a' w':=by
   intro listed a' w' hsz hcl hinv hrd
   have hall:∀ i,i<ops.size→listed.getD i false=true:=by
    intro i
    induction i using Nat.strongRecOn with
    | _ i ih =>
     intro hi
     cases hli:listed.getD i false with
     | true=>rfl
     | false =>
      exfalso
      have hmem:i ∈ Region.ready .any ops listed:=by
       unfold Region.ready
       rw [List.mem_filter]
       refine ⟨List.mem_range.2 hi,?_⟩
       have hli':listed.getD i true=false:=by
        rw [Array.getD_eq_getD_getElem?] at hli ⊢
        rw [Array.getElem?_eq_getElem (by omega)] at hli ⊢
        exact hli
       have hoi:ops[i]?=some ops[i]:=Array.getElem?_eq_getElem hi
       rw [hli',hoi]
       simp only [Bool.not_false,Bool.true_and,Option.map_some,Option.getD_some,Array.all_eq_true']
       intro e he
       cases hb:Region.binds .any e with
       | false=>rfl
       | true =>
        have hlt:e.on<i:=by
         have hok:=hst.edges
         unfold g9 at hok
         have hm:(ops[i],i) ∈ ops.toList.zipIdx:=by
          rw [List.mem_zipIdx_iff_getElem?]
          simp
         have:=List.all_eq_true.1 hok _ hm
         have:=List.all_eq_true.1 this e (by simpa using he)
         simp only [hb,cond_true] at this
         simpa [Nat.blt_eq] using this
        simp [ih _ hlt (by omega)]
      rw [hrd] at hmem
      cases hmem
   obtain ⟨E',k,F',gb,hE,hk,hlk,hS,hF,hH,hR,hdef⟩:=hinv
   have hkk:k=louds.length:=by
    rcases Nat.lt_or_ge k louds.length with h | h
    ·have:=(hlk k louds[k] (List.getElem?_eq_getElem h)).1 (hall _ (hd.lt _ (List.getElem_mem h)))
     omega
    ·omega
   subst hkk
   rw [hF hd.hq] at hS
   refine hQ E' a' w' hE hS ?_ hdef
   have:TS ops xs (eQ free q louds.length listed) (List.range ops.size) T0=TT ops xs T0 ops.size:=by
    unfold TT TS
    have:∀ (l:List Nat),(∀ i ∈ l,i<ops.size)→∀ T,l.foldl (fun T i=>bif eQ free q louds.length listed i then c_ T (aN ops i) (xs i) else T) T=l.foldl (fun T i=>bif true then c_ T (aN ops i) (xs i) else T) T:=by
     intro l
     induction l with
     | nil=>intro _ T; rfl
     | cons i l ih =>
      intro h T
      simp only [List.foldl_cons]
      have:eQ free q louds.length listed i=true:=by
       unfold eQ
       rw [hall i (h i (by simp)),show Nat.blt q louds.length=true from Nat.ble_eq_true_of_le hd.hq]
       rfl
      rw [this]
      exact ih (fun j hj=>h j (by simp [hj])) _
    exact this _ (fun i hi=>List.mem_range.1 hi) T0
   rw [← this]
   exact hR
  induction fuel with
  | zero =>
   intro listed a' w' hsz hun hcl hinv
   have hrd:Region.ready .any ops listed=[]:=by
    unfold Region.ready
    rw [List.filter_eq_nil_iff]
    intro i hi
    have:¬ (!listed.getD i false)=true:=by
     have hnil:((List.range ops.size).filter fun i=>!listed.getD i false)=[]:=List.eq_nil_of_length_eq_zero (by omega)
     exact (List.filter_eq_nil_iff.1 hnil) i hi
    have hlt:=List.mem_range.1 hi
    have h2:listed.getD i true=true:=by
     rw [Array.getD_eq_getD_getElem?] at this ⊢
     rw [Array.getElem?_eq_getElem (by omega)] at this ⊢
     simpa using this
    simp [h2]
   exact ⟨hrd,fin listed a' w' hsz hcl hinv hrd⟩
  | succ fuel ih =>
   intro listed a' w' hsz hun hcl hinv
   refine ⟨fin listed a' w' hsz hcl hinv,fun i hi=>?_⟩
   unfold Region.ready at hi
   rw [List.mem_filter] at hi
   obtain ⟨hir,hic⟩:=hi
   have hin:=List.mem_range.1 hir
   have hoi:ops[i]?=some ops[i]:=Array.getElem?_eq_getElem hin
   rw [hoi] at hic
   simp only [Option.map_some,Option.getD_some,Bool.and_eq_true,Array.all_eq_true'] at hic
   obtain ⟨hnl,hpre⟩:=hic
   have hnl:listed.getD i false=false:=by
    rw [Array.getD_eq_getD_getElem?] at hnl ⊢
    rw [Array.getElem?_eq_getElem (by omega)] at hnl ⊢
    simp at hnl ⊢
    exact hnl
   have hpre:∀ e ∈ ops[i].after.toList,Region.binds .any e=true→listed.getD e.on false=true:=by
    intro e he hb
    have:=hpre e (by simpa using he)
    simpa [hb] using this
   have hclp:∀ i j,listed.getD i false=true→bV ops i j=true→listed.getD j false=true:=fun i j h1 h2=>pq hst.edges (S:=fun i=>listed.getD i false=true) hcl i h1 h2
   have hprei:∀ j,bV ops i j=true→listed.getD j false=true:=by
    intro j hj
    obtain ⟨o,ho,e,he,hb,hlt,hjj⟩:=j9 hst.edges hj
    rw [hoi] at ho
    cases ho
    have:=hpre e he hb
    rcases hjj with rfl | hjj
    ·exact this
    ·exact hclp _ _ this hjj
   obtain ⟨E',k,F',gb,hE,hk,hlk,hS,hF,hH,hR,hdef⟩:=hinv
   have hlook:∀ S:Nat→Bool,(∀ j,S j=true→listed.getD j false=true)→(∀ j t,t ∈ (ops[i]).looksAt ops→aN ops j=some t→bV ops i j=true→S j=true) →
     ∀ t ∈ (ops[i]).looksAt ops,(TT ops xs T0 i)[t]?=(TS ops xs S (List.range ops.size) T0)[t]?:=by
    intro S hS1 hS2 t ht
    obtain ⟨g1,g2⟩:=iw hst.dst xs (fun _=>true) t (List.range i) T0
    obtain ⟨s1,s2⟩:=iw hst.dst xs S t (List.range ops.size) T0
    by_cases hj:∃ j,aN ops j=some t∧bV ops i j=true
    ·obtain ⟨j,hdj,hpj⟩:=hj
     have hlt:=jy hst.edges i hpj
     unfold TT
     rw [g1 j (List.mem_range.2 hlt) rfl hdj,s1 j (List.mem_range.2 (by omega)) (hS2 j t ht hdj hpj) hdj]
    ·have hno:∀ j,aN ops j=some t→j=i∨bV ops j i=true:=by
      intro j hdj
      rcases hst.rd i _ hoi t ht j hdj with h | h | h
      ·exact .inl h
      ·exact absurd ⟨j,hdj,h⟩ hj
      ·exact .inr h
     unfold TT
     have q1:=g2 (fun j hj' _ hdj=>by
      rcases hno j hdj with rfl | h
      ·have:=List.mem_range.1 hj'; omega
      ·have:=jy hst.edges j h; have:=List.mem_range.1 hj'; omega)
     have q2:=s2 (fun j hj' hSj hdj=>by
      have hSj:=hS1 j hSj
      rcases hno j hdj with rfl | h
      ·rw [hnl] at hSj; cases hSj
      ·have:=hclp _ _ hSj h; rw [hnl] at this; cases this)
     rw [q1,q2]
   have hseen1:∀ k j,eQ free q k listed j=true→listed.getD j false=true:=fun k j h=>by
    unfold eQ at h
    simp only [Bool.and_eq_true] at h
    exact h.1
   have hops:∀ {T:List AV},(∀ t ∈ (ops[i]).looksAt ops,(TT ops xs T0 i)[t]?=T[t]?)→∀ x ∈ (ops[i]).op.operands,evO (TT ops xs T0 i) x=evO T x:=fun h x hx=>qS fun t ht=>by
    subst ht
    exact h t (qQ hx)
   have hset:∀ j,(listed.setIfInBounds i true).getD j false=if j=i then true else listed.getD j false:=by
    intro j
    rw [Array.getD_eq_getD_getElem?,Array.getD_eq_getD_getElem?,Array.getElem?_setIfInBounds]
    by_cases hji:i=j
    ·subst hji; simp [hsz,hin]
    ·rw [if_neg hji,if_neg (fun e=>hji e.symm)]
   have hun2:((List.range ops.size).filter fun j=>!(listed.setIfInBounds i true).getD j false).length≤fuel:=by
    have:=lY (p:=fun i=>!listed.getD i false) (q:=fun j=>!(listed.setIfInBounds i true).getD j false) (List.range ops.size) (fun x _ hx=>by
      simp only [hset] at hx
      split at hx
      ·cases hx
      ·exact hx) i (List.mem_range.2 hin) (by simp only [hnl,Bool.not_false]) (by simp only [hset,if_true,Bool.not_true])
    omega
   have hcl2:∀ j o,(listed.setIfInBounds i true).getD j false=true→ops[j]?=some o→∀ e ∈ o.after.toList,Region.binds .any e=true→(listed.setIfInBounds i true).getD e.on false=true:=by
    intro j o hj ho e he hb
    rw [hset] at hj ⊢
    split
    ·rfl
    ·rename_i hne
     split at hj
     ·rename_i hji
      subst hji
      rw [hoi] at ho
      cases ho
      exact hpre e he hb
     ·exact hcl j o hj ho e he hb
   have once:∀ (m m' l:Nat),louds[m]?=some l→louds[m']?=some l→m=m':=by
    intro m m' l h1 h2
    rcases Nat.lt_trichotomy m m' with h | h | h
    ·have:=pC hst.edges hd.ord (m' - m - 1) m l l h1 (by rw [show m+(m' - m - 1+1)=m' by omega]; exact h2)
     omega
    ·exact h
    ·have:=pC hst.edges hd.ord (m - m' - 1) m' l l h2 (by rw [show m'+(m - m' - 1+1)=m by omega]; exact h1)
     omega
   have hnext:∀ (S:Nat→Bool) (E1 E2:Env) (k2:Nat) (F2:Nat→Option Obj) (gb2:Nat→Nat) (a2:Act) (w2:World) (v:Value),(∀ j,eQ free q k2 (listed.setIfInBounds i true) j=if j=i then true else S j)→bh E1 (TS ops xs S (List.range ops.size) T0) a'.tmps →
     E.Ext E1→E1.Ext E2→k2≤louds.length→(∀ m l,louds[m]?=some l→((if l=i then true else listed.getD l false)=true ↔ m<k2))→St B { w0 with F:=F2 } E2 (hs k2) w2→(q<k2→F2=w0.F)→(k2≤q→rY ops w0 B cf kf E2 free (listed.setIfInBounds i true) a2 F2 gb2) →
     Rel E2 (xs i) v→a2=a'.put ops[i].dst v→wpAnyIn (FW ro) 0 P .any ops Q fuel (listed.setIfInBounds i true) a2 w2:=by
    intro S E1 E2 k2 F2 gb2 a2 w2 v hseen hR1 hE1 hE2 hk2 hlk2 hS2 hF2 hH2 hrel ha2
    refine ih _ a2 w2 (by simp [hsz]) hun2 hcl2 ⟨E2,k2,F2,gb2,hE1.trans hE2,hk2,fun m l hl=>by rw [hset]; exact hlk2 m l hl,hS2,hF2,hH2,?_,by rw [ha2,iP]; exact hdef⟩
    have hput:bh E2 (c_ (TS ops xs S (List.range ops.size) T0) (aN ops i) (xs i)) a2.tmps:=by
     rw [ha2]
     have:aN ops i=ops[i].dst:=by simp [aN,hoi]
     rw [this]
     exact ku (hR1.ext hE2) hrel _
    have heq:TS ops xs (eQ free q k2 (listed.setIfInBounds i true)) (List.range ops.size) T0=c_ (TS ops xs S (List.range ops.size) T0) (aN ops i) (xs i):=by
     apply List.ext_getElem?
     intro t
     obtain ⟨s1,s2⟩:=iw hst.dst xs S t (List.range ops.size) T0
     obtain ⟨n1,n2⟩:=iw hst.dst xs (eQ free q k2 (listed.setIfInBounds i true)) t (List.range ops.size) T0
     by_cases hdi:aN ops i=some t
     ·rw [n1 i hir (by rw [hseen,if_pos rfl]) hdi,hdi]
      simp only [c_,List.getElem?_set,if_true,pr]
     ·have hright:(c_ (TS ops xs S (List.range ops.size) T0) (aN ops i) (xs i))[t]?=(TS ops xs S (List.range ops.size) T0)[t]?:=by
       cases hd':aN ops i with
       | none=>rfl
       | some d =>
        have:d≠t:=fun e=>hdi (by rw [hd',e])
        simp only [c_,List.getElem?_set,if_neg this]
      rw [hright]
      by_cases hj:∃ j ∈ List.range ops.size,S j=true∧aN ops j=some t
      ·obtain ⟨j,hjr,hSj,hdj⟩:=hj
       rw [s1 j hjr hSj hdj,n1 j hjr (by rw [hseen]; split; rfl; exact hSj) hdj]
      ·rw [s2 (fun j hjr hSj hdj=>hj ⟨j,hjr,hSj,hdj⟩),n2 (fun j hjr hSj hdj=>?_)]
       rw [hseen] at hSj
       split at hSj
       ·rename_i e; subst e; exact hdi hdj
       ·exact hj ⟨j,hjr,hSj,hdj⟩
    rw [heq]
    exact hput
   have hfi:∀ f ∈ free,f≠i→(listed.setIfInBounds i true).getD f false=listed.getD f false:=fun f _ hne=>by rw [hset,if_neg hne]
   have hdi:aN ops i=ops[i].dst:=by simp [aN,hoi]
   have hheld:i ∉ free→∀ (F2:Nat→Option Obj) (v:Value),rY ops w0 B cf kf E' free listed a' F2 gb→rY ops w0 B cf kf E' free (listed.setIfInBounds i true) (a'.put ops[i].dst v) F2 gb:=by
    intro hnf F2 v hh
    have hne:∀ f ∈ free,f≠i:=fun f hf e=>hnf (e ▸ hf)
    refine { at_:=fun f hf hl=>?_,inj:=fun f hf f' hf' h1 h2=>hh.inj f hf f' hf' (by rw [← hfi f hf (hne f hf)]; exact h1) (by rw [← hfi f' hf' (hne f' hf')]; exact h2),up:=hh.up,off:=fun f hf hl=>hh.off f hf (by rw [← hfi f hf (hne f hf)]; exact hl) }
    obtain ⟨o,c,ty,d,h1,h3,h4,h5,h6,h7⟩:=hh.at_ f hf (by rw [← hfi f hf (hne f hf)]; exact hl)
    refine ⟨o,c,ty,d,h1,h3,h4,h5,h6,fun hlt=>?_⟩
    have hdf:aN ops f=some d:=by simp [aN,h1,h3]
    have:ops[i].dst≠some d:=fun e=>hne f hf (hst.dst f i d hdf (by rw [hdi]; exact e))
    rw [nF this]
    refine h7 ?_
    have hsz2:(a'.put ops[i].dst v).tmps.size=a'.tmps.size:=by
     cases ops[i].dst<;>simp [Act.put]
    omega
   have hlateK:∀ {j t:Nat},t ∈ (ops[i]).looksAt ops→aN ops j=some t→bV ops i j=true→i≠lq→eQ free q k listed j=true:=by
    intro j t ht hdj hpj hne
    unfold eQ
    rw [hprei j hpj,Bool.true_and]
    by_cases hjf:j ∈ free
    ·rcases hd.late i _ hoi t ht j hjf hdj lq hlq with h | h
     ·exact absurd h hne
     ·have:=(hlk q lq hlq).1 (hprei _ h)
      rw [show Nat.blt q k=true from Nat.ble_eq_true_of_le this]; rfl
    ·have:free.contains j=false:=by simpa using hjf
     rw [this]; simp
   by_cases hif:i ∈ free
   ·-- a block is made
    obtain ⟨j,hj⟩:=List.getElem?_of_mem hif
    obtain ⟨o,d,ho,hmk,hg,hdst,hxs,hnw,hany⟩:=hd.fr j i hj
    rw [hoi] at ho
    cases ho
    have hkq:k≤q:=by
     rcases Nat.lt_or_ge q k with h | h
     ·have h1:=(hlk q lq hlq).2 h
      have:=hclp _ _ h1 (hd.pre i hif lq hlq)
      rw [hnl] at this; cases this
     ·exact h
    have hh:=hH hkq
    have hlI:=hlook (eQ free q k listed) (hseen1 k) fun j t ht hdj hpj=>hlateK ht hdj hpj (fun e=>hlqf (e ▸ hif))
    obtain ⟨c,ty,hrc,hrunA⟩:=hmk.2.2 E' _ a' hR (hops hlI)
    unfold wpOpIn
    simp only [hoi]
    rw [if_pos (by unfold Region.wanted; rw [hg])]
    refine ⟨fun f _=>trivial,?_⟩
    rw [Oper.semAt_eq _ _ _ hmk.1]
    have hrun:=hrunA w'
    rw [hrun]
    have hsizeF:∀ b o,F' b=some o→b<w'.heap.size:=fun b o h=>(Array.getElem?_eq_some_iff.1 (hS.fr b o h).1).1
    have hdi':aN ops i=some d:=by rw [hdi]; exact hdst
    have hseq:eQ free q k (listed.setIfInBounds i true)=eQ free q k listed:=by
     funext j
     unfold eQ
     rw [hset]
     by_cases hji:j=i
     ·subst hji
      have h1:Nat.blt q k=false:=by
       cases h:Nat.blt q k with
       | false=>rfl
       | true=>have:=Nat.le_of_ble_eq_true (h:Nat.ble (q+1) k=true); omega
      have h2:free.contains j=true:=by simpa using hif
      rw [if_pos rfl,h1,h2,hnl]; rfl
     ·rw [if_neg hji]
    refine ih _ _ _ (by simp [hsz]) hun2 hcl2 ⟨E',k,fun b=>if b=w'.heap.size then some (.cells c ty (0,0)) else F' b,fun f=>if f=i then w'.heap.size else gb f,hE,hk,fun m l hl=>?_,hS.newF (.cells c ty (0,0)),fun h=>absurd h (by omega),fun _=>?_,?_,by rw [iP]; exact hdef⟩
    ·rw [hset,if_neg (fun e:l=i=>hd.nof l (List.mem_of_getElem? hl) (by rw [e]; exact hif))]; exact hlk m l hl
    ·refine { at_:=fun f hf hl=>?_,inj:=fun f hf f' hf' h1 h2 he=>?_,up:=fun b o hb=>?_,off:=fun f hf hl=>?_ }
     ·by_cases hfi':f=i
      ·subst hfi'
       refine ⟨ops[f],c,ty,d,hoi,hdst,hrc,by simp,by simp only [if_pos]; exact hS.size,fun hlt=>?_⟩
       simp only [if_pos]
       rw [hdst]
       simp only [Act.put,Array.getElem?_setIfInBounds,if_pos]
       rw [hdst] at hlt
       simp only [Act.put,Array.size_setIfInBounds] at hlt
       rw [if_pos hlt]
      ·obtain ⟨o,c',ty',d',h1,h3,h4,h5,h6,h7⟩:=hh.at_ f hf (by rw [← hfi f hf hfi']; exact hl)
       have hlt:=hsizeF _ _ h5
       refine ⟨o,c',ty',d',h1,h3,h4,by rw [if_neg hfi',if_neg (by omega)]; exact h5,by rw [if_neg hfi']; exact h6,fun hlt=>?_⟩
       have hdf:aN ops f=some d':=by simp [aN,h1,h3]
       have hne:ops[i].dst≠some d':=fun e=>hfi' (hst.dst f i d' hdf (by rw [hdi]; exact e))
       rw [nF hne,if_neg hfi']
       refine h7 ?_
       have hsz2:(a'.put ops[i].dst (fv (kf i) w'.heap.size)).tmps.size=a'.tmps.size:=by
        cases ops[i].dst<;>simp [Act.put]
       omega
     ·have lt:∀ g ∈ free,g≠i→(listed.setIfInBounds i true).getD g false=true→gb g<w'.heap.size:=fun g hg hne hl=>by
       obtain ⟨_,_,_,_,_,_,_,h5,_,_⟩:=hh.at_ g hg (by rw [← hfi g hg hne]; exact hl)
       exact hsizeF _ _ h5
      by_cases h3:f=i
      ·by_cases h4:f'=i
       ·rw [h3,h4]
       ·rw [if_pos h3,if_neg h4] at he
        have:=lt f' hf' h4 h2
        omega
      ·by_cases h4:f'=i
       ·rw [if_neg h3,if_pos h4] at he
        have:=lt f hf h3 h1
        omega
       ·rw [if_neg h3,if_neg h4] at he
        exact hh.inj f hf f' hf' (by rw [← hfi f hf h3]; exact h1) (by rw [← hfi f' hf' h4]; exact h2) he
     ·have:=hh.up b o hb
      have hlt:=hsizeF _ _ this
      show (if b=w'.heap.size then _ else F' b)=some o
      rw [if_neg (by omega)]; exact this
     ·by_cases h3:f=i
      ·rw [if_pos h3]
       cases hf0:w0.F w'.heap.size with
       | none=>rfl
       | some o =>
        have:=hsizeF _ _ (hh.up _ _ hf0)
        omega
      ·rw [if_neg h3]
       exact hh.off f hf (by rw [← hfi f hf h3]; exact hl)
    ·rw [hseq,hdst]
     have hlen:=hR.len
     refine ⟨by simp only [Act.put,Array.size_setIfInBounds]; exact hlen,fun t' x v hx hv=>?_⟩
     by_cases htd:t'=d
     ·subst htd
      obtain ⟨s1,s2⟩:=iw hst.dst xs (eQ free q k listed) t' (List.range ops.size) T0
      rw [s2 (fun j hjr hSj hdj=>by
       have:=hst.dst j i t' hdj hdi'
       subst this
       have:=hseen1 k j hSj
       rw [hnl] at this; cases this)] at hx
      have hlt:=(List.getElem?_eq_some_iff.1 hx).1
      rw [hany hlt] at hx
      cases hx
      exact .any _
     ·rw [nF (fun e=>htd (by cases e; rfl))] at hv
      exact hR.at_ t' x v hx hv
   ·-- any other
    have hseenI:∀ k2,(Nat.blt q k2=Nat.blt q k)→∀ j,eQ free q k2 (listed.setIfInBounds i true) j=if j=i then true else eQ free q k listed j:=by
     intro k2 hk2 j
     unfold eQ
     rw [hset,hk2]
     by_cases hji:j=i
     ·subst hji
      have:free.contains j=false:=by simpa using hif
      rw [if_pos rfl,if_pos rfl,this]; simp
     ·rw [if_neg hji,if_neg hji]
    have hsame:i ∉ louds→∀ m l,louds[m]?=some l→((if l=i then true else listed.getD l false)=true ↔ m<k):=by
     intro hni m l hl
     rw [if_neg (fun e=>hni (by rw [← e]; exact List.mem_of_getElem? hl))]
     exact hlk m l hl
    have hneq:i ∉ louds→i≠lq:=fun hni e=>hni (e ▸ List.mem_of_getElem? hlq)
    unfold wpOpIn
    simp only [hoi]
    rcases hd.each i _ hoi hif with ⟨hwf,hx,hni⟩ | ⟨hwt,hni,lo,hi',hlol,hev,hlh⟩ | ⟨hwt,m,hlm,hop⟩
    ·have hl:=hlook (eQ free q k listed) (hseen1 k) fun j t ht hdj hpj=>hlateK ht hdj hpj (hneq hni)
     rw [if_neg (by rw [fi hR (jC C (w0:={ w0 with F:=F' }) hσ hS) ((gL hl) ▸ hwf)]; simp)]
     refine ⟨fun f _=>trivial,?_⟩
     exact hnext (eQ free q k listed) E' E' k F' gb _ w' undef (hseenI k rfl) hR hE (.refl E') hk (hsame hni) hS hF (fun h=>(hheld hif _ _ (hH h)).ext (.refl E')) (by rw [hx]; exact .lit _) rfl
    ·have hl:=hlook (eQ free q k listed) (hseen1 k) fun j t ht hdj hpj=>hlateK ht hdj hpj (hneq hni)
     rw [if_pos (fi hR (jC C (w0:={ w0 with F:=F' }) hσ hS) ((gL hl) ▸ hwt))]
     have hlok:lo≤k:=by
      rcases Nat.lt_or_ge k lo with h | h
      ·exfalso
       rcases Nat.lt_or_ge k louds.length with h2 | h2
       ·have hlk':louds[k]?=some louds[k]:=List.getElem?_eq_getElem h2
        have:=(hlk k _ hlk').1 (hprei _ ((hlh k _ hlk').1 h))
        omega
       ·omega
      ·exact h
     have hkhi:k≤hi':=by
      rcases Nat.lt_or_ge hi' k with h | h
      ·exfalso
       have h2:hi'<louds.length:=by omega
       have hlk':louds[hi']?=some louds[hi']:=List.getElem?_eq_getElem h2
       have h3:=(hlk hi' _ hlk').2 h
       have h4:=(hlh hi' _ hlk').2 (Nat.le_refl _)
       have:=hclp _ _ h3 h4
       rw [hnl] at this
       cases this
      ·exact h
     have hop:Op1 C (TS ops xs (eQ free q k listed) (List.range ops.size) T0) (hs k) ops[i] (xs i) (hs k):=(hev k hlok hkhi).congr C (hops hl)
     exact hop.wp C (w0:={ w0 with F:=F' }) hσ hS hR (fun E2 v w2 e1 e2 e3=>hnext (eQ free q k listed) E' E2 k F' gb _ w2 v (hseenI k rfl) hR hE e1 hk (hsame hni) e2 hF (fun h=>(hheld hif _ _ (hH h)).ext (by assumption)) e3 rfl)
    ·have hmk:m=k:=by
      have h1:¬ m<k:=fun h=>by have:=(hlk m i hlm).2 h; rw [hnl] at this; cases this
      rcases Nat.lt_or_ge k m with h | h
      ·exfalso
       have hml:=(List.getElem?_eq_some_iff.1 hlm).1
       obtain ⟨lk,hlk'⟩:∃ l,louds[k]?=some l:=⟨_,List.getElem?_eq_getElem (by omega)⟩
       obtain ⟨lm,hp⟩:∃ l,louds[m - 1]?=some l:=⟨_,List.getElem?_eq_getElem (by omega)⟩
       have ho:=hd.ord (m - 1) _ _ hp (by rw [show m - 1+1=m by omega]; exact hlm)
       have hl1:=hprei _ ho
       have:=lf hst.edges hd.ord (S:=fun i=>listed.getD i false=true) hclp (m - 1 - k) k _ _ hlk' (by rw [show k+(m - 1 - k)=m - 1 by omega]; exact hp) hl1
       have:=(hlk k _ hlk').1 this
       omega
      ·omega
     subst hmk
     have hml:=(List.getElem?_eq_some_iff.1 hlm).1
     have hlk2:∀ p l,louds[p]?=some l→((if l=i then true else listed.getD l false)=true ↔ p<m+1):=by
      intro p l hl
      by_cases hli:l=i
      ·subst hli
       have:=once p m l hl hlm
       simp; omega
      ·rw [if_neg hli,hlk p l hl]
       constructor
       ·intro h; omega
       ·intro h
        rcases Nat.lt_or_ge p m with h2 | h2
        ·exact h2
        ·have:p=m:=by omega
         subst this
         rw [hlm] at hl
         cases hl
         exact absurd rfl hli
     by_cases hmq:m=q
     ·-- the variables become jC
      subst hmq
      rw [if_pos rfl] at hop
      have hiq:i=lq:=by rw [hlm] at hlq; exact Option.some.inj hlq
      have hh:=hH (Nat.le_refl _)
      have hall:∀ f ∈ free,listed.getD f false=true:=fun f hf=>hprei f (hd.pre f hf i hlm)
      obtain ⟨E1,x1,x2,x3⟩:=pz hh hall free news E' (hs m) F' (.refl E') hd.fnd (fun f h=>h) (fun f _=>rfl) hh.up hd.newl (fun j f hj=>by
       obtain ⟨o,d,y1,y2,y3,y4,y6,y7,y8⟩:=hd.fr j f hj
       exact y7) hS
      have hR1:bh E1 (TS ops xs (fun j=>listed.getD j false) (List.range ops.size) T0) a'.tmps:=by
       refine ⟨by rw [pr]; have:=hR.len; rw [pr] at this; exact this,fun t x v hx hv=>?_⟩
       obtain ⟨s1,s2⟩:=iw hst.dst xs (fun j=>listed.getD j false) t (List.range ops.size) T0
       obtain ⟨n1,n2⟩:=iw hst.dst xs (eQ free m m listed) t (List.range ops.size) T0
       by_cases hf:∃ f ∈ free,aN ops f=some t
       ·obtain ⟨f,hff,hdf⟩:=hf
        obtain ⟨j,hj⟩:=List.getElem?_of_mem hff
        obtain ⟨o,d,y1,y2,y3,y4,y6,y7,y8⟩:=hd.fr j f hj
        have hfl:f<ops.size:=(Array.getElem?_eq_some_iff.1 y1).1
        rw [s1 f (List.mem_range.2 hfl) (hall f hff) hdf] at hx
        split at hx
        ·cases hx
         obtain ⟨o2,c2,ty2,d2,z1,z3,z4,z5,z6,z7⟩:=hh.at_ f hff (hall f hff)
         have hdd:d2=t:=by
          have:aN ops f=some d2:=by simp [aN,z1,z3]
          rw [hdf] at this; cases this; rfl
         subst hdd
         have:=z7 (Array.getElem?_eq_some_iff.1 hv).1
         rw [hv] at this
         cases this
         rw [y6]
         exact Gq (x3 j f hj) y2.2.1
        ·cases hx
       ·have:(TS ops xs (fun j=>listed.getD j false) (List.range ops.size) T0)[t]?=(TS ops xs (eQ free m m listed) (List.range ops.size) T0)[t]?:=by
         by_cases hj:∃ j ∈ List.range ops.size,listed.getD j false=true∧aN ops j=some t
         ·obtain ⟨j,hjr,hSj,hdj⟩:=hj
          have hnf:free.contains j=false:=by
           have:j ∉ free:=fun h=>hf ⟨j,h,hdj⟩
           simpa using this
          rw [s1 j hjr hSj hdj,n1 j hjr (by unfold eQ; rw [hSj,hnf]; simp) hdj]
         ·rw [s2 (fun j hjr hSj hdj=>hj ⟨j,hjr,hSj,hdj⟩),n2 (fun j hjr hSj hdj=>hj ⟨j,hjr,hseen1 m j hSj,hdj⟩)]
        rw [this] at hx
        exact (hR.at_ t x v hx hv).ext x1
      have hl:=hlook (fun j=>listed.getD j false) (fun j h=>h) (fun j t _ _ hpj=>hprei j hpj)
      rw [if_pos (fi hR1 (jC C hσ x2) ((gL hl) ▸ hwt))]
      have hop':=hop.congr C (hops hl)
      refine hop'.wp C hσ x2 hR1 (fun E2 v w2 e1 e2 e3=>hnext (fun j=>listed.getD j false) E1 E2 (m+1) w0.F gb _ w2 v (fun j=>?_) hR1 (hE.trans x1) e1 (by omega) hlk2 e2 (fun _=>rfl) (fun h=>by omega) e3 rfl)
      unfold eQ
      rw [hset,show Nat.blt m (m+1)=true from Nat.ble_eq_true_of_le (Nat.le_refl _)]
      simp
     ·rw [if_neg hmq] at hop
      have hl:=hlook (eQ free q m listed) (hseen1 m) fun j t ht hdj hpj=>hlateK ht hdj hpj (fun e=>hmq (once m q i hlm (e ▸ hlq)))
      rw [if_pos (fi hR (jC C (w0:={ w0 with F:=F' }) hσ hS) ((gL hl) ▸ hwt))]
      have hop':=hop.congr C (hops hl)
      have hb:Nat.blt q (m+1)=Nat.blt q m:=by
       by_cases h:q<m
       ·rw [show Nat.blt q (m+1)=true from Nat.ble_eq_true_of_le (Nat.lt_succ_of_lt h),show Nat.blt q m=true from Nat.ble_eq_true_of_le h]
       ·have h1:Nat.blt q (m+1)=false:=by
         cases hh:Nat.blt q (m+1) with
         | false=>rfl
         | true=>have:=Nat.le_of_ble_eq_true (hh:Nat.ble (q+1) (m+1)=true); omega
        have h2:Nat.blt q m=false:=by
         cases hh:Nat.blt q m with
         | false=>rfl
         | true=>have:=Nat.le_of_ble_eq_true (hh:Nat.ble (q+1) m=true); omega
        rw [h1,h2]
      refine hop'.wp C (w0:={ w0 with F:=F' }) hσ hS hR (fun E2 v w2 e1 e2 e3=>hnext (eQ free q m listed) E' E2 (m+1) F' gb _ w2 v (hseenI (m+1) hb) hR hE e1 (by omega) hlk2 e2 (fun h=>hF (by omega)) (fun h=>(hheld hif _ _ (hH (by omega))).ext (by assumption)) e3 rfl)
 refine key ops.size _ a _ (by simp) ?_ ?_ ?_
 ·refine Nat.le_trans (List.length_filter_le _ _) (by simp)
 ·intro i o hi
  exfalso
  rw [Array.getD_eq_getD_getElem?,Array.getElem?_replicate] at hi
  split at hi<;>simp at hi
 ·have hzero:∀ i,(Array.replicate ops.size false).getD i false=false:=by
   intro i
   rw [Array.getD_eq_getD_getElem?,Array.getElem?_replicate]
   split<;>rfl
  refine ⟨E,0,w0.F,fun _=>0,.refl E,Nat.zero_le _,fun m l hl=>by rw [hzero]; simp,by rw [hd.h0]; exact hw.drew _,fun _=>rfl,fun _=>{ at_:=fun f _ h=>(by rw [hzero] at h; cases h),inj:=fun f _ f' _ h=>(by rw [hzero] at h; cases h),up:=fun b o h=>h,off:=fun f _ h=>(by rw [hzero] at h; cases h) },?_,rfl⟩
  have hs0:∀ i,eQ free q 0 (Array.replicate ops.size false) i=false:=fun i=>by unfold eQ; rw [hzero]; rfl
  have:∀ (l:List Nat) (T:List AV),TS ops xs (eQ free q 0 (Array.replicate ops.size false)) l T=T:=by
   intro l
   induction l with
   | nil=>intro T; rfl
   | cons i l ih =>
    intro T
    show TS ops xs _ l (bif eQ free q 0 (Array.replicate ops.size false) i then _ else T)=T
    rw [hs0,cond_false]
    exact ih T
  rw [this]
  exact hT
end
end Go.Proofs.YtegioimlblnajaaGreat.Ev
namespace Go.Proofs.YtegioimlblnajaaGreat.Ev
open Go.RowKit (Below)
set_option linter.unusedVariables false
set_option linter.unusedSimpArgs false
set_option linter.unusedSectionVars false
def s9 (T:List AV) (d:Nat) (b:Bool):List AV:=T.set d (.lit (.bool b))
theorem oI {T:List AV} {d:Nat} {b:Bool} (h:evO T (.tmp d)=.lit (.bool b)):s9 T d b=T:=by
 unfold s9
 simp only [evO,List.getD_eq_getElem?_getD] at h
 cases hd:T[d]? with
 | none=>rw [hd] at h; simp [undef] at h
 | some x =>
  rw [hd] at h
  simp at h
  subst h
  apply List.ext_getElem?
  intro i
  rw [List.getElem?_set]
  by_cases hi:d=i
  ·subst hi
   rw [if_pos rfl,hd,if_pos (List.getElem?_eq_some_iff.1 hd).1]
  ·rw [if_neg hi]
class Still where
 f:Nat→Bool
section
variable {P:Program} (C:Ctx P) [Still]
def bR (o:Op):Bool:=match o with
 | .lookup _ _ _ _=>true
 | .call ⟨.value (.func f),_,_⟩=>Still.f f
 | o=>dx o
def Qq (t:Nat) (ok:Bool) (H:Hp) (m k:AV) (x:AV):Prop:=∃ i kt et ie ag ks z,C.ti t=some i∧i.d=.map kt et∧C.ti et=some ie∧uM C kt=some (ag,ks)∧s_ ie=some z∧tf z ag ks ok H m k=some x
def EvQ (T:List AV) (H:Hp) (o:Oper) (x:AV):Prop:=(dx o.op=true∧∃ M,bT C.ti C.keys C.as T H o=some (x,M))∨(∃ t m k ok,o.op=.lookup t m k ok∧Qq C t ok H (evO T m) (evO T k) x)∨∃ f args ts,o.op=.call ⟨.value (.func f),args,ts⟩∧∀ H',Op1 C T H' o x H'
theorem EvQ.op1 {T:List AV} {H:Hp} {o:Oper} {x:AV} (h:EvQ C T H o x):Op1 C T H o x H:=by
 rcases h with ⟨hq,M,h⟩ | ⟨t,m,k,ok,ho,i,kt,et,ie,ag,ks,z,hi,hd,hie,hk,hz,hr⟩ | ⟨_,_,_,_,h⟩
 rotate_left 2
 ·exact h H
 ·exact .op (nM C (LeH.refl _) hq h)
 ·refine .sem (by intro c hc; rw [ho] at hc; cases hc) ?_
  rw [ho]
  exact mI C hi hd hie hk hz hr
def mj (ti:Nat→Option TI) (T:List AV) (o:Op):Option (AV × Option Nat):=match o with
 | .load t a=>match ti t with
  | some i=>some (evO T a,some i.size)
  | none=>none
 | .slice _ x _ _ _=>some (evO T x,none)
 | .lookup _ m _ _=>some (evO T m,none)
 | _=>none
def kpA (a:AV × Option Nat) (H H1:Hp):Prop:=match a with
 | (.ptr id off,some n)=>b8 H1 (.ptr id off) n=b8 H (.ptr id off) n
 | (.ptr id _,none)=>H1.get id=H.get id
 | (.mp id,none)=>H1.get id=H.get id
 | _=>True
def kpK (a:AV × Option Nat) (H H1:Hp) (A:Prop):Prop:=match a with
 | (.ptr id off,some n)=>b8 H1 (.ptr id off) n=b8 H (.ptr id off) n∧A
 | (.ptr id _,none)=>H1.get id=H.get id∧A
 | (.mp id,none)=>H1.get id=H.get id∧A
 | _=>A
abbrev Wt:=Nat × (AV × Option Nat)
abbrev FD:=Bool × (Nat × Nat)
def tF (i:Nat) (H H1:Hp) (A:Prop):List Wt→Prop
 | []=>A
 | a::r=>match Nat.blt i a.1 with
  | true=>kpK a.2 H H1 (tF i H H1 A r)
  | false=>tF i H H1 A r
def pZ (lo:Nat) (a:AV × Option Nat) (H:Hp) (A:Prop):List (Nat × Hp)→Prop
 | []=>A
 | h::r=>match Nat.ble lo h.1 with
  | true=>kpK a h.2 H (pZ lo a H A r)
  | false=>pZ lo a H A r
theorem Bn {a:AV × Option Nat} {H H1:Hp} {A:Prop} (h:kpK a H H1 A):kpA a H H1∧A:=by
 unfold kpK at h
 unfold kpA
 split at h
 ·exact h
 ·exact h
 ·exact h
 ·exact ⟨trivial,h⟩
theorem pc {i:Nat} {H H1:Hp} {A:Prop}:∀ {W:List Wt},tF i H H1 A W→(∀ a ∈ W,i<a.1→kpA a.2 H H1)∧A
 | [],h=>⟨fun a ha=>(by cases ha),h⟩
 | a::r,h=>by
  unfold tF at h
  split at h
  ·obtain ⟨h1,h2⟩:=Bn h
   obtain ⟨h3,h4⟩:=pc h2
   refine ⟨fun b hb=>?_,h4⟩
   rcases List.mem_cons.1 hb with rfl | hb
   ·exact fun _=>h1
   ·exact h3 b hb
  ·rename_i hf
   obtain ⟨h3,h4⟩:=pc h
   refine ⟨fun b hb hlt=>?_,h4⟩
   rcases List.mem_cons.1 hb with rfl | hb
   ·have:Nat.blt i b.1=true:=Nat.ble_eq_true_of_le hlt
    rw [hf] at this; cases this
   ·exact h3 b hb hlt
theorem nP {lo:Nat} {a:AV × Option Nat} {H:Hp} {A:Prop}:∀ {E:List (Nat × Hp)},pZ lo a H A E→(∀ h ∈ E,lo≤h.1→kpA a h.2 H)∧A
 | [],h=>⟨fun a ha=>(by cases ha),h⟩
 | e::r,h=>by
  unfold pZ at h
  split at h
  ·obtain ⟨h1,h2⟩:=Bn h
   obtain ⟨h3,h4⟩:=nP h2
   refine ⟨fun b hb=>?_,h4⟩
   rcases List.mem_cons.1 hb with rfl | hb
   ·exact fun _=>h1
   ·exact h3 b hb
  ·rename_i hf
   obtain ⟨h3,h4⟩:=nP h
   refine ⟨fun b hb hlt=>?_,h4⟩
   rcases List.mem_cons.1 hb with rfl | hb
   ·have:Nat.ble lo b.1=true:=Nat.ble_eq_true_of_le hlt
    rw [hf] at this; cases this
   ·exact h3 b hb hlt
def Qv (P:Program) (σ:Sig) (f:Nat) (xs:List AV) (H:Hp) (K:AV→Hp→Prop):Prop:=∃ r,(∀ H,aq P σ f xs H r H)∧K r H
def opS (T:List AV) (H:Hp) (o:Op) (K:AV→Hp→Prop):Prop:=match o with
 | .call ⟨.value (.func f),args,_⟩=>Qv P C.σ f (args.toList.map (evO T)) H K
 | o=>opK C T H o K
def sW (b:FD) (E:List (Nat × Hp)) (W:List Wt) (T:List AV) (H:Hp) (o:Op) (N:List (Nat × Hp)→List Wt→AV→Hp→Prop):Prop:=match b with
 | (false,c)=>match bR o with
  | true=>opS C T H o fun x H1=>N E W x H1
  | false=>opK C T H o fun x H1=>tF c.1 H H1 (N ((c.1,H)::E) W x H1) W
 | (true,c)=>match mj C.ti T o with
  | some a=>pZ c.1 a H (opK C T H o fun x H1=>N E ((c.2,a)::W) x H1) E
  | none=>False
def El (d:Nat) (S:List Nat):Bool:=S.any fun e=>Nat.beq e d
def G6 (o:Option Nat) (S:List Nat):List Nat:=match o with
 | some d=>S.filter fun e=>!(Nat.beq e d)
 | none=>S
def AG (o:Option Nat) (S:List Nat):List Nat:=match o with
 | some d=>d::S
 | none=>S
def nD (ops:Array Oper):List (Oper × FD)→List Nat→List (Nat × Hp)→List Wt→List AV→Hp→(List AV→Hp→Prop)→Prop
 | [],_,_,_,T,H,K=>K T H
 | (o,b)::r,S,E,W,T,H,K=>match o.guard with
  | none=>sW C b E W T H o.op fun E1 W1 x H1=>nD ops r (G6 o.dst S) E1 W1 (c_ T o.dst x) H1 K
  | some (j,want)=>match (ops[j]?).bind (·.dst) with
   | some d=>match El d S with
    | true=>nD ops r (AG o.dst S) E W (c_ T o.dst (.lit undef)) H K
    | false=>match want with
     | true=>ifC (sW C b E W (s9 T d true) H o.op fun E1 W1 x H1=>nD ops r (G6 o.dst S) E1 W1 (c_ (s9 T d true) o.dst x) H1 K) (nD ops r (AG o.dst S) E W (c_ (s9 T d false) o.dst (.lit undef)) H K) (evO T (.tmp d))
     | false=>ifC (nD ops r (AG o.dst S) E W (c_ (s9 T d true) o.dst (.lit undef)) H K) (sW C b E W (s9 T d false) H o.op fun E1 W1 x H1=>nD ops r (G6 o.dst S) E1 W1 (c_ (s9 T d false) o.dst x) H1 K) (evO T (.tmp d))
   | none=>False
def sM (o:Op):Bool:=match o with
 | .alloc _=>true
 | .buildSlice _ _ _=>true
 | _=>false
def E3 (T:List AV) (o:Oper) (H:Hp) (x:AV) (H1:Hp):Prop:=sM o.op=true→∃ cs k,Mk (P:=P) T o cs k∧x=sO k H.n∧H1=H.new (.cells cs true)
theorem LB {T:List AV} {H:Hp} {oper:Oper} {K:AV→Hp→Prop} (h:opK C T H oper.op K):∃ x H1,K x H1∧(bT C.ti C.keys C.as T H oper=some (x,H1)∨(dx oper.op=false∧Op1 C T H oper x H1))∧E3 (P:=P) T oper H x H1:=by
 by_cases hal:∃ t,oper.op=.alloc t
 ·obtain ⟨t,ht⟩:=hal
  obtain ⟨dst,o,ty,pos,after,guard⟩:=oper
  simp only at ht
  subst ht
  obtain ⟨i,hi,hk⟩:=bY (h:tyK C.ti t fun i=>cY (i.zero.map .lit) H K)
  refine ⟨_,_,hk,.inl ?_,fun _=>⟨_,none,xH C rfl hi,rfl,rfl⟩⟩
  simp only [bT,qh,hi]
 ·by_cases hbl:∃ t n ps,oper.op=.buildSlice t n ps
  ·obtain ⟨t,n,ps,ht⟩:=hbl
   obtain ⟨dst,o,ty,pos,after,guard⟩:=oper
   simp only at ht
   subst ht
   simp only [opK] at h
   obtain ⟨i,hi,hk⟩:=bY h
   split at hk
   case h_2=>exact hk.elim
   rename_i e he
   obtain ⟨j,hj,hk⟩:=bY hk
   split at hk
   case h_2=>exact hk.elim
   rename_i hb
   obtain ⟨p,hp,hk⟩:=bI hk
   obtain ⟨d,s,b,z⟩:=i
   simp only at he; subst he
   unfold cw at hp
   split at hp
   case h_2=>cases hp
   rename_i cs hcs
   cases hq:Nat.beq cs.length (n*j.size) with
   | false=>rw [hq] at hp; cases hp
   | true =>
    rw [hq] at hp; cases hp
    have he:bT C.ti C.keys C.as T H ⟨dst,.buildSlice t n ps,ty,pos,after,guard⟩=some (.sl H.n 0 j.size n (some n),H.new (.cells cs true)):=by
     simp only [bT,gg,hi,hj,hb,cond_true,vL,kZ hcs,hq]
    exact ⟨_,_,hk,.inl he,fun _=>IG C rfl he⟩
  ·obtain ⟨x,H1,h1,h2⟩:=uN C h
   refine ⟨x,H1,h1,h2,fun ht=>?_⟩
   unfold sM at ht
   split at ht
   ·rename_i t ho; exact absurd ⟨t,ho⟩ hal
   ·rename_i t n ps ho; exact absurd ⟨t,n,ps,ho⟩ hbl
   ·cases ht
theorem qH {T:List AV} {H:Hp} {oper:Oper} {K:AV→Hp→Prop} (hc:∀ f args ts,oper.op≠.call ⟨.value (.func f),args,ts⟩) (hq:bR oper.op=true) (h:opK C T H oper.op K):∃ x,K x H∧EvQ C T H oper x:=by
 by_cases hl:∃ t m k ok,oper.op=.lookup t m k ok
 ·obtain ⟨t,m,k,ok,ho⟩:=hl
  rw [ho] at h
  obtain ⟨i,hi,h⟩:=bY h
  split at h
  case h_2=>exact h.elim
  rename_i kt et hd
  obtain ⟨ie,hie,h⟩:=bY h
  split at h
  case h_2=>exact h.elim
  rename_i ag ks z hk hz
  obtain ⟨y,hy,hk2⟩:=bI h
  exact ⟨y,hk2,.inr (.inl ⟨t,m,k,ok,ho,i,kt,et,ie,ag,ks,z,hi,hd,hie,hk,hz,hy⟩)⟩
 ·have hq':dx oper.op=true:=by
   unfold bR at hq
   split at hq
   ·rename_i t m k ok ho
    exact absurd ⟨t,m,k,ok,ho⟩ hl
   ·rename_i f args ts ho
    exact absurd ho (hc f args ts)
   ·exact hq
  obtain ⟨x,H1,hk,hx⟩:=uN C h
  rcases hx with hx | ⟨hq2,_⟩
  ·have:=nM C (LeH.refl H) hq' hx
   rw [hx] at this
   cases this
   exact ⟨x,hk,.inl ⟨hq',_,hx⟩⟩
  ·rw [hq'] at hq2; cases hq2
theorem we {T:List AV} {H:Hp} {oper:Oper} {K:AV→Hp→Prop} (hq:bR oper.op=true) (h:opS C T H oper.op K):∃ x,K x H∧EvQ C T H oper x:=by
 by_cases hc:∃ f args ts,oper.op=.call ⟨.value (.func f),args,ts⟩
 ·obtain ⟨f,args,ts,ho⟩:=hc
  rw [ho] at h
  obtain ⟨r,hg,hk⟩:=h
  refine ⟨r,hk,.inr (.inr ⟨f,args,ts,ho,fun H'=>?_⟩)⟩
  have h2:opK C T H' oper.op fun x H1=>x=r∧H1=H':=by
   rw [ho]
   exact ⟨r,H',by rw [List.append_nil]; exact hg H',rfl,rfl⟩
  obtain ⟨x,H1,⟨hx1,hx2⟩,hx⟩:=uN C h2
  subst hx1
  subst hx2
  rcases hx with hx | ⟨_,hx⟩
  ·exact .op hx
  ·exact hx
 ·have h':opK C T H oper.op K:=by
   unfold opS at h
   split at h
   ·rename_i f args ts ho; exact absurd ⟨f,args,ts,ho⟩ hc
   ·exact h
  exact qH C (fun f args ts ho=>hc ⟨f,args,ts,ho⟩) hq h'
inductive Run (ops:Array Oper):List (Oper × FD)→Nat→List (Nat × Hp)→List Wt→List AV→Hp→List AV→List Hp→List Nat→List AV→Hp→Prop where
 | nil {i:Nat} {E:List (Nat × Hp)} {W:List Wt} {T:List AV} {H:Hp}:Run ops [] i E W T H [] [] [] T H
 | quiet {o:Oper} {c:Nat × Nat} {r:List (Oper × FD)} {i:Nat} {E:List (Nat × Hp)} {W:List Wt} {T T':List AV} {H H':Hp} {x:AV} {xs:List AV} {hs:List Hp} {ls:List Nat} (hw:c5 C.as ops T o=some true) (hq:bR o.op=true)
   (hx:EvQ C T H o x) (h:Run ops r (i+1) E W (c_ T o.dst x) H xs hs ls T' H'):Run ops ((o,false,c)::r) i E W T H (x::xs) hs ls T' H'
 | flag {o:Oper} {c:Nat × Nat} {a:AV × Option Nat} {r:List (Oper × FD)} {i:Nat} {E:List (Nat × Hp)} {W:List Wt} {T T':List AV} {H H':Hp} {x:AV} {xs:List AV} {hs:List Hp} {ls:List Nat} (hw:c5 C.as ops T o=some true) (hq:bR o.op=true)
   (ha:mj C.ti T o.op=some a) (hk:∀ h ∈ E,c.1≤h.1→kpA a h.2 H)
   (hx:EvQ C T H o x) (h:Run ops r (i+1) E ((c.2,a)::W) (c_ T o.dst x) H xs hs ls T' H'):Run ops ((o,true,c)::r) i E W T H (x::xs) hs ls T' H'
 | loud {o:Oper} {c:Nat × Nat} {r:List (Oper × FD)} {i:Nat} {E:List (Nat × Hp)} {W:List Wt} {T T':List AV} {H H1 H':Hp} {x:AV} {xs:List AV} {hs:List Hp} {ls:List Nat} (hw:c5 C.as ops T o=some true) (hq:bR o.op=false)
   (hk:∀ a ∈ W,c.1<a.1→kpA a.2 H H1) (hx:Op1 C T H o x H1) (hnw:E3 (P:=P) T o H x H1) (h:Run ops r (i+1) ((c.1,H)::E) W (c_ T o.dst x) H1 xs hs ls T' H'):Run ops ((o,false,c)::r) i E W T H (x::xs) (H1::hs) (i::ls) T' H'
 | skip {o:Oper} {b:FD} {r:List (Oper × FD)} {i:Nat} {E:List (Nat × Hp)} {W:List Wt} {T T':List AV} {H H':Hp} {xs:List AV} {hs:List Hp} {ls:List Nat} (hw:c5 C.as ops T o=some false)
   (h:Run ops r (i+1) E W (c_ T o.dst (.lit undef)) H xs hs ls T' H'):Run ops ((o,b)::r) i E W T H (.lit undef::xs) hs ls T' H'
theorem t6 {T:List AV} {o:Op} {a:AV × Option Nat} (h:mj C.ti T o=some a):bR o=true:=by
 unfold mj at h
 split at h<;>first | rfl | cases h
theorem rq {ops:Array Oper} {o:Oper} {b:FD} {r:List (Oper × FD)} {i:Nat} {E:List (Nat × Hp)} {W:List Wt} {T:List AV} {H:Hp} {K:List AV→Hp→Prop} {R:List (Nat × Hp)→List Wt→AV→Hp→Prop} (hw:c5 C.as ops T o=some true)
  (h:sW C b E W T H o.op R) (hR:∀ E1 W1 x H1,R E1 W1 x H1→∃ xs hs ls T' H',Run C ops r (i+1) E1 W1 (c_ T o.dst x) H1 xs hs ls T' H'∧K T' H'):∃ xs hs ls T' H',Run C ops ((o,b)::r) i E W T H xs hs ls T' H'∧K T' H':=by
 unfold sW at h
 split at h
 ·split at h
  ·rename_i hq
   obtain ⟨x,hk,hx⟩:=we C hq h
   obtain ⟨xs,hs,ls,T',H',hr,hkk⟩:=hR _ _ x H hk
   exact ⟨_,_,_,_,_,.quiet hw hq hx hr,hkk⟩
  ·rename_i hq
   obtain ⟨x,H1,hk,hx,hnw⟩:=LB C h
   obtain ⟨hk1,hk⟩:=pc hk
   obtain ⟨xs,hs,ls,T',H',hr,hkk⟩:=hR _ _ x H1 hk
   rcases hx with hx | ⟨_,hx⟩
   ·exact ⟨_,_,_,_,_,.loud hw hq hk1 (.op hx) hnw hr,hkk⟩
   ·exact ⟨_,_,_,_,_,.loud hw hq hk1 hx hnw hr,hkk⟩
 ·split at h
  ·rename_i a ha
   obtain ⟨hb,h⟩:=nP h
   have hq:=t6 C ha
   obtain ⟨x,hk,hx⟩:=qH C (fun f args ts ho=>by rw [ho] at ha; simp [mj] at ha) hq h
   obtain ⟨xs,hs,ls,T',H',hr,hkk⟩:=hR _ _ x H hk
   exact ⟨_,_,_,_,_,.flag hw hq ha hb hx hr,hkk⟩
  ·exact h.elim
theorem uF {T:List AV} {d:Nat} {b:Bool} (h:evO T (.tmp d)=.lit (.bool b)):T[d]?=some (.lit (.bool b)):=by
 simp only [evO,List.getD_eq_getElem?_getD] at h
 cases hd:T[d]? with
 | none=>rw [hd] at h; simp [undef] at h
 | some x=>rw [hd] at h; simp at h; rw [h]
theorem mY {ops:Array Oper} {o:Oper} {T:List AV} {j d:Nat} {want b:Bool} (hg:o.guard=some (j,want)) (hd:(ops[j]?).bind (·.dst)=some d) (h:evO T (.tmp d)=.lit (.bool b)) (as:List (bW × Bool)) :
  c5 as ops T o=some (bif want then b else !b):=by
 have e:=uF h
 unfold c5
 cases want<;>simp only [hg,hd,Option.bind_some,e]<;>rfl
def sF (T:List AV) (S:List Nat):Prop:=∀ d,El d S=true→evO T (.tmp d)=.lit undef
theorem vM {T:List AV} {o:Option Nat} {x:AV} {d:Nat} (h:o≠some d):evO (c_ T o x) (.tmp d)=evO T (.tmp d):=by
 cases o with
 | none=>rfl
 | some e =>
  have:e≠d:=fun he=>h (by rw [he])
  simp only [evO,c_,List.getD_eq_getElem?_getD,List.getElem?_set,if_neg this]
theorem rV {T:List AV} {d:Nat}:evO (c_ T (some d) (.lit undef)) (.tmp d)=.lit undef:=by
 simp only [evO,c_,List.getD_eq_getElem?_getD,List.getElem?_set,if_true]
 split<;>rfl
theorem sF.rem {T:List AV} {S:List Nat} (h:sF T S) (o:Option Nat) (x:AV):sF (c_ T o x) (G6 o S):=by
 intro d hd
 cases o with
 | none=>exact h d hd
 | some e =>
  simp only [El,G6,List.any_eq_true,List.mem_filter] at hd
  obtain ⟨z,⟨hz,hne⟩,hzd⟩:=hd
  have e1:z=d:=Nat.eq_of_beq_eq_true hzd
  subst e1
  have e2:e≠z:=fun he=>by
   subst he
   rw [hzd] at hne
   cases hne
  rw [vM (fun h=>e2 (by injection h))]
  exact h z (by simp only [El,List.any_eq_true]; exact ⟨z,hz,hzd⟩)
theorem sF.add {T:List AV} {S:List Nat} (h:sF T S) (o:Option Nat):sF (c_ T o (.lit undef)) (AG o S):=by
 intro d hd
 cases o with
 | none=>exact h d hd
 | some e =>
  by_cases he:e=d
  ·subst he; exact rV
  ·rw [vM (fun h=>he (by injection h))]
   refine h d ?_
   simp only [El,AG,List.any_cons,Bool.or_eq_true] at hd ⊢
   rcases hd with hd | hd
   ·exact absurd (Nat.eq_of_beq_eq_true hd) he
   ·exact hd
theorem wh {ops:Array Oper} {o:Oper} {T:List AV} {j d:Nat} {want:Bool} (hg:o.guard=some (j,want)) (hd:(ops[j]?).bind (·.dst)=some d) (h:evO T (.tmp d)=.lit undef) (as:List (bW × Bool)):c5 as ops T o=some false:=by
 simp only [evO,List.getD_eq_getElem?_getD] at h
 unfold c5
 simp only [hg,hd,Option.bind_some]
 cases hx:T[d]? with
 | none=>rfl
 | some x=>rw [hx] at h; simp at h; rw [h]; rfl
theorem gB {ops:Array Oper}:∀ (l:List (Oper × FD)) (i:Nat) {S:List Nat} {E:List (Nat × Hp)} {W:List Wt} {T:List AV} {H:Hp} {K:List AV→Hp→Prop},sF T S→nD C ops l S E W T H K→∃ xs hs ls T' H',Run C ops l i E W T H xs hs ls T' H'∧K T' H'
 | [],i,S,E,W,T,H,K,_,h=>⟨_,_,_,_,_,.nil,h⟩
 | (o,b)::r,i,S,E,W,T,H,K,hS,h=>by
  unfold nD at h
  split at h
  ·rename_i hg
   exact rq C (by unfold c5; rw [hg]) h fun E1 W1 x H1 hk=>gB r (i+1) (hS.rem _ _) hk
  ·rename_i j want hg
   split at h
   case h_2=>exact h.elim
   rename_i d hd
   split at h
   ·rename_i hm
    obtain ⟨xs,hs,ls,T',H',hr,hk⟩:=gB r (i+1) (hS.add _) h
    exact ⟨_,_,_,_,_,.skip (wh hg hd (hS d hm) _) hr,hk⟩
   split at h
   ·rcases uj h with ⟨ht,h⟩ | ⟨ht,h⟩
    ·rw [oI ht] at h
     exact rq C (mY hg hd ht _) h fun E1 W1 x H1 hk=>gB r (i+1) (hS.rem _ _) hk
    ·rw [oI ht] at h
     obtain ⟨xs,hs,ls,T',H',hr,hk⟩:=gB r (i+1) (hS.add _) h
     exact ⟨_,_,_,_,_,.skip (mY hg hd ht _) hr,hk⟩
   ·rcases uj h with ⟨ht,h⟩ | ⟨ht,h⟩
    ·rw [oI ht] at h
     obtain ⟨xs,hs,ls,T',H',hr,hk⟩:=gB r (i+1) (hS.add _) h
     exact ⟨_,_,_,_,_,.skip (mY hg hd ht _) hr,hk⟩
    ·rw [oI ht] at h
     exact rq C (mY hg hd ht _) h fun E1 W1 x H1 hk=>gB r (i+1) (hS.rem _ _) hk
theorem ph {T:List AV}:sF T []:=fun d h=>by cases h
theorem fS {α:Type} {l:List α} {i:Nat} {x:α} {r:List α} (h:l.drop i=x::r):l[i]?=some x∧l.drop (i+1)=r:=by
 refine ⟨?_,by rw [← List.drop_drop,h]; rfl⟩
 have:(l.drop i)[0]?=some x:=by rw [h]; rfl
 rw [List.getElem?_drop] at this
 simpa using this
theorem Run.seqs {ops:Array Oper} {l:List (Oper × FD)} {i:Nat} {E:List (Nat × Hp)} {W:List Wt} {T T':List AV} {H H':Hp} {xs:List AV} {hs:List Hp} {ls:List Nat} (h:Run C ops l i E W T H xs hs ls T' H'):ops.toList.drop i=l.map (·.1)→qu C ops (List.range' i l.length) T H T' H':=by
 induction h with
 | nil=>intro _; exact .nil
 | quiet hw hq hx h ih =>
  intro hl
  obtain ⟨ho,hr⟩:=fS hl
  rw [List.length_cons,List.range'_succ]
  exact .step (by simpa using ho) hw (hx.op1 C) (ih hr)
 | flag hw hq ha hk hx h ih =>
  intro hl
  obtain ⟨ho,hr⟩:=fS hl
  rw [List.length_cons,List.range'_succ]
  exact .step (by simpa using ho) hw (hx.op1 C) (ih hr)
 | loud hw hq hk hx hnw h ih =>
  intro hl
  obtain ⟨ho,hr⟩:=fS hl
  rw [List.length_cons,List.range'_succ]
  exact .step (by simpa using ho) hw hx (ih hr)
 | skip hw h ih =>
  intro hl
  obtain ⟨ho,hr⟩:=fS hl
  rw [List.length_cons,List.range'_succ]
  exact .skip (by simpa using ho) hw (ih hr)
theorem tX (a:AV × Option Nat) (H:Hp):kpA a H H:=by unfold kpA; split<;>trivial
theorem v_ {a:AV × Option Nat} {H H1 H2:Hp} (h:kpA a H H1) (h':kpA a H1 H2):kpA a H H2:=by
 unfold kpA at *
 split
 ·exact h'.trans h
 ·exact h'.trans h
 ·exact h'.trans h
 ·trivial
theorem Ds {a:AV × Option Nat} {H H1:Hp} (h:kpA a H H1):kpA a H1 H:=by
 unfold kpA at *
 split
 ·exact h.symm
 ·exact h.symm
 ·exact h.symm
 ·trivial
theorem Jb {ops:Array Oper} {FL:List FD} (hFL:∀ (q:Nat) (c:Nat × Nat),FL[q]?=some (false,c)→c.1=q) {X:Nat→AV} {HS:Nat→Hp} {LS:List Nat} {T0:List AV} {l:List (Oper × FD)} {i:Nat} {E:List (Nat × Hp)} {W:List Wt} {T T':List AV} {H H':Hp} {xs:List AV} {hs:List Hp} {ls:List Nat} (h:Run C ops l i E W T H xs hs ls T' H') :
  ∀ (m:Nat),ops.toList.drop i=l.map (·.1)→FL.drop i=l.map (·.2)→(∀ j x,xs[j]?=some x→X (i+j)=x)→HS m=H→(∀ j h,hs[j]?=some h→HS (m+1+j)=h)→LS.drop m=ls→(∀ q ∈ LS.take m,q<i)→m≤LS.length→T=TT ops X T0 i→(∀ k,k<m→∃ q,LS[k]?=some q∧(q,HS k) ∈ E) →
   T'=TT ops X T0 ops.size∧H'=HS LS.length∧(∀ q ∈ ls,i≤q∧q<ops.size∧∃ o,ops[q]?=some o∧bR o.op=false)∧(∀ a ∈ W,∀ k,m≤k→k≤LS.length→(∀ m' q,m≤m'→m'<k→LS[m']?=some q→q<a.1)→kpA a.2 (HS m) (HS k)) ∧
   ∀ j o,i≤j→ops[j]?=some o →
    (c5 C.as ops (TT ops X T0 j) o=some false∧X j=.lit undef∧j ∉ LS) ∨
    (c5 C.as ops (TT ops X T0 j) o=some true∧j ∉ LS∧bR o.op=true∧∃ k,k≤LS.length∧EvQ C (TT ops X T0 j) (HS k) o (X j)∧(∀ q ∈ LS.take k,q<j)∧(∀ q ∈ LS.drop k,j<q) ∧
     (∀ c,FL[j]?=some (true,c)→∃ a,mj C.ti (TT ops X T0 j) o.op=some a∧∀ k',k'≤LS.length→(∀ m' q,k'≤m'→m'<k→LS[m']?=some q→c.1≤q)→(∀ m' q,k≤m'→m'<k'→LS[m']?=some q→q<c.2)→kpA a (HS k) (HS k'))) ∨
    (c5 C.as ops (TT ops X T0 j) o=some true∧∃ k,LS[k]?=some j∧Op1 C (TT ops X T0 j) (HS k) o (X j) (HS (k+1))∧E3 (P:=P) (TT ops X T0 j) o (HS k) (X j) (HS (k+1))∧(∀ q ∈ LS.take k,q<j)∧∀ q ∈ LS.drop (k+1),j<q):=by
 induction h with
 | nil =>
  rename_i i E W T H
  intro m hl hfl hX hH hHs hL hlt hml hT hE
  have hmm:m=LS.length:=by
   have:=congrArg List.length hL
   simp at this; omega
  have hi:ops.size≤i:=by
   have:=congrArg List.length hl
   simp at this; omega
  refine ⟨?_,by rw [← hH,hmm],fun q hq=>(by cases hq),fun a ha k h1 h2 _=>?_,fun j o hij hoj=>?_⟩
  ·rw [hT]
   unfold TT
   have:∀ d,TS ops X (fun _=>true) (List.range (ops.size+d)) T0=TS ops X (fun _=>true) (List.range ops.size) T0:=by
    intro d
    induction d with
    | zero=>rfl
    | succ d ih =>
     have:=g_ ops X T0 (ops.size+d)
     unfold TT at this
     rw [show ops.size+(d+1)=ops.size+d+1 by omega,this,ih]
     have:aN ops (ops.size+d)=none:=by
      unfold aN
      rw [Array.getElem?_eq_none (by omega)]
      rfl
     rw [this]
     rfl
   have e:=this (i - ops.size)
   rw [show ops.size+(i - ops.size)=i by omega] at e
   exact e
  ·have:k=m:=by omega
   subst this
   exact tX _ _
  ·have:=(Array.getElem?_eq_some_iff.1 hoj).1
   omega
 | quiet hw hq hx hrec ih =>
  rename_i o c r i E W T T' H H' x xs hs ls
  intro m hl hfl hX hH hHs hL hlt hml hT hE
  obtain ⟨ho',hr⟩:=fS hl
  have ho:ops[i]?=some o:=by simpa using ho'
  have hin:=(Array.getElem?_eq_some_iff.1 ho).1
  obtain ⟨hf0,hfr⟩:=fS hfl
  have hdst:aN ops i=o.dst:=by simp [aN,ho]
  have hXi:X i=x:=hX 0 x rfl
  obtain ⟨q3,q4,q5,q7,q6⟩:=ih m hr hfr (fun j x hj=>by rw [show i+1+j=i+(j+1) by omega]; exact hX (j+1) x (by simpa using hj)) hH hHs hL (fun q hq=>Nat.lt_succ_of_lt (hlt q hq)) hml (by rw [g_,hXi,hT,hdst]) hE
  refine ⟨q3,q4,fun q hq=>⟨by have:=(q5 q hq).1; omega,(q5 q hq).2⟩,q7,fun j o' hij hoj=>?_⟩
  by_cases hj:j=i
  ·subst hj
   rw [ho] at hoj
   cases hoj
   have hni:j ∉ LS:=by
    intro hmem
    rw [← List.take_append_drop m LS,List.mem_append] at hmem
    rcases hmem with hm | hm
    ·have:=hlt j hm; omega
    ·rw [hL] at hm; have:=(q5 j hm).1; omega
   exact .inr (.inl ⟨by rw [← hT]; exact hw,hni,hq,m,hml,by rw [← hT,hH,hXi]; exact hx,hlt,fun q hq=>by rw [hL] at hq; have:=(q5 q hq).1; omega,fun c hb=>by rw [hf0] at hb; cases hb⟩)
  ·exact q6 j o' (by omega) hoj
 | flag hw hq ha hk hx hrec ih =>
  rename_i o c a r i E W T T' H H' x xs hs ls
  intro m hl hfl hX hH hHs hL hlt hml hT hE
  obtain ⟨ho',hr⟩:=fS hl
  have ho:ops[i]?=some o:=by simpa using ho'
  have hin:=(Array.getElem?_eq_some_iff.1 ho).1
  obtain ⟨hf0,hfr⟩:=fS hfl
  have hdst:aN ops i=o.dst:=by simp [aN,ho]
  have hXi:X i=x:=hX 0 x rfl
  obtain ⟨q3,q4,q5,q7,q6⟩:=ih m hr hfr (fun j x hj=>by rw [show i+1+j=i+(j+1) by omega]; exact hX (j+1) x (by simpa using hj)) hH hHs hL (fun q hq=>Nat.lt_succ_of_lt (hlt q hq)) hml (by rw [g_,hXi,hT,hdst]) hE
  refine ⟨q3,q4,fun q hq=>⟨by have:=(q5 q hq).1; omega,(q5 q hq).2⟩,fun b hb=>q7 b (List.mem_cons_of_mem _ hb),fun j o' hij hoj=>?_⟩
  by_cases hj:j=i
  ·subst hj
   rw [ho] at hoj
   cases hoj
   have hni:j ∉ LS:=by
    intro hmem
    rw [← List.take_append_drop m LS,List.mem_append] at hmem
    rcases hmem with hm | hm
    ·have:=hlt j hm; omega
    ·rw [hL] at hm; have:=(q5 j hm).1; omega
   refine .inr (.inl ⟨by rw [← hT]; exact hw,hni,hq,m,hml,by rw [← hT,hH,hXi]; exact hx,hlt,fun q hq=>by rw [hL] at hq; have:=(q5 q hq).1; omega,fun c' hc'=>⟨a,by rw [← hT]; exact ha,fun k' hk' hlo hhi=>?_⟩⟩)
   rw [hf0] at hc'
   cases hc'
   by_cases hlt':k'<m
   ·obtain ⟨q,hq1,hq2⟩:=hE k' hlt'
    rw [hH]; exact Ds (hk _ hq2 (hlo k' q (Nat.le_refl _) hlt' hq1))
   ·exact q7 (c.2,a) (by simp) k' (by omega) hk' hhi
  ·exact q6 j o' (by omega) hoj
 | loud hw hq hk hx hnw hrec ih =>
  rename_i o c r i E W T T' H H1 H' x xs hs ls
  intro m hl hfl hX hH hHs hL hlt hml hT hE
  obtain ⟨ho',hr⟩:=fS hl
  have ho:ops[i]?=some o:=by simpa using ho'
  have hin:=(Array.getElem?_eq_some_iff.1 ho).1
  obtain ⟨hf0,hfr⟩:=fS hfl
  have hdst:aN ops i=o.dst:=by simp [aN,ho]
  have hXi:X i=x:=hX 0 x rfl
  have hm1:m<LS.length:=by
   have:=congrArg List.length hL
   simp at this; omega
  have hLm:LS[m]?=some i:=by
   have:(LS.drop m)[0]?=some i:=by rw [hL]; rfl
   rw [List.getElem?_drop] at this
   simpa using this
  have hH1:HS (m+1)=H1:=hHs 0 H1 rfl
  obtain ⟨q3,q4,q5,q7,q6⟩:=ih (m+1) hr hfr (fun j x hj=>by rw [show i+1+j=i+(j+1) by omega]; exact hX (j+1) x (by simpa using hj)) hH1
   (fun j h hj=>by rw [show m+1+1+j=m+1+(j+1) by omega]; exact hHs (j+1) h (by simpa using hj)) (by rw [← List.drop_drop,hL]; rfl)
   (fun q hq=>by
    rw [List.take_add_one,hLm] at hq
    simp at hq
    rcases hq with hq | hq
    ·exact Nat.lt_succ_of_lt (hlt q hq)
    ·omega) (by omega) (by rw [g_,hXi,hT,hdst])
   (fun k hk'=>by
    by_cases hkm:k=m
    ·subst hkm; exact ⟨i,hLm,by rw [hH,hFL i c (by rw [hf0])]; simp⟩
    ·obtain ⟨q,h1,h2⟩:=hE k (by omega)
     exact ⟨q,h1,List.mem_cons_of_mem _ h2⟩)
  refine ⟨q3,q4,fun q hq'=>?_,fun a ha k h1 h2 h3=>?_,fun j o' hij hoj=>?_⟩
  ·rcases List.mem_cons.1 hq' with rfl | hq'
   ·exact ⟨Nat.le_refl _,hin,o,ho,hq⟩
   ·exact ⟨by have:=(q5 q hq').1; omega,(q5 q hq').2⟩
  ·by_cases hkm:k=m
   ·subst hkm; exact tX _ _
   ·have e1:=hk a ha (by rw [hFL i c (by rw [hf0])]; exact h3 m i (Nat.le_refl _) (by omega) hLm)
    have e2:=q7 a ha k (by omega) h2 fun m' q ha hb hc=>h3 m' q (by omega) hb hc
    rw [hH1] at e2
    rw [hH]
    exact v_ e1 e2
  ·by_cases hj:j=i
   ·subst hj
    rw [ho] at hoj
    cases hoj
    refine .inr (.inr ⟨by rw [← hT]; exact hw,m,hLm,?_⟩)
    refine ⟨by rw [← hT,hH,hH1,hXi]; exact hx,by rw [hH,hH1,hXi]; rw [← hT]; exact hnw,hlt,fun q hq=>?_⟩
    have e:LS.drop (m+1)=ls:=by rw [← List.drop_drop,hL]; rfl
    rw [e] at hq
    have:=(q5 q hq).1
    omega
   ·exact q6 j o' (by omega) hoj
 | skip hw hrec ih =>
  rename_i o b r i E W T T' H H' xs hs ls
  intro m hl hfl hX hH hHs hL hlt hml hT hE
  obtain ⟨ho',hr⟩:=fS hl
  have ho:ops[i]?=some o:=by simpa using ho'
  have hin:=(Array.getElem?_eq_some_iff.1 ho).1
  obtain ⟨hf0,hfr⟩:=fS hfl
  have hdst:aN ops i=o.dst:=by simp [aN,ho]
  have hXi:X i=.lit undef:=hX 0 _ rfl
  obtain ⟨q3,q4,q5,q7,q6⟩:=ih m hr hfr (fun j x hj=>by rw [show i+1+j=i+(j+1) by omega]; exact hX (j+1) x (by simpa using hj)) hH hHs hL (fun q hq=>Nat.lt_succ_of_lt (hlt q hq)) hml (by rw [g_,hXi,hT,hdst]) hE
  refine ⟨q3,q4,fun q hq=>⟨by have:=(q5 q hq).1; omega,(q5 q hq).2⟩,q7,fun j o' hij hoj=>?_⟩
  by_cases hj:j=i
  ·subst hj
   rw [ho] at hoj
   cases hoj
   have hni:j ∉ LS:=by
    intro hmem
    rw [← List.take_append_drop m LS,List.mem_append] at hmem
    rcases hmem with hm | hm
    ·have:=hlt j hm; omega
    ·rw [hL] at hm; have:=(q5 j hm).1; omega
   exact .inl ⟨by rw [← hT]; exact hw,hXi,hni⟩
  ·exact q6 j o' (by omega) hoj
def eZ (o:Op):Bool:=match o with
 | .load _ _=>true
 | .slice _ _ _ _ _=>true
 | .lookup _ _ _ _=>true
 | _=>false
theorem uE {T:List AV} {H H2 M:Hp} {o:Oper} {x:AV} (hq:dx o.op=true) (hd:eZ o.op=false) (h:bT C.ti C.keys C.as T H o=some (x,M)):bT C.ti C.keys C.as T H2 o=some (x,H2):=by
 obtain ⟨dst,op,ty,pos,after,guard⟩:=o
 simp only at hq hd
 unfold bT at h ⊢
 cases op<;>simp only [eZ,Bool.true_eq_false,reduceCtorEq] at hd<;>simp only [dx,Bool.false_eq_true] at hq<;>simp only at h ⊢<;>try (first | (cases h; rfl) | exact dm h)
 case pick c a b =>
  split at h
  ·cases h; rfl
  ·split at h
   ·cases h; rfl
   ·cases h
  ·cases h
 case nilCheck y=>split at h<;>cases h<;>rfl
 case unOp op t y =>
  split at h
  ·simp only [Option.map_eq_some_iff] at h ⊢
   obtain ⟨u,hu,he⟩:=h
   cases he
   exact ⟨u,hu,rfl⟩
  ·split at h<;>cases h<;>rfl
  ·split at h<;>cases h<;>rfl
  ·cases h
 case makeFunc f a b=>split at h<;>cases h<;>rfl
 case extract y i =>
  split at h
  ·exact dm h
  ·cases h
 case call c =>
  obtain ⟨callee,args,ts⟩:=c
  cases callee with
  | builtin b =>
   cases b
   case len =>
    simp only [dW] at h ⊢
    split at h
    ·exact dm h
    ·cases h
   case min=>simp only [dW] at h ⊢; exact dm h
   case max=>simp only [dW] at h ⊢; exact dm h
   all_goals (exfalso; revert hq; simp)
  | _=>exfalso; revert hq; simp
theorem EvQ.indep {T:List AV} {H H2:Hp} {o:Oper} {x:AV} (hd:eZ o.op=false) (h:EvQ C T H o x):EvQ C T H2 o x:=by
 rcases h with ⟨hq,M,h⟩ | ⟨t,m,k,ok,ho,_⟩ | h
 ·exact .inl ⟨hq,_,uE C hq hd h⟩
 ·rw [ho] at hd; cases hd
 ·exact .inr (.inr h)
def qB (ms:List Nat) (i j:Nat):Bool:=bif Nat.blt i j then (ms.getD j 0).testBit i else (ms.getD i 0).testBit j
def JR (l:List (Oper × Nat)) (ms:List Nat) (q:Nat):Nat:=l.foldl (fun m p=>bif !bR p.1.op&&(Nat.blt p.2 q&&(ms.getD q 0).testBit p.2) then p.2+1 else m) 0
def Kh (l:List (Oper × Nat)) (ms:List Nat) (q:Nat):Nat:=l.foldr (fun p m=>bif !bR p.1.op&&(Nat.blt q p.2&&(ms.getD p.2 0).testBit q) then p.2 else m) l.length
def gE (ops:Array Oper):List FD :=
 let l:=ops.toList.zipIdx
 let ms:=cV ops.toList []
 l.map fun q=>bif eZ q.1.op&&l.any fun p=>!bR p.1.op&&(!Nat.beq p.2 q.2&&!qB ms p.2 q.2) then (true,JR l ms q.2,Kh l ms q.2) else (false,q.2,0)
def va (ops:Array Oper):Bool :=
 let l:=ops.toList.zipIdx
 let ms:=cV ops.toList []
 l.all fun q=>match (gE ops)[q.2]? with
  | some (true,lo,hi)=>l.all fun p=>bR p.1.op||((Nat.ble lo p.2||(ms.getD q.2 0).testBit p.2)&&(Nat.blt p.2 hi||(ms.getD p.2 0).testBit q.2))
  | _=>true
def ib (ops:Array Oper):Bool :=
 let l:=ops.toList.zipIdx
 let ms:=cV ops.toList []
 (nb ops&&va ops)&&l.all fun p=>bR p.1.op||l.all fun q=>Nat.beq p.2 q.2||(bR q.1.op||qB ms p.2 q.2)
theorem oz {ops:Array Oper} {i j:Nat} (h:qB (cV ops.toList []) i j=true):(i<j→bV ops j i=true)∧(j<i→bV ops i j=true):=by
 unfold qB at h
 refine ⟨fun hlt=>?_,fun hlt=>?_⟩
 ·have:Nat.blt i j=true:=Nat.ble_eq_true_of_le hlt
  rw [this] at h
  exact h
 ·have:Nat.blt i j=false:=by
   cases hh:Nat.blt i j with
   | false=>rfl
   | true=>have:=Nat.le_of_ble_eq_true (hh:Nat.ble (i+1) j=true); omega
  rw [this] at h
  exact h
theorem fp {ops:Array Oper} {i:Nat} {o:Oper} (h:ops[i]?=some o):(o,i) ∈ ops.toList.zipIdx:=by
 rw [List.mem_zipIdx_iff_getElem?]
 simpa using h
theorem pV {i j:Nat} (h:i≠j):Nat.beq i j=false:=by
 cases hh:Nat.beq i j with
 | false=>rfl
 | true=>exact absurd (Nat.eq_of_beq_eq_true hh) h
theorem tU {ops:Array Oper} (h:ib ops=true) {i j:Nat} {p q:Oper} (hp:ops[i]?=some p) (hq:ops[j]?=some q) (hl:bR p.op=false) (hd:bR q.op=false) (hij:i≠j) :
  (i<j→bV ops j i=true)∧(j<i→bV ops i j=true):=by
 simp only [ib,Bool.and_eq_true] at h
 have h1:=List.all_eq_true.1 h.2 _ (fp hp)
 simp only [hl,Bool.false_or] at h1
 have h2:=List.all_eq_true.1 h1 _ (fp hq)
 simp only [hd,Bool.false_or,pV hij] at h2
 exact oz h2
theorem rh {ops:Array Oper} {j:Nat} {q:Oper} (hq:ops[j]?=some q):∃ b:Bool,b=(eZ q.op&&ops.toList.zipIdx.any fun p=>!bR p.1.op&&(!Nat.beq p.2 j&&!qB (cV ops.toList []) p.2 j)) ∧
  (gE ops)[j]?=some (bif b then (true,JR ops.toList.zipIdx (cV ops.toList []) j,Kh ops.toList.zipIdx (cV ops.toList []) j) else (false,j,0)):=by
 have hz:ops.toList.zipIdx[j]?=some (q,j):=by
  rw [List.getElem?_zipIdx]
  have:ops.toList[j]?=some q:=by simpa using hq
  rw [this]; simp
 refine ⟨_,rfl,?_⟩
 unfold gE
 simp only [List.getElem?_map,hz,Option.map_some]
theorem uS {ops:Array Oper} {j:Nat} {c:Nat × Nat} (h:(gE ops)[j]?=some (false,c)):c.1=j:=by
 have hlt:j<ops.size:=by
  have:=(List.getElem?_eq_some_iff.1 h).1
  simpa [gE] using this
 obtain ⟨b,_,e⟩:=rh (Array.getElem?_eq_getElem hlt)
 rw [e] at h
 cases b<;>simp at h
 rw [← h]
theorem uQ {ops:Array Oper} (h:ib ops=true) {i j:Nat} {p q:Oper} {c:Nat × Nat} (hf:(gE ops)[j]?=some (true,c)) (hp:ops[i]?=some p) (hq:ops[j]?=some q) (hl:bR p.op=false) :
  (i<c.1→bV ops j i=true)∧(c.2≤i→bV ops i j=true):=by
 simp only [ib,Bool.and_eq_true,va] at h
 have h1:=List.all_eq_true.1 h.1.2 _ (fp hq)
 simp only [hf] at h1
 have h2:=List.all_eq_true.1 h1 _ (fp hp)
 simp only [hl,Bool.false_or,Bool.and_eq_true,Bool.or_eq_true] at h2
 refine ⟨fun hlt=>?_,fun hle=>?_⟩
 ·rcases h2.1 with h | h
  ·have:=Nat.le_of_ble_eq_true h; omega
  ·exact h
 ·rcases h2.2 with h | h
  ·have:=Nat.le_of_ble_eq_true (h:Nat.ble (i+1) c.2=true); omega
  ·exact h
theorem w_ {ops:Array Oper} {i j:Nat} {p q:Oper} (hf:∀ c,(gE ops)[j]?≠some (true,c)) (hp:ops[i]?=some p) (hq:ops[j]?=some q) (hl:bR p.op=false) (hd:eZ q.op=true) (hij:i≠j) :
  (i<j→bV ops j i=true)∧(j<i→bV ops i j=true):=by
 obtain ⟨b,hb,e⟩:=rh hq
 cases b with
 | true=>exact absurd e (hf _)
 | false =>
  have hb:=hb.symm
  simp only [hd,Bool.true_and,List.any_eq_false] at hb
  have:=hb _ (fp hp)
  simp only [hl,Bool.not_false,Bool.true_and,pV hij,Bool.not_eq_true,Bool.not_eq_false'] at this
  exact oz (by simpa using this)
theorem dX:∀ {l:List Nat},l.Pairwise (·<·)→∀ (c m q:Nat),l[m]?=some q→(m<(l.filter fun x=>Nat.blt x c).length ↔ q<c)
 | [],_,c,m,q,h=>by simp at h
 | x::l,hp,c,m,q,h=>by
  have hp':=List.pairwise_cons.1 hp
  by_cases hx:x<c
  ·have hb:Nat.blt x c=true:=Nat.ble_eq_true_of_le hx
   rw [List.filter_cons_of_pos (by simpa using hb)]
   cases m with
   | zero=>simp at h; subst h; simp [hx]
   | succ m =>
    have:=dX hp'.2 c m q (by simpa using h)
    simp only [List.length_cons]
    omega
  ·have hb:¬ (Nat.blt x c=true):=fun h=>hx (Nat.le_of_ble_eq_true h)
   rw [List.filter_cons_of_neg (by simpa using hb)]
   have hnone:l.filter (fun x=>Nat.blt x c)=[]:=by
    rw [List.filter_eq_nil_iff]
    intro y hy hyc
    have:=hp'.1 y hy
    have:=Nat.le_of_ble_eq_true (hyc:Nat.ble (y+1) c=true)
    omega
   rw [hnone]
   refine ⟨fun h=>(by simp at h),fun hq=>?_⟩
   cases m with
   | zero=>simp at h; omega
   | succ m =>
    have:=hp'.1 q (List.mem_of_getElem? (by simpa using h:l[m]?=some q))
    omega
theorem wT {T:List AV} {H H2 M:Hp} {o:Oper} {x:AV} {a:AV × Option Nat} (hq:dx o.op=true) (ha:mj C.ti T o.op=some a) (hk:kpA a H H2) (h:bT C.ti C.keys C.as T H o=some (x,M)):bT C.ti C.keys C.as T H2 o=some (x,H2):=by
 obtain ⟨dst,op,ty,pos,after,guard⟩:=o
 simp only at ha
 unfold mj at ha
 split at ha
 ·rename_i t y
  split at ha
  case h_2=>cases ha
  rename_i i hi
  cases ha
  simp only [bT] at h ⊢
  refine k9 (fun z hz=>?_) h
  unfold kM at hz ⊢
  have:b8 H (evO T y) i.size=b8 H2 (evO T y) i.size:=by
   generalize evO T y=v at hk
   cases v<;>first | rfl | skip
   simp only [kpA] at hk
   exact hk.symm
  rw [hi] at hz ⊢
  simp only [this] at hz ⊢
  exact hz
 ·rename_i t y lo hi mx
  cases ha
  simp only [bT] at h ⊢
  split at h
  ·refine k9 (fun z hz=>?_) h
   unfold gI at hz ⊢
   split at hz<;>try exact hz
   rename_i n e _ _ _
   unfold ge at hz ⊢
   generalize evO T y=v at hk hz
   split at hz
   ·cases v<;>first | exact hz | skip
    simp only [kpA] at hk
    simp only [hk]
    exact hz
   ·cases hz
  ·cases h
 ·cases hq
 ·cases ha
theorem EvQ.kp {T:List AV} {H H2:Hp} {o:Oper} {x:AV} {a:AV × Option Nat} (ha:mj C.ti T o.op=some a) (hk:kpA a H H2) (h:EvQ C T H o x):EvQ C T H2 o x:=by
 rcases h with ⟨hq,M,h⟩ | ⟨t,m,k,ok,ho,i,kt,et,ie,ag,ks,z,hi,hd,hie,hmk,hz,hr⟩ | h
 rotate_left 2
 ·exact .inr (.inr h)
 ·exact .inl ⟨hq,_,wT C hq ha hk h⟩
 ·rw [ho] at ha
  cases ha
  refine .inr (.inl ⟨t,m,k,ok,ho,i,kt,et,ie,ag,ks,z,hi,hd,hie,hmk,hz,?_⟩)
  rw [← hr]
  generalize evO T m=v at hk
  unfold tf
  cases v with
  | mp id=>simp only [kpA] at hk; simp only [hk]
  | lit u=>cases u<;>first | rfl | (rename_i o; cases o<;>rfl)
  | _=>rfl
theorem tB (hm:P.follows .mixedOrders=true) {ops:Array Oper} (hs:ib ops=true) {T T':List AV} {H H':Hp} {xs:List AV} {hps:List Hp} {ls:List Nat} (h:Run C ops (ops.toList.zip (gE ops)) 0 [] [] T H xs hps ls T' H'):kE (P:=P) C.σ ops T H T' H':=by
 have hst:yi ops:=by
  simp only [ib,Bool.and_eq_true] at hs
  exact m_ hs.1.1
 let X:Nat→AV:=fun j=>xs.getD j (.lit undef)
 let HS:Nat→Hp:=fun k=>(H::hps).getD k H
 have hlen:ops.toList.length=(gE ops).length:=by simp [gE]
 obtain ⟨q3,q4,q5,_,q6⟩:=Jb C (FL:=gE ops) (X:=X) (HS:=HS) (LS:=ls) (T0:=T) (fun q c hc=>uS hc) h 0 (by rw [List.map_fst_zip (by omega)]; rfl) (by rw [List.map_snd_zip (by omega)]; rfl) (fun j x hj=>by simp [X,hj]) rfl (fun j h hj=>by
   show (H::hps).getD (0+1+j) H=h
   rw [show 0+1+j=j+1 by omega]
   simp [hj]) (by simp) (by simp) (Nat.zero_le _) rfl (fun k hk=>absurd hk (Nat.not_lt_zero _))
 have grow:∀ {i:Nat} {l:List (Oper × FD)} {E:List (Nat × Hp)} {W:List Wt} {T T':List AV} {H H':Hp} {xs:List AV} {hps:List Hp} {ls:List Nat},Run C ops l i E W T H xs hps ls T' H'→(∀ q ∈ ls,i≤q)∧ls.Pairwise (·<·):=by
  intro i l E W T T' H H' xs hps ls h
  induction h with
  | nil=>exact ⟨fun q hq=>(by cases hq),List.Pairwise.nil⟩
  | flag hw hq ha hk hx h ih=>exact ⟨fun q hq=>by have:=ih.1 q hq; omega,ih.2⟩
  | quiet hw hq hx h ih=>exact ⟨fun q hq=>by have:=ih.1 q hq; omega,ih.2⟩
  | loud hw hq hk hx hnw h ih =>
   refine ⟨fun q hq'=>?_,List.Pairwise.cons (fun q hq'=>?_) ih.2⟩
   ·rcases List.mem_cons.1 hq' with rfl | hq'
    ·exact Nat.le_refl _
    ·have:=ih.1 q hq'; omega
   ·have:=ih.1 q hq'; omega
  | skip hw h ih=>exact ⟨fun q hq=>by have:=ih.1 q hq; omega,ih.2⟩
 have hg:=(grow h).2
 rw [q3,q4]
 refine vq C hm hst ⟨rfl,fun i o ho=>?_,fun m l l' h1 h2=>?_,fun l hl=>(q5 l hl).2.1⟩
 ·rcases q6 i o (Nat.zero_le _) ho with h | ⟨h1,h2,h3,k,hk,hev,hlt,hgt,hnp⟩ | h
  ·exact .inl h
  ·refine .inr (.inl ⟨h1,h2,?_⟩)
   cases hd:eZ o.op with
   | false=>exact ⟨0,ls.length,Nat.zero_le _,fun k' _ _=>(hev.indep C hd).op1 C,fun m l hl=>⟨fun h=>absurd h (Nat.not_lt_zero _),fun h=>by have:=(List.getElem?_eq_some_iff.1 hl).1; omega⟩⟩
   | true =>
    by_cases hfl:∃ c,(gE ops)[i]?=some (true,c)
    ·obtain ⟨c,hfl⟩:=hfl
     obtain ⟨a,ha,hka⟩:=hnp c hfl
     have hlen':∀ c,(ls.filter fun x=>Nat.blt x c).length≤ls.length:=fun c=>List.length_filter_le _ _
     refine ⟨(ls.filter fun x=>Nat.blt x c.1).length,(ls.filter fun x=>Nat.blt x c.2).length,hlen' _,fun k' h4 h5=>(EvQ.kp C ha (hka k' (Nat.le_trans h5 (hlen' _)) (fun m' q hm hm' hq=>?_) (fun m' q hm hm' hq=>?_)) hev).op1 C,fun m l hl=>?_⟩
     ·have:=dX hg c.1 m' q hq
      omega
     ·have:=dX hg c.2 m' q hq
      omega
     ·obtain ⟨_,hls,ol,hol,hql⟩:=q5 l (List.mem_of_getElem? hl)
      have h6:=uQ hs hfl hol ho hql
      exact ⟨fun hm=>h6.1 ((dX hg c.1 m l hl).1 hm),fun hm=>h6.2 (by have:=dX hg c.2 m l hl; omega)⟩
    ·refine ⟨k,k,hk,fun k' h4 h5=>?_,fun m l hl=>?_⟩
     ·have:k'=k:=by omega
      subst this
      exact hev.op1 C
     ·obtain ⟨_,hls,ol,hol,hql⟩:=q5 l (List.mem_of_getElem? hl)
      have hne:l≠i:=by rintro rfl; exact h2 (List.mem_of_getElem? hl)
      have hp:=w_ (fun c hc=>hfl ⟨c,hc⟩) hol ho hql hd hne
      refine ⟨fun hmk=>hp.1 (hlt l ?_),fun hmk=>hp.2 (hgt l ?_)⟩
      ·exact List.mem_of_getElem? (i:=m) (by rw [List.getElem?_take,if_pos hmk]; exact hl)
      ·exact List.mem_of_getElem? (i:=m - k) (by rw [List.getElem?_drop,show k+(m - k)=m by omega]; exact hl)
  ·obtain ⟨h1,m,h2,h3,_⟩:=h
   exact .inr (.inr ⟨h1,m,h2,h3⟩)
 ·obtain ⟨_,_,o1,ho1,hq1⟩:=q5 l (List.mem_of_getElem? h1)
  obtain ⟨_,_,o2,ho2,hq2⟩:=q5 l' (List.mem_of_getElem? h2)
  have hlt:l<l':=by
   have e1:=List.getElem?_eq_some_iff.1 h1
   have e2:=List.getElem?_eq_some_iff.1 h2
   obtain ⟨a1,rfl⟩:=e1
   obtain ⟨a2,rfl⟩:=e2
   exact List.pairwise_iff_getElem.1 hg _ _ a1 a2 (Nat.lt_succ_self _)
  exact (tU hs ho1 ho2 hq1 hq2 (by omega)).1 hlt
def mh (o:Oper):Bool:=sM o.op&&match o.guard,o.dst with
 | none,some _=>true
 | _,_=>false
def PS (o:Op):Bool:=match o with
 | .alloc _=>true
 | _=>false
def iW (ops:Array Oper):List Nat :=
 let l:=ops.toList.zipIdx
 let ms:=cV ops.toList []
 (l.filter fun p=>mh p.1&&l.any fun r=>!bR r.1.op&&(!Nat.beq r.2 p.2&&(!qB ms r.2 p.2&&(PS p.1.op||!sM r.1.op)))).map (·.2)
def kh (l:List Nat) (i:Nat):Bool:=l.any (Nat.beq i)
def lqD (l:List (Oper × Nat)) (free:List Nat):Nat:=l.foldr (fun p m=>bif !bR p.1.op&&(!kh free p.2&&free.all (Nat.blt · p.2)) then p.2 else m) l.length
def g7 (ops:Array Oper) (free:List Nat):List FD :=
 let l:=ops.toList.zipIdx
 let l':=l.filter fun p=>!kh free p.2
 let ms:=cV ops.toList []
 l.map fun q=>bif eZ q.1.op&&l'.any fun p=>!bR p.1.op&&(!Nat.beq p.2 q.2&&!qB ms p.2 q.2) then (true,JR l' ms q.2,Kh l' ms q.2) else (false,q.2,0)
def mE (ops:Array Oper) (free:List Nat) (T:List AV):List AV:=free.foldl (fun T f=>match aN ops f with | some d=>T.set d .any | none=>T) T
def vw (ops:Array Oper):Bool :=
 let l:=ops.toList.zipIdx
 let ms:=cV ops.toList []
 let free:=iW ops
 let lq:=lqD l free
 nb ops&&(Nat.blt lq ops.size&&((match ops[lq]? with | some o=>(match o.guard with | none=>!bR o.op&&!kh free lq | some _=>false) | none=>false) &&
 ((l.all fun p=>bR p.1.op||(kh free p.2||(free.all (Nat.blt p.2 ·)||Nat.ble lq p.2))) &&
 ((l.all fun p=>!eZ p.1.op||(free.all (Nat.blt p.2 ·)||Nat.ble lq p.2)) &&
 ((l.all fun p=>bR p.1.op||(kh free p.2||l.all fun q=>Nat.beq p.2 q.2||(bR q.1.op||(kh free q.2||qB ms p.2 q.2)))) &&
 ((free.all fun f=>(ms.getD lq 0).testBit f&&Nat.blt f lq) &&
 ((l.all fun p=>free.all fun f=>(match aN ops f with | some d=>!(p.1.looksAt ops).any (Nat.beq d) | none=>true)||(Nat.beq p.2 lq||(ms.getD p.2 0).testBit lq)) &&
 (l.all fun q=>match (g7 ops free)[q.2]? with
  | some (true,lo,hi)=>(free.all (Nat.ble lo ·)||Nat.blt lq lo)&&l.all fun p=>bR p.1.op||(kh free p.2||((Nat.ble lo p.2||(ms.getD q.2 0).testBit p.2)&&(Nat.blt p.2 hi||(ms.getD p.2 0).testBit q.2)))
  | _=>true))))))))
theorem kB {l:List Nat} {i:Nat}:kh l i=true ↔ i ∈ l:=by
 unfold kh
 rw [List.any_eq_true]
 exact ⟨fun ⟨x,hx,he⟩=>by rw [Nat.eq_of_beq_eq_true he]; exact hx,fun h=>⟨i,h,by simp⟩⟩
theorem j2 {a b:Nat}:Nat.blt a b=true ↔ a<b:=⟨fun h=>Nat.le_of_ble_eq_true h,fun h=>Nat.ble_eq_true_of_le h⟩
theorem mK {a b:Nat}:Nat.ble a b=true ↔ a≤b:=⟨fun h=>Nat.le_of_ble_eq_true h,fun h=>Nat.ble_eq_true_of_le h⟩
theorem o_:∀ {l r:List Nat},l.Pairwise (·<·)→r.Pairwise (·<·)→(∀ x,x ∈ l ↔ x ∈ r)→l=r
 | [],[],_,_,_=>rfl
 | [],y::r,_,_,h=>by have:=(h y).2 (by simp); cases this
 | x::l,[],_,_,h=>by have:=(h x).1 (by simp); cases this
 | x::l,y::r,hl,hr,h=>by
  have hl':=List.pairwise_cons.1 hl
  have hr':=List.pairwise_cons.1 hr
  have hxy:x=y:=by
   rcases List.mem_cons.1 ((h x).1 (by simp)) with e | e
   ·exact e
   ·rcases List.mem_cons.1 ((h y).2 (by simp)) with e' | e'
    ·exact e'.symm
    ·have:=hr'.1 x e; have:=hl'.1 y e'; omega
  subst hxy
  congr 1
  refine o_ hl'.2 hr'.2 fun z=>⟨fun hz=>?_,fun hz=>?_⟩
  ·rcases List.mem_cons.1 ((h z).1 (by simp [hz])) with e | e
   ·subst e; have:=hl'.1 z hz; omega
   ·exact e
  ·rcases List.mem_cons.1 ((h z).2 (by simp [hz])) with e | e
   ·subst e; have:=hr'.1 z hz; omega
   ·exact e
theorem qJ {l:List Nat} (h:l.Pairwise (·<·)) {i j x:Nat} (hi:l[i]?=some x) (hj:l[j]?=some x):i=j:=by
 obtain ⟨a,e1⟩:=List.getElem?_eq_some_iff.1 hi
 obtain ⟨b,e2⟩:=List.getElem?_eq_some_iff.1 hj
 rcases Nat.lt_trichotomy i j with h1 | h1 | h1
 ·have:=List.pairwise_iff_getElem.1 h i j a b h1; omega
 ·exact h1
 ·have:=List.pairwise_iff_getElem.1 h j i b a h1; omega
theorem wG {l:List Nat} (h:l.Pairwise (·<·)) {i j x y:Nat} (hi:l[i]?=some x) (hj:l[j]?=some y) (hij:i<j):x<y:=by
 obtain ⟨a,e1⟩:=List.getElem?_eq_some_iff.1 hi
 obtain ⟨b,e2⟩:=List.getElem?_eq_some_iff.1 hj
 have:=List.pairwise_iff_getElem.1 h i j a b hij
 omega
theorem rR (ops:Array Oper):(iW ops).Pairwise (·<·):=by
 unfold iW
 have hsub:((ops.toList.zipIdx.filter fun p=>mh p.1&&ops.toList.zipIdx.any fun r=>!bR r.1.op&&(!Nat.beq r.2 p.2&&(!qB (cV ops.toList []) r.2 p.2&&(PS p.1.op||!sM r.1.op)))).map (·.2)).Sublist (ops.toList.zipIdx.map (·.2)):=(List.filter_sublist).map _
 have e:ops.toList.zipIdx.map (·.2)=List.range' 0 ops.toList.length:=by
  apply List.ext_getElem?
  intro i
  rw [List.getElem?_map,List.getElem?_zipIdx]
  by_cases h:i<ops.toList.length
  ·rw [List.getElem?_eq_getElem h,List.getElem?_range' h]; simp
  ·rw [List.getElem?_eq_none (by omega),List.getElem?_eq_none (by simp at h ⊢; omega)]; rfl
 refine List.Pairwise.sublist hsub ?_
 rw [e]
 exact List.pairwise_lt_range'
theorem v4 {ops:Array Oper} {f:Nat} (h:f ∈ iW ops):∃ o,ops[f]?=some o∧mh o=true:=by
 unfold iW at h
 obtain ⟨p,hp,rfl⟩:=List.mem_map.1 h
 have h1:=List.mem_filter.1 hp
 have h2:=List.mem_zipIdx_iff_getElem?.1 h1.1
 simp only [Bool.and_eq_true] at h1
 exact ⟨p.1,by simpa using h2,h1.2.1⟩
theorem uv {o:Oper} (h:mh o=true):∃ d,sM o.op=true∧o.guard=none∧o.dst=some d:=by
 unfold mh at h
 simp only [Bool.and_eq_true] at h
 obtain ⟨h0,h⟩:=h
 split at h
 ·rename_i h2 h3; exact ⟨_,h0,h2,h3⟩
 ·cases h
theorem JO {o:Op} (h:sM o=true):bR o=false:=by
 unfold sM at h
 split at h
 ·rfl
 ·rfl
 ·cases h
theorem pB (ops:Array Oper):∀ (free:List Nat) (T:List AV),(mE ops free T).length=T.length
 | [],T=>rfl
 | f::r,T=>by
  show (mE ops r (match aN ops f with | some d=>T.set d .any | none=>T)).length=_
  rw [pB ops r]
  split<;>simp
theorem oW {ops:Array Oper}:∀ (free:List Nat) (T:List AV) (i:Nat),(mE ops free T)[i]?=T[i]?∨(i<T.length∧(mE ops free T)[i]?=some .any)
 | [],T,i=>.inl rfl
 | f::r,T,i=>by
  have ih:=oW (ops:=ops) r (match aN ops f with | some d=>T.set d .any | none=>T) i
  have hl:(match aN ops f with | some d=>T.set d .any | none=>T).length=T.length:=by split<;>simp
  have hT:(match aN ops f with | some d=>T.set d .any | none=>T)[i]?=T[i]?∨(i<T.length∧(match aN ops f with | some d=>T.set d .any | none=>T)[i]?=some .any):=by
   split
   ·rename_i d _
    rw [List.getElem?_set]
    by_cases h:d=i
    ·subst h
     by_cases h2:d<T.length
     ·exact .inr ⟨h2,by simp [h2]⟩
     ·left; simp [h2]
    ·left; rw [if_neg h]
   ·exact .inl rfl
  rw [hl] at ih
  rcases ih with ih | ih
  ·rcases hT with hT | hT
   ·exact .inl (by rw [← hT]; exact ih)
   ·exact .inr ⟨hT.1,by rw [← hT.2]; exact ih⟩
  ·exact .inr ih
theorem tz {ops:Array Oper} {d:Nat}:∀ (free:List Nat) (T:List AV) (f:Nat),f ∈ free→aN ops f=some d→d<T.length→(mE ops free T)[d]?=some .any
 | [],T,f,h,_,_=>by cases h
 | g::r,T,f,h,hd,hl=>by
  have e:mE ops (g::r) T=mE ops r (match aN ops g with | some d=>T.set d .any | none=>T):=rfl
  rcases List.mem_cons.1 h with rfl | h
  ·rw [e,hd]
   rcases oW (ops:=ops) r (T.set d .any) d with h1 | h1
   ·rw [h1]; simp [hl]
   ·exact h1.2
  ·rw [e]
   refine tz r _ f h hd ?_
   split<;>simpa using hl
theorem DL {E:Env} {ops:Array Oper} {free:List Nat} {T:List AV} {tmps:Array Value} (h:bh E T tmps):bh E (mE ops free T) tmps:=by
 refine ⟨by rw [pB]; exact h.len,fun i x v hx hv=>?_⟩
 rcases oW (ops:=ops) free T i with e | e
 ·exact h.at_ i x v (by rw [← e]; exact hx) hv
 ·rw [e.2] at hx
  cases hx
  exact .any _
structure Qt (ops:Array Oper) (free:List Nat) (lq:Nat):Prop where
 st:nb ops=true
 lt:lq<ops.size
 lqo:∃ o,ops[lq]?=some o∧o.guard=none∧bR o.op=false∧lq ∉ free
 near:∀ (i:Nat) (o:Oper),ops[i]?=some o→bR o.op=false→i ∉ free→(∀ f ∈ free,i<f)∨lq≤i
 heap:∀ (i:Nat) (o:Oper),ops[i]?=some o→eZ o.op=true→(∀ f ∈ free,i<f)∨lq≤i
 ord:∀ (i j:Nat) (p q:Oper),ops[i]?=some p→ops[j]?=some q→bR p.op=false→bR q.op=false→i ∉ free→j ∉ free→i<j→bV ops j i=true
 pre:∀ f ∈ free,bV ops lq f=true∧f<lq
 late:∀ (i:Nat) (o:Oper),ops[i]?=some o→∀ t ∈ o.looksAt ops,∀ f ∈ free,aN ops f=some t→i=lq∨bV ops i lq=true
 flag:∀ (j:Nat) (q:Oper) (c:Nat × Nat),ops[j]?=some q→(g7 ops free)[j]?=some (true,c)→((∀ f ∈ free,c.1≤f)∨lq<c.1) ∧
  ∀ (i:Nat) (p:Oper),ops[i]?=some p→bR p.op=false→i ∉ free→(i<c.1→bV ops j i=true)∧(c.2≤i→bV ops i j=true)
theorem FO {ops:Array Oper} (h:vw ops=true):Qt ops (iW ops) (lqD ops.toList.zipIdx (iW ops)):=by
 simp only [vw,Bool.and_eq_true] at h
 obtain ⟨h1,h2,h3,h4,h5,h6,h7,h8,h9⟩:=h
 have nm:∀ {i:Nat},i ∉ iW ops→kh (iW ops) i=false:=fun hi=>by
  cases hb:kh (iW ops) _ with
  | false=>rfl
  | true=>exact absurd (kB.1 hb) hi
 refine ⟨h1,j2.1 h2,?_,fun i o ho hq hf=>?_,fun i o ho hd=>?_,fun i j p q hp hq hl hl' hf hf' hij=>?_,fun f hf=>?_,fun i o ho t ht f hf hd=>?_,fun j q c hq hc=>?_⟩
 ·split at h3
  ·rename_i o ho
   split at h3
   ·rename_i hg
    simp only [Bool.and_eq_true,Bool.not_eq_true'] at h3
    exact ⟨o,ho,hg,h3.1,fun hm=>by rw [kB.2 hm] at h3; cases h3.2⟩
   ·cases h3
  ·cases h3
 ·have:=List.all_eq_true.1 h4 _ (fp ho)
  simp only [hq,Bool.false_or,nm hf,Bool.or_eq_true] at this
  rcases this with h | h
  ·exact .inl fun f hf=>j2.1 (List.all_eq_true.1 h f hf)
  ·exact .inr (mK.1 h)
 ·have:=List.all_eq_true.1 h5 _ (fp ho)
  simp only [hd,Bool.not_true,Bool.false_or,Bool.or_eq_true] at this
  rcases this with h | h
  ·exact .inl fun f hf=>j2.1 (List.all_eq_true.1 h f hf)
  ·exact .inr (mK.1 h)
 ·have:=List.all_eq_true.1 h6 _ (fp hp)
  simp only [hl,Bool.false_or,nm hf] at this
  have:=List.all_eq_true.1 this _ (fp hq)
  simp only [hl',Bool.false_or,nm hf',pV (Nat.ne_of_lt hij)] at this
  exact (oz this).1 hij
 ·have:=List.all_eq_true.1 h7 f hf
  simp only [Bool.and_eq_true] at this
  exact ⟨this.1,j2.1 this.2⟩
 ·have:=List.all_eq_true.1 (List.all_eq_true.1 h8 _ (fp ho)) f hf
  simp only [hd,Bool.or_eq_true,Bool.not_eq_true'] at this
  rcases this with h | h | h
  ·exfalso
   have:(o.looksAt ops).any (Nat.beq t)=true:=List.any_eq_true.2 ⟨t,ht,by simp⟩
   rw [h] at this; cases this
  ·exact .inl (Nat.eq_of_beq_eq_true h)
  ·exact .inr h
 ·have:=List.all_eq_true.1 h9 _ (fp hq)
  simp only [hc,Bool.and_eq_true,Bool.or_eq_true] at this
  obtain ⟨ha,hb⟩:=this
  refine ⟨?_,fun i p hp hl hf=>?_⟩
  ·rcases ha with h | h
   ·exact .inl fun f hf=>mK.1 (List.all_eq_true.1 h f hf)
   ·exact .inr (j2.1 h)
  ·have:=List.all_eq_true.1 hb _ (fp hp)
   simp only [hl,nm hf,Bool.false_or,Bool.or_eq_true,Bool.and_eq_true] at this
   refine ⟨fun hlt=>?_,fun hle=>?_⟩
   ·rcases this.1 with h | h
    ·have:=mK.1 h; omega
    ·exact h
   ·rcases this.2 with h | h
    ·have:=j2.1 h; omega
    ·exact h
theorem qI {ops:Array Oper} {free:List Nat} {j:Nat} {q:Oper} (hq:ops[j]?=some q):∃ b:Bool,b=(eZ q.op&&(ops.toList.zipIdx.filter fun p=>!kh free p.2).any fun p=>!bR p.1.op&&(!Nat.beq p.2 j&&!qB (cV ops.toList []) p.2 j)) ∧
  (g7 ops free)[j]?=some (bif b then (true,JR (ops.toList.zipIdx.filter fun p=>!kh free p.2) (cV ops.toList []) j,Kh (ops.toList.zipIdx.filter fun p=>!kh free p.2) (cV ops.toList []) j) else (false,j,0)):=by
 have hz:ops.toList.zipIdx[j]?=some (q,j):=by
  rw [List.getElem?_zipIdx]
  have:ops.toList[j]?=some q:=by simpa using hq
  rw [this]; simp
 refine ⟨_,rfl,?_⟩
 unfold g7
 simp only [List.getElem?_map,hz,Option.map_some]
theorem t5 {ops:Array Oper} {free:List Nat} {j:Nat} {c:Nat × Nat} (h:(g7 ops free)[j]?=some (false,c)):c.1=j:=by
 have hlt:j<ops.size:=by
  have:=(List.getElem?_eq_some_iff.1 h).1
  simpa [g7] using this
 obtain ⟨b,_,e⟩:=qI (free:=free) (Array.getElem?_eq_getElem hlt)
 rw [e] at h
 cases b<;>simp at h
 rw [← h]
theorem wF {ops:Array Oper} {free:List Nat} {i j:Nat} {p q:Oper} (hf:∀ c,(g7 ops free)[j]?≠some (true,c)) (hp:ops[i]?=some p) (hq:ops[j]?=some q) (hl:bR p.op=false) (hn:i ∉ free) (hd:eZ q.op=true) (hij:i≠j) :
  (i<j→bV ops j i=true)∧(j<i→bV ops i j=true):=by
 obtain ⟨b,hb,e⟩:=qI (free:=free) hq
 cases b with
 | true=>exact absurd e (hf _)
 | false =>
  have hb:=hb.symm
  simp only [hd,Bool.true_and,List.any_eq_false] at hb
  have hm:kh free i=false:=by
   cases hb:kh free i with
   | false=>rfl
   | true=>exact absurd (kB.1 hb) hn
  have:=hb (p,i) (List.mem_filter.2 ⟨fp hp,by simp only [hm,Bool.not_false]⟩)
  simp only [hl,Bool.not_false,Bool.true_and,pV hij,Bool.not_eq_true,Bool.not_eq_false'] at this
  exact oz (by simpa using this)
theorem sU:∀ (l r:List Blk) (H:Hp),nJ H (l++r)=nJ (nJ H l) r
 | [],r,H=>rfl
 | b::l,r,H=>sU l r (H.new b)
theorem rL (hm:P.follows .mixedOrders=true) {ops:Array Oper} (hs:vw ops=true) {T T':List AV} {H H':Hp} {xs:List AV} {hps:List Hp} {ls:List Nat} (h:Run C ops (ops.toList.zip (g7 ops (iW ops))) 0 [] [] (mE ops (iW ops) T) H xs hps ls T' H'):kE (P:=P) C.σ ops T H T' H':=by
 have D:=FO hs
 have hfs:=rR ops
 have hfm:=@v4 _ ops
 generalize iW ops=free at D hfs hfm h
 generalize lqD ops.toList.zipIdx free=lq at D
 have hst:yi ops:=m_ D.st
 let X:Nat→AV:=fun j=>xs.getD j (.lit undef)
 let HS:Nat→Hp:=fun k=>(H::hps).getD k H
 have hlen:ops.toList.length=(g7 ops free).length:=by simp [g7]
 obtain ⟨q3,q4,q5,_,q6⟩:=Jb C (FL:=g7 ops free) (X:=X) (HS:=HS) (LS:=ls) (T0:=mE ops free T) (fun q c hc=>t5 hc) h 0 (by rw [List.map_fst_zip (by omega)]; rfl) (by rw [List.map_snd_zip (by omega)]; rfl) (fun j x hj=>by simp [X,hj]) rfl (fun j h hj=>by
   show (H::hps).getD (0+1+j) H=h
   rw [show 0+1+j=j+1 by omega]
   simp [hj]) (by simp) (by simp) (Nat.zero_le _) rfl (fun k hk=>absurd hk (Nat.not_lt_zero _))
 have grow:∀ {i:Nat} {l:List (Oper × FD)} {E:List (Nat × Hp)} {W:List Wt} {T T':List AV} {H H':Hp} {xs:List AV} {hps:List Hp} {ls:List Nat},Run C ops l i E W T H xs hps ls T' H'→(∀ q ∈ ls,i≤q)∧ls.Pairwise (·<·):=by
  intro i l E W T T' H H' xs hps ls h
  induction h with
  | nil=>exact ⟨fun q hq=>(by cases hq),List.Pairwise.nil⟩
  | flag hw hq ha hk hx h ih=>exact ⟨fun q hq=>by have:=ih.1 q hq; omega,ih.2⟩
  | quiet hw hq hx h ih=>exact ⟨fun q hq=>by have:=ih.1 q hq; omega,ih.2⟩
  | loud hw hq hk hx hnw h ih =>
   refine ⟨fun q hq'=>?_,List.Pairwise.cons (fun q hq'=>?_) ih.2⟩
   ·rcases List.mem_cons.1 hq' with rfl | hq'
    ·exact Nat.le_refl _
    ·have:=ih.1 q hq'; omega
   ·have:=ih.1 q hq'; omega
  | skip hw h ih=>exact ⟨fun q hq=>by have:=ih.1 q hq; omega,ih.2⟩
 have hg:=(grow h).2
 have hloud:∀ r ∈ ls,∃ o,ops[r]?=some o∧bR o.op=false:=fun r hr=>(q5 r hr).2.2
 have hfree:∀ f ∈ free,∃ (m:Nat) (o:Oper) (d:Nat) (p:List AV × Option (Nat × Nat)),ls[m]?=some f∧ops[f]?=some o∧o.guard=none∧o.dst=some d∧Mk (P:=P) (TT ops X (mE ops free T) f) o p.1 p.2∧X f=sO p.2 (HS m).n∧HS (m+1)=(HS m).new (.cells p.1 true):=by
  intro f hf
  obtain ⟨o,ho,hu⟩:=hfm hf
  obtain ⟨d,h1,h2,h3⟩:=uv hu
  rcases q6 f o (Nat.zero_le _) ho with ⟨hw,_⟩ | ⟨_,_,hq,_⟩ | ⟨_,m,hm,_,hn,_⟩
  ·exfalso; unfold c5 at hw; rw [h2] at hw; cases hw
  ·exfalso; rw [JO h1] at hq; cases hq
  ·obtain ⟨cs,k,a1,a2,a3⟩:=hn h1
   exact ⟨m,o,d,(cs,k),hm,ho,h2,h3,a1,a2,a3⟩
 have hch:∀ f,∃ p:List AV × Option (Nat × Nat),f ∈ free→∃ (m:Nat) (o:Oper) (d:Nat),ls[m]?=some f∧ops[f]?=some o∧o.guard=none∧o.dst=some d∧Mk (P:=P) (TT ops X (mE ops free T) f) o p.1 p.2∧X f=sO p.2 (HS m).n∧HS (m+1)=(HS m).new (.cells p.1 true):=by
  intro f
  by_cases hf:f ∈ free
  ·obtain ⟨m,o,d,p,h⟩:=hfree f hf
   exact ⟨p,fun _=>⟨m,o,d,h⟩⟩
  ·exact ⟨([],none),fun h=>absurd h hf⟩
 obtain ⟨pf,hpf⟩:=Classical.axiomOfChoice hch
 clear hfree
 have hfree:=hpf
 obtain ⟨olq,holq,hglq,hqlq,hnlq⟩:=D.lqo
 have hlqls:lq ∈ ls:=by
  rcases q6 lq olq (Nat.zero_le _) holq with ⟨hw,_⟩ | ⟨_,_,hq,_⟩ | ⟨_,m,hm,_⟩
  ·exfalso; unfold c5 at hw; rw [hglq] at hw; cases hw
  ·exfalso; rw [hqlq] at hq; cases hq
  ·exact List.mem_of_getElem? hm
 obtain ⟨A,hA⟩:∃ A,A=ls.filter fun x=>Nat.blt x lq&&!kh free x:=⟨_,rfl⟩
 obtain ⟨Bs,hB⟩:∃ Bs,Bs=ls.filter fun x=>Nat.ble lq x:=⟨_,rfl⟩
 have mA:∀ x,x ∈ A ↔ x ∈ ls∧x<lq∧x ∉ free:=fun x=>by
  rw [hA,List.mem_filter]
  simp only [Bool.and_eq_true,j2,Bool.not_eq_true']
  constructor
  ·rintro ⟨h1,h2,h3⟩
   exact ⟨h1,h2,fun hm=>by rw [kB.2 hm] at h3; cases h3⟩
  ·rintro ⟨h1,h2,h3⟩
   refine ⟨h1,h2,?_⟩
   cases hb:kh free x with
   | false=>rfl
   | true=>exact absurd (kB.1 hb) h3
 have mB:∀ x,x ∈ Bs ↔ x ∈ ls∧lq≤x:=fun x=>by rw [hB,List.mem_filter]; simp only [mK]
 have sA:A.Pairwise (·<·):=by rw [hA]; exact List.Pairwise.sublist List.filter_sublist hg
 have sB:Bs.Pairwise (·<·):=by rw [hB]; exact List.Pairwise.sublist List.filter_sublist hg
 have aF:∀ x ∈ A,∀ f ∈ free,x<f:=fun x hx f hf=>by
  have h1:=(mA x).1 hx
  obtain ⟨o,ho,hq⟩:=hloud x h1.1
  rcases D.near x o ho hq h1.2.2 with h | h
  ·exact h f hf
  ·omega
 have split:ls=A++(free++Bs):=by
  refine o_ hg (List.pairwise_append.2 ⟨sA,List.pairwise_append.2 ⟨hfs,sB,fun f hf b hb=>?_⟩,fun x hx y hy=>?_⟩) fun x=>⟨fun hx=>?_,fun hx=>?_⟩
  ·have:=(D.pre f hf).2; have:=((mB b).1 hb).2; omega
  ·rcases List.mem_append.1 hy with hy | hy
   ·exact aF x hx y hy
   ·have:=((mA x).1 hx).2.1; have:=((mB y).1 hy).2; omega
  ·rw [List.mem_append,List.mem_append]
   by_cases h1:lq≤x
   ·exact .inr (.inr ((mB x).2 ⟨hx,h1⟩))
   ·by_cases h2:x ∈ free
    ·exact .inr (.inl h2)
    ·exact .inl ((mA x).2 ⟨hx,by omega,h2⟩)
  ·rw [List.mem_append,List.mem_append] at hx
   rcases hx with hx | hx | hx
   ·exact ((mA x).1 hx).1
   ·obtain ⟨m,_,_,hm,_⟩:=hfree x hx
    exact List.mem_of_getElem? hm
   ·exact ((mB x).1 hx).1
 obtain ⟨n,hn⟩:∃ n,n=free.length:=⟨_,rfl⟩
 obtain ⟨p0,hp0⟩:∃ p,p=A.length:=⟨_,rfl⟩
 have atA:∀ m,m<p0→ls[m]?=A[m]?:=fun m hm=>by rw [split,List.getElem?_append_left (by omega)]
 have atF:∀ j,j<n→ls[p0+j]?=free[j]?:=fun j hj=>by rw [split,List.getElem?_append_right (by omega),List.getElem?_append_left (by omega),show p0+j - A.length=j by omega]
 have atB:∀ j,ls[p0+n+j]?=Bs[j]?:=fun j=>by rw [split,List.getElem?_append_right (by omega),List.getElem?_append_right (by omega),show p0+n+j - A.length - free.length=j by omega]
 have hB0:Bs[0]?=some lq:=by
  have hmem:=(mB lq).2 ⟨hlqls,Nat.le_refl _⟩
  cases hBs:Bs with
  | nil=>rw [hBs] at hmem; cases hmem
  | cons b r =>
   rw [hBs] at hmem sB
   have h1:=((mB b).1 (by rw [hBs]; simp)).2
   rcases List.mem_cons.1 hmem with e | e
   ·simp [e]
   ·have:=(List.pairwise_cons.1 sB).1 lq e; omega
 have hlA:∀ m,m<p0→(A++Bs)[m]?=ls[m]?:=fun m hm=>by rw [List.getElem?_append_left (by omega),atA m hm]
 have hlB:∀ m,p0≤m→(A++Bs)[m]?=ls[m+n]?:=fun m hm=>by rw [List.getElem?_append_right (by omega),← atB (m - A.length),show p0+n+(m - A.length)=m+n by omega]
 have sAB:(A++Bs).Pairwise (·<·):=List.pairwise_append.2 ⟨sA,sB,fun x hx y hy=>by have:=((mA x).1 hx).2.1; have:=((mB y).1 hy).2; omega⟩
 have hlsl:ls.length=p0+n+Bs.length:=by rw [split]; simp; omega
 have hABl:(A++Bs).length=p0+Bs.length:=by simp; omega
 have hBpos:0<Bs.length:=(List.getElem?_eq_some_iff.1 hB0).1
 have mAB:∀ x,x ∈ A++Bs→x ∈ ls∧x ∉ free:=fun x hx=>by
  rcases List.mem_append.1 hx with hx | hx
  ·exact ⟨((mA x).1 hx).1,((mA x).1 hx).2.2⟩
  ·exact ⟨((mB x).1 hx).1,fun hf=>by have:=(D.pre x hf).2; have:=((mB x).1 hx).2; omega⟩
 let hs':Nat→Hp:=fun k=>if k≤p0 then HS k else HS (k+n)
 have newAt:∀ j,j≤n→HS (p0+j)=nJ (HS p0) ((free.take j).map fun f=>Blk.cells (pf f).1 true):=by
  intro j
  induction j with
  | zero=>intro _; simp [nJ]
  | succ j ih =>
   intro hj
   obtain ⟨f,hf⟩:∃ f,free[j]?=some f:=⟨_,List.getElem?_eq_getElem (by omega)⟩
   obtain ⟨m,o,d,h1,h2,h4,h5,h6,_,hH⟩:=hfree f (List.mem_of_getElem? hf)
   have hmj:m=p0+j:=qJ hg h1 (by rw [atF j (by omega)]; exact hf)
   subst hmj
   rw [show p0+(j+1)=p0+j+1 by omega,hH,ih (by omega)]
   have htk:free.take (j+1)=free.take j++[f]:=by
    rw [List.take_add_one,hf]; rfl
   rw [htk,List.map_append,sU]
   simp [nJ]
 have q4':H'=hs' (A++Bs).length:=by
  rw [q4,hABl]
  show _=(if p0+Bs.length≤p0 then _ else HS (p0+Bs.length+n))
  rw [if_neg (by omega),hlsl]
  congr 1
  omega
 rw [q3,q4']
 have pos:∀ k,k≤(A++Bs).length→∃ k2,k2≤ls.length∧hs' k=HS k2∧(k≤p0→k2=k)∧(p0<k→k2=k+n):=by
  intro k hk
  by_cases h:k≤p0
  ·exact ⟨k,by omega,if_pos h,fun _=>rfl,fun h'=>by omega⟩
  ·exact ⟨k+n,by omega,if_neg h,fun h'=>absurd h' h,fun _=>rfl⟩
 have dyn:PO C ops (mE ops free T) H X hs' (A++Bs) free p0 (free.map fun f=>Blk.cells (pf f).1 true) (fun f=>(pf f).1) (fun f=>(pf f).2):=by
  refine ⟨?_,by omega,fun l hl=>(mAB l hl).2,hfs.imp (fun h=>Nat.ne_of_lt h),fun j f hj=>?_,by simp,fun i o ho hif=>?_,fun m l l' h1 h2=>?_,fun l hl=>(q5 l (mAB l hl).1).2.1,fun f hf l hl=>?_,fun i o ho t ht f hf hdf l hl=>?_⟩
  ·show (if 0≤p0 then HS 0 else _)=H
   rw [if_pos (Nat.zero_le _)]; rfl
  ·obtain ⟨m,o,d,h1,h2,h4,h5,h6,hx,_⟩:=hfree f (List.mem_of_getElem? hj)
   have hjn:j<n:=by rw [hn]; exact (List.getElem?_eq_some_iff.1 hj).1
   have hmj:m=p0+j:=qJ hg h1 (by rw [atF j hjn]; exact hj)
   subst hmj
   refine ⟨o,d,h2,h6,h4,h5,?_,?_,fun hd=>?_⟩
   ·rw [hx,newAt j (by omega),DJ]
    show _=sO _ ((if p0≤p0 then HS p0 else _).n+j)
    rw [if_pos (Nat.le_refl _)]
    congr 1
    simp
    omega
   ·rw [List.getElem?_map,hj]
    rfl
   ·rw [pB] at hd
    exact tz free T f (List.mem_of_getElem? hj) (by simp [aN,h2,h5]) hd
  ·rcases q6 i o (Nat.zero_le _) ho with ⟨h1,h2,h3⟩ | ⟨h1,h2,h3,kk,hk,hev,hlt,hgt,hnp⟩ | ⟨h1,kk,hkk,hop,_,_,_⟩
   ·exact .inl ⟨h1,h2,fun hm=>h3 (mAB i hm).1⟩
   ·refine .inr (.inl ⟨h1,fun hm=>h2 (mAB i hm).1,?_⟩)
    cases hd:eZ o.op with
    | false=>exact ⟨0,(A++Bs).length,Nat.zero_le _,fun k' _ _=>(hev.indep C hd).op1 C,fun m l hl=>⟨fun h=>absurd h (Nat.not_lt_zero _),fun h=>by have:=(List.getElem?_eq_some_iff.1 hl).1; omega⟩⟩
    | true =>
     have side:(i<lq∧kk≤p0)∨(lq<i∧p0+n<kk):=by
      rcases D.heap i o ho hd with h | h
      ·rcases Nat.lt_trichotomy i lq with h4 | h4 | h4
       ·left
        refine ⟨h4,?_⟩
        rcases Nat.lt_or_ge p0 kk with h5 | h5
        ·exfalso
         have hp:∃ x,ls[p0]?=some x:=⟨_,List.getElem?_eq_getElem (by omega)⟩
         obtain ⟨x,hx⟩:=hp
         have hxi:=hlt x (List.mem_of_getElem? (i:=p0) (by rw [List.getElem?_take,if_pos h5]; exact hx))
         by_cases hn0:n=0
         ·have:ls[p0+n+0]?=some lq:=by rw [atB 0]; exact hB0
          rw [show p0+n+0=p0 by omega,hx] at this
          cases this
          omega
         ·have:free[0]?=some x:=by rw [← atF 0 (by omega),Nat.add_zero]; exact hx
          have:=h x (List.mem_of_getElem? this)
          omega
        ·exact h5
       ·subst h4
        rw [holq] at ho; cases ho
        rw [hqlq] at h3; cases h3
       ·right
        refine ⟨h4,?_⟩
        have:ls[p0+n+0]?=some lq:=by rw [atB 0]; exact hB0
        rcases Nat.lt_or_ge (p0+n) kk with h5 | h5
        ·exact h5
        ·exfalso
         have:=hgt lq (List.mem_of_getElem? (i:=p0+n - kk) (by rw [List.getElem?_drop,show kk+(p0+n - kk)=p0+n+0 by omega]; exact this))
         omega
      ·have h4:lq<i:=by
        rcases Nat.lt_or_eq_of_le h with h4 | h4
        ·exact h4
        ·subst h4
         rw [holq] at ho; cases ho
         rw [hqlq] at h3; cases h3
       right
       refine ⟨h4,?_⟩
       have:ls[p0+n+0]?=some lq:=by rw [atB 0]; exact hB0
       rcases Nat.lt_or_ge (p0+n) kk with h5 | h5
       ·exact h5
       ·exfalso
        have:=hgt lq (List.mem_of_getElem? (i:=p0+n - kk) (by rw [List.getElem?_drop,show kk+(p0+n - kk)=p0+n+0 by omega]; exact this))
        omega
     have ltAt:∀ m r,m<kk→ls[m]?=some r→r<i:=fun m r hm hr=>hlt r (List.mem_of_getElem? (i:=m) (by rw [List.getElem?_take,if_pos hm]; exact hr))
     have gtAt:∀ m r,kk≤m→ls[m]?=some r→i<r:=fun m r hm hr=>hgt r (List.mem_of_getElem? (i:=m - kk) (by rw [List.getElem?_drop,show kk+(m - kk)=m by omega]; exact hr))
     by_cases hfl:∃ c,(g7 ops free)[i]?=some (true,c)
     ·obtain ⟨c,hfl⟩:=hfl
      obtain ⟨a,ha,hka⟩:=hnp c hfl
      obtain ⟨fl1,fl2⟩:=D.flag i o c ho hfl
      have hlen':∀ c,((A++Bs).filter fun x=>Nat.blt x c).length≤(A++Bs).length:=fun c=>List.length_filter_le _ _
      refine ⟨((A++Bs).filter fun x=>Nat.blt x c.1).length,((A++Bs).filter fun x=>Nat.blt x c.2).length,hlen' _,fun k' h4 h5=>?_,fun m l hl=>?_⟩
      ·obtain ⟨k2,e1,e2,e3,e4⟩:=pos k' (Nat.le_trans h5 (hlen' _))
       rw [e2]
       refine (EvQ.kp C ha (hka k2 e1 (fun m' r hm hm' hr=>?_) (fun m' r hm hm' hr=>?_)) hev).op1 C
       ·-- behind it, below k
        by_cases hrf:r ∈ free
        ·rcases fl1 with h6 | h6
         ·exact h6 r hrf
         ·exfalso
          have hrl:=(D.pre r hrf).2
          have hm2:p0≤m':=by
           rcases Nat.lt_or_ge m' p0 with h7 | h7
           ·have:=((mA r).1 (List.mem_of_getElem? (by rw [← atA m' h7]; exact hr))).2.2
            exact absurd hrf this
           ·exact h7
          have hm3:m'<p0+n:=by
           rcases Nat.lt_or_ge m' (p0+n) with h7 | h7
           ·exact h7
           ·have:=((mB r).1 (List.mem_of_getElem? (i:=m' - (p0+n)) (by rw [← atB,show p0+n+(m' - (p0+n))=m' by omega]; exact hr))).2
            omega
          have hk':k'≤p0:=by
           rcases Nat.lt_or_ge p0 k' with h7 | h7
           ·have:=e4 h7; omega
           ·exact h7
          have h8:(A++Bs)[p0]?=some lq:=by rw [hlB p0 (Nat.le_refl _),← hB0,← atB 0,Nat.add_zero]
          have:=(dX sAB c.1 p0 lq h8).2 h6
          omega
        ·-- its number among the calls
         have:∃ m2,(A++Bs)[m2]?=some r∧k'≤m2:=by
          rcases Nat.lt_or_ge m' p0 with h7 | h7
          ·refine ⟨m',by rw [hlA m' h7]; exact hr,?_⟩
           rcases Nat.lt_or_ge p0 k' with h8 | h8
           ·have:=e4 h8; omega
           ·have:=e3 h8; omega
          ·have h9:p0+n≤m':=by
            rcases Nat.lt_or_ge m' (p0+n) with h9 | h9
            ·exfalso
             exact hrf (List.mem_of_getElem? (i:=m' - p0) (by rw [← atF _ (by omega),show p0+(m' - p0)=m' by omega]; exact hr))
            ·exact h9
           refine ⟨m' - n,by rw [hlB _ (by omega),show m' - n+n=m' by omega]; exact hr,?_⟩
           rcases Nat.lt_or_ge p0 k' with h8 | h8
           ·have:=e4 h8; omega
           ·omega
         obtain ⟨m2,h7,h8⟩:=this
         have:=dX sAB c.1 m2 r h7
         omega
       ·by_cases hrf:r ∈ free
        ·have hrl:=(D.pre r hrf).2
         have hk':p0<k':=by
          rcases Nat.lt_or_ge p0 k' with h7 | h7
          ·exact h7
          ·exfalso
           have:=e3 h7
           have:=((mA r).1 (List.mem_of_getElem? (by rw [← atA m' (by omega)]; exact hr))).2.2
           exact this hrf
         have h8:(A++Bs)[p0]?=some lq:=by rw [hlB p0 (Nat.le_refl _),← hB0,← atB 0,Nat.add_zero]
         have:=(dX sAB c.2 p0 lq h8).1 (by omega)
         omega
        ·have:∃ m2,(A++Bs)[m2]?=some r∧m2<k':=by
          rcases Nat.lt_or_ge m' p0 with h7 | h7
          ·refine ⟨m',by rw [hlA m' h7]; exact hr,?_⟩
           rcases Nat.lt_or_ge p0 k' with h8 | h8
           ·omega
           ·have:=e3 h8; omega
          ·have h9:p0+n≤m':=by
            rcases Nat.lt_or_ge m' (p0+n) with h9 | h9
            ·exfalso
             exact hrf (List.mem_of_getElem? (i:=m' - p0) (by rw [← atF _ (by omega),show p0+(m' - p0)=m' by omega]; exact hr))
            ·exact h9
           refine ⟨m' - n,by rw [hlB _ (by omega),show m' - n+n=m' by omega]; exact hr,?_⟩
           rcases Nat.lt_or_ge p0 k' with h8 | h8
           ·have:=e4 h8; omega
           ·have:=e3 h8; omega
         obtain ⟨m2,h7,h8⟩:=this
         have:=dX sAB c.2 m2 r h7
         omega
      ·have hlm:=mAB l (List.mem_of_getElem? hl)
       obtain ⟨ol,hol,hql⟩:=hloud l hlm.1
       have h6:=fl2 l ol hol hql hlm.2
       exact ⟨fun hm=>h6.1 ((dX sAB c.1 m l hl).1 hm),fun hm=>h6.2 (by have:=dX sAB c.2 m l hl; omega)⟩
     ·-- bound to every call
      have hbd:∀ l,l ∈ A++Bs→(l<i→bV ops i l=true)∧(i<l→bV ops l i=true):=fun l hl=>by
       have hlm:=mAB l hl
       obtain ⟨ol,hol,hql⟩:=hloud l hlm.1
       exact wF (fun c hc=>hfl ⟨c,hc⟩) hol ho hql hlm.2 hd (fun e=>h2 (e ▸ hlm.1))
      rcases side with ⟨_,h5⟩ | ⟨_,h5⟩
      ·refine ⟨kk,kk,by omega,fun k' h6 h7=>?_,fun m l hl=>⟨fun hm=>?_,fun hm=>?_⟩⟩
       ·have:k'=kk:=by omega
        subst this
        show Op1 C _ (if k'≤p0 then HS k' else _) o _ (if k'≤p0 then HS k' else _)
        rw [if_pos h5]; exact hev.op1 C
       ·exact (hbd l (List.mem_of_getElem? hl)).1 (ltAt m l hm (by rw [← hlA m (by omega)]; exact hl))
       ·refine (hbd l (List.mem_of_getElem? hl)).2 ?_
        rcases Nat.lt_or_ge m p0 with h8 | h8
        ·exact gtAt m l hm (by rw [← hlA m h8]; exact hl)
        ·exact gtAt (m+n) l (by omega) (by rw [← hlB m h8]; exact hl)
      ·refine ⟨kk - n,kk - n,by omega,fun k' h6 h7=>?_,fun m l hl=>⟨fun hm=>?_,fun hm=>?_⟩⟩
       ·have e:k'+n=kk:=by omega
        show Op1 C _ (if k'≤p0 then _ else HS (k'+n)) o _ (if k'≤p0 then _ else HS (k'+n))
        rw [if_neg (by omega),e]; exact hev.op1 C
       ·refine (hbd l (List.mem_of_getElem? hl)).1 ?_
        rcases Nat.lt_or_ge m p0 with h8 | h8
        ·exact ltAt m l (by omega) (by rw [← hlA m h8]; exact hl)
        ·exact ltAt (m+n) l (by omega) (by rw [← hlB m h8]; exact hl)
       ·exact (hbd l (List.mem_of_getElem? hl)).2 (gtAt (m+n) l (by omega) (by rw [← hlB m (by omega)]; exact hl))
   ·refine .inr (.inr ⟨h1,?_⟩)
    rcases Nat.lt_or_ge kk p0 with h4 | h4
    ·refine ⟨kk,by rw [hlA kk h4]; exact hkk,?_⟩
     rw [if_neg (by omega)]
     show Op1 C _ (if kk≤p0 then HS kk else _) o _ (if kk+1≤p0 then HS (kk+1) else _)
     rw [if_pos (by omega),if_pos (by omega)]
     exact hop
    ·have h5:p0+n≤kk:=by
      rcases Nat.lt_or_ge kk (p0+n) with h5 | h5
      ·exfalso
       exact hif (List.mem_of_getElem? (i:=kk - p0) (by rw [← atF _ (by omega),show p0+(kk - p0)=kk by omega]; exact hkk))
      ·exact h5
     refine ⟨kk - n,by rw [hlB _ (by omega),show kk - n+n=kk by omega]; exact hkk,?_⟩
     have e2:hs' (kk - n+1)=HS (kk+1):=by
      show (if kk - n+1≤p0 then _ else HS (kk - n+1+n))=_
      rw [if_neg (by omega),show kk - n+1+n=kk+1 by omega]
     rw [e2]
     split
     ·rename_i h6
      have e1:nJ (hs' p0) (free.map fun f=>Blk.cells (pf f).1 true)=HS kk:=by
       show nJ (if p0≤p0 then HS p0 else _) _=_
       rw [if_pos (Nat.le_refl _)]
       have:=newAt n (Nat.le_refl _)
       rw [hn,List.take_length] at this
       rw [← this,show kk=p0+free.length by omega]
      rw [e1]; exact hop
     ·rename_i h6
      have e1:hs' (kk - n)=HS kk:=by
       show (if kk - n≤p0 then _ else HS (kk - n+n))=_
       rw [if_neg (by omega),show kk - n+n=kk by omega]
      rw [e1]; exact hop
  ·have m1:=mAB l (List.mem_of_getElem? h1)
   have m2:=mAB l' (List.mem_of_getElem? h2)
   obtain ⟨o1,ho1,hq1⟩:=hloud l m1.1
   obtain ⟨o2,ho2,hq2⟩:=hloud l' m2.1
   exact D.ord l l' o1 o2 ho1 ho2 hq1 hq2 m1.2 m2.2 (wG sAB h1 h2 (Nat.lt_succ_self _))
  ·have h8:(A++Bs)[p0]?=some lq:=by rw [hlB p0 (Nat.le_refl _),← hB0,← atB 0,Nat.add_zero]
   rw [h8] at hl
   cases hl
   exact (D.pre f hf).1
  ·have h8:(A++Bs)[p0]?=some lq:=by rw [hlB p0 (Nat.le_refl _),← hB0,← atB 0,Nat.add_zero]
   rw [h8] at hl
   cases hl
   exact D.late i o ho t ht f hf hdf
 have:=CA C hm hst dyn
 intro B w0 E a w hσ hw hT
 exact this B w0 E a w hσ hw (DL hT)
def nx (Q:Exit→List AV→Hp→Prop) (K:List AV→Hp→Prop) (e:Exit) (T:List AV) (H:Hp):Prop:=(fun (_:(P:Program)→Sig→AV→List AV→Hp→(AV→Hp→Prop)→Prop)=>match e with
 | .normal=>K T H
 | e=>Q e T H) jd
def co (c:Code) (T:List AV) (H:Hp) (Q:Exit→List AV→Hp→Prop):Prop:=∃ e T' H',Ex C (.loop c) T H e T' H'∧Q e T' H'
def PI (ops:Array Oper) (T:List AV) (H:Hp) (K:List AV→Hp→Prop):Prop:=∃ T' H',kE (P:=P) C.σ ops T H T' H'∧K T' H'
def ga (g:Nat) (js:Nat→AV):Nat→List AV→List AV
 | _,[]=>[]
 | i,x::T=>(bif g.testBit i then x else js i)::ga g js (i+1) T
theorem tc (g:Nat):∀ (T:List AV) (i:Nat) (js:Nat→AV),(∀ k x,T[k]?=some x→js (i+k)=x)→ga g js i T=T
 | [],i,js,h=>rfl
 | x::T,i,js,h=>by
  have h0:js i=x:=h 0 x rfl
  have:=tc g T (i+1) js (fun k y hy=>by rw [show i+1+k=i+(k+1) by omega]; exact h (k+1) y (by simpa using hy))
  simp only [ga,this,h0]
  cases g.testBit i<;>rfl
theorem jW (g:Nat) (T:List AV):ga g (fun k=>T.getD k (.lit undef)) 0 T=T :=
 tc g T 0 _ fun k x hk=>by simp [hk]
def jg (id:Nat):Code→Nat
 | .exit i=>bif Nat.beq i id then 1 else 0
 | .seq a b=>jg id a+jg id b
 | .cond _ a b=>jg id a+jg id b
 | .block _ c=>jg id c
 | .loop c=>jg id c
 | .rangeFunc _ _ _ c=>jg id c
 | _=>0
def rg:Code→Nat
 | .exit _=>0
 | .ret=>0
 | .seq a b=>bif Nat.beq (rg a) 0 then 0 else rg b
 | .cond _ a b=>rg a+rg b
 | .block id c=>rg c+jg id c
 | .loop _=>0
 | _=>1
def P4:Code→Bool
 | .skip=>true
 | .exit _=>true
 | .ret=>true
 | _=>false
def PP (a b:Code):Bool:=Nat.ble 2 (rg a)&&!P4 b
def PR:Code→Bool
 | .block _ _=>true
 | .seq a _=>(match a with
  | .block _ _=>true
  | _=>false)
 | _=>false
def jnB (g:Nat) (a b:Code):Bool:=PP a b||(Nat.testBit g 1000&&PR b)
def jl:Code→List Nat
 | .exit i=>[i]
 | .seq a b=>jl a++jl b
 | .cond _ a b=>jl a++jl b
 | .block _ c=>jl c
 | .loop c=>jl c
 | _=>[]
def exB (b:Bool) (A B:Prop):Prop:=match b with
 | true=>A
 | false=>B
def exK (K:Nat→Prop) (i:Nat):List Nat→Prop
 | []=>False
 | j::r=>exB (Nat.beq i j) (K j) (exK K i r)
def uo (b:Option Blk) (H:Hp) (N R:Hp→Prop) (X:Nat→Hp→Prop):Prop:=match b with
 | some (.loop _ st pend)=>match st with
  | .busy=>False
  | _=>match pend with
   | none=>N H
   | some .ret=>R H
   | some (.exit i)=>X i H
   | _=>False
 | _=>False
def pg (P:Program) (σ:Sig) (f:AV) (rec:li) (H:Hp) (N R:Hp→Prop) (X:Nat→Hp→Prop):Prop:=match f with
 | .fn g caps=>ai P σ g (.yl H.n::caps) (H.new (.loop rec .ready none)) fun _ H2=>uo (H2.get H.n) (H2.set H.n none) N R X
 | _=>False
def wp (g:Nat):Code→List AV→Hp→(Exit→List AV→Hp→Prop)→Prop
 | .skip,T,H,Q=>Q .normal T H
 | .exit id,T,H,Q=>Q (.exit id) T H
 | .ret,T,H,Q=>Q .ret T H
 | .region _ ops d,T,H,Q=>match d with
  | false=>nD C ops (ops.toList.map fun o=>(o,false,0,0)) [] [] [] T H (Q .normal)
  | true=>match ib ops with
   | true=>nD C ops (ops.toList.zip (gE ops)) [] [] [] T H (Q .normal)
   | false=>match vw ops with
    | true=>nD C ops (ops.toList.zip (g7 ops (iW ops))) [] [] [] (mE ops (iW ops) T) H (Q .normal)
    | false=>PI C ops T H (Q .normal)
 | .seq a b,T,H,Q=>match jnB g a b with
  | false=>wp g a T H (nx Q fun T1 H1=>wp g b T1 H1 Q)
  | true=>wp g a T H (nx Q fun T1 H1=>∀ js,wp g b (ga g js 0 T1) H1 Q)
 | .cond c a b,T,H,Q=>ifC (wp g a T H Q) (wp g b T H Q) (evO T c)
 | .block id c,T,H,Q=>wp g c T H fun e T1 H1=>Q (aI id e) T1 H1
 | .loop c,T,H,Q=>∀ js,co C c (ga g js 0 T) H Q
 | .rangeFunc f ps assign body,T,H,Q=>∀ js,pg P C.σ (evO T f) ⟨ga g js 0 T,ps,assign,body⟩ H (Q .normal T) (Q .ret T) fun i H3=>exK (fun j=>Q (.exit j) T H3) i (jl body)
 | _,_,_,_=>False
theorem DU {K:Nat→Prop} {i:Nat}:∀ {l:List Nat},exK K i l→K i
 | [],h=>h.elim
 | j::r,h=>by
  have h:exB (Nat.beq i j) (K j) (exK K i r):=h
  cases hb:Nat.beq i j with
  | true=>rw [hb] at h; rw [Nat.eq_of_beq_eq_true hb]; exact h
  | false=>rw [hb] at h; exact DU h
theorem vg (hm:P.follows .mixedOrders=true) (g:Nat):∀ (c:Code) {T:List AV} {H:Hp} {Q:Exit→List AV→Hp→Prop},wp C g c T H Q→∃ e T' H',Ex C c T H e T' H'∧Q e T' H':=by
 have reg:∀ {ops:Array Oper} {id:Nat} {T:List AV} {H:Hp} {K:List AV→Hp→Prop},nD C ops (ops.toList.map fun o=>(o,false,0,0)) [] [] [] T H K→∃ T' H',Ex C (.region id ops false) T H .normal T' H'∧K T' H':=by
  intro ops id T H K h
  obtain ⟨xs,hs,ls,T',H',hr,hk⟩:=gB C _ 0 ph h
  refine ⟨T',H',.region ?_,hk⟩
  have:=hr.seqs C (by rw [List.map_map]; exact (List.map_id _).symm)
  rw [List.range_eq_range']
  simpa using this
 have drw:∀ {ops:Array Oper} {id:Nat} {T:List AV} {H:Hp} {K:List AV→Hp→Prop},ib ops=true→nD C ops (ops.toList.zip (gE ops)) [] [] [] T H K→∃ T' H',Ex C (.region id ops true) T H .normal T' H'∧K T' H':=by
  intro ops id T H K hd h
  obtain ⟨xs,hs,ls,T',H',hr,hk⟩:=gB C _ 0 ph h
  exact ⟨T',H',.draw (tB C hm hd hr),hk⟩
 intro c
 induction c with
 | skip=>intro T H Q h; exact ⟨_,_,_,.skip,h⟩
 | exit id=>intro T H Q h; exact ⟨_,_,_,.exit,h⟩
 | ret=>intro T H Q h; exact ⟨_,_,_,.ret,h⟩
 | region id ops d =>
  intro T H Q h
  unfold wp at h
  cases d with
  | false =>
   obtain ⟨T',H',h1,h2⟩:=reg (id:=id) h
   exact ⟨_,_,_,h1,h2⟩
  | true =>
   simp only at h
   split at h
   ·rename_i hd
    obtain ⟨T',H',h1,h2⟩:=drw (id:=id) hd h
    exact ⟨_,_,_,h1,h2⟩
   ·split at h
    ·rename_i hd
     obtain ⟨xs,hs,ls,T',H',hr,hk⟩:=gB C _ 0 ph h
     exact ⟨_,_,_,.draw (rL C hm hd hr),hk⟩
    ·obtain ⟨T',H',h1,h2⟩:=h
     exact ⟨_,_,_,.draw h1,h2⟩
 | seq a b iha ihb =>
  intro T H Q h
  have h:wp C g a T H (nx Q fun T1 H1=>wp C g b T1 H1 Q)∨wp C g a T H (nx Q fun T1 H1=>∀ js,wp C g b (ga g js 0 T1) H1 Q):=by
   unfold wp at h
   split at h
   ·exact .inl h
   ·exact .inr h
  have key:∃ e T1 H1,Ex C a T H e T1 H1∧nx Q (fun T1 H1=>wp C g b T1 H1 Q) e T1 H1:=by
   rcases h with h | h
   ·exact iha h
   ·obtain ⟨e,T1,H1,hx,hq⟩:=iha h
    refine ⟨e,T1,H1,hx,?_⟩
    cases e<;>first
     | (have:=hq (fun k=>T1.getD k (.lit undef)); rw [jW] at this; exact this)
     | exact hq
  obtain ⟨e,T1,H1,hx,hq⟩:=key
  by_cases he:e=.normal
  ·subst he
   obtain ⟨e2,T2,H2,hx2,hq2⟩:=ihb hq
   exact ⟨_,_,_,.seq hx hx2,hq2⟩
  ·refine ⟨_,_,_,.seqX hx he,?_⟩
   cases e<;>first | exact absurd rfl he | exact hq
 | cond c a b iha ihb =>
  intro T H Q h
  unfold wp at h
  rcases uj h with ⟨ht,h⟩ | ⟨ht,h⟩
  ·obtain ⟨e,T1,H1,hx,hq⟩:=iha h
   exact ⟨_,_,_,.cond ht hx,hq⟩
  ·obtain ⟨e,T1,H1,hx,hq⟩:=ihb h
   exact ⟨_,_,_,.cond ht hx,hq⟩
 | block id c ih =>
  intro T H Q h
  unfold wp at h
  obtain ⟨e,T1,H1,hx,hq⟩:=ih h
  exact ⟨_,_,_,.block hx,hq⟩
 | loop c ih =>
  intro T H Q h
  have:=h (fun k=>T.getD k (.lit undef))
  rw [jW] at this
  exact this
 | rangeFunc f ps assign body iha ihb =>
  intro T H Q h
  have h:=h (fun k=>T.getD k (.lit undef))
  rw [jW] at h
  unfold pg at h
  split at h
  case h_2=>exact h.elim
  rename_i gf caps hf
  obtain ⟨r,H2,hg,hk⟩:=h
  unfold uo at hk
  split at hk
  case h_2=>exact hk.elim
  rename_i rec st pend hl
  have main:∀ (pend:Option Code) (e0:H2.get H.n=some (.loop rec st pend)),st≠.busy→(match (motive:=Option Code→Prop) pend with | none=>Q .normal T (H2.set H.n none) | some .ret=>Q .ret T (H2.set H.n none) | some (.exit i)=>exK (fun j=>Q (.exit j) T (H2.set H.n none)) i (jl body) | _=>False) →
    ∃ e T' H',Ex C (.rangeFunc f ps assign body) T H e T' H'∧Q e T' H':=by
   intro pend e0 hb hk
   cases pend with
   | none=>exact ⟨_,_,_,.rangeN hf hg e0 hb,hk⟩
   | some c =>
    cases c<;>try exact hk.elim
    ·exact ⟨_,_,_,.rangeX hf hg e0 hb .exit,DU hk⟩
    ·exact ⟨_,_,_,.rangeX hf hg e0 hb .ret,hk⟩
  cases st with
  | busy=>exact hk.elim
  | ready=>exact main _ hl (by simp) hk
  | done=>exact main _ hl (by simp) hk
  | exhausted=>exact main _ hl (by simp) hk
 | _=>intro T H Q h; exact h.elim
theorem co.round (hm:P.follows .mixedOrders=true) {g:Nat} {c:Code} {T:List AV} {H:Hp} {Q:Exit→List AV→Hp→Prop} (h:wp C g c T H (nx Q fun T1 H1=>∀ js,co C c (ga g js 0 T1) H1 Q)):co C c T H Q:=by
 obtain ⟨e,T1,H1,hx,hq⟩:=vg C hm g c h
 by_cases he:e=.normal
 ·subst he
  have:=hq (fun k=>T1.getD k (.lit undef))
  rw [jW] at this
  obtain ⟨e2,T2,H2,hx2,hq2⟩:=this
  exact ⟨_,_,_,.loop hx hx2,hq2⟩
 ·refine ⟨_,_,_,.loopX hx he,?_⟩
  cases e<;>first | exact absurd rfl he | exact hq
def t9 (id:Nat) (rec:li) (K:AV→Hp→Prop) (e:Exit) (H:Hp):Prop:=match e with
 | .normal=>H.get id=some (.loop rec .busy none)∧K (.lit (.bool true)) (H.set id (some (.loop rec .ready none)))
 | .ret=>H.get id=some (.loop rec .busy none)∧K (.lit (.bool false)) (H.set id (some (.loop rec .done (some .ret))))
 | .exit i=>H.get id=some (.loop rec .busy none)∧K (.lit (.bool false)) (H.set id (some (.loop rec .done (some (.exit i)))))
 | _=>False
def Rj (id:Nat) (rec:li) (K:List AV→Hp→Prop) (e:Exit) (T:List AV) (H:Hp):Prop:=match e with
 | .normal=>H.get id=some (.loop rec .ready none)∧K T (H.set id (some (.loop rec .busy none)))
 | _=>False
def On:List AV→List Tmp→List AV→List AV
 | T,p::ps,x::xs=>On (T.set p x) ps xs
 | T,_,_=>T
theorem sH (hm:P.follows .mixedOrders=true) (g:Nat) {id:Nat} {rec:li} {xs:List AV} {H:Hp} {K:AV→Hp→Prop} (hl:H.get id=some (.loop rec .ready none)) (hn:Nat.beq xs.length rec.ps.size=true) (hpa:eB rec.assign=true) (hpb:eB rec.body=true)
  (h:wp C g rec.assign (On rec.T rec.ps.toList xs) H (Rj id rec fun T1 H1=>wp C g rec.body T1 H1 fun e _ H2=>t9 id rec K e H2)):jd P C.σ (.yl id) xs H K:=by
 obtain ⟨T0,ps,assign,body⟩:=rec
 have eputs:∀ (T:List AV) (ps:List Tmp) (xs:List AV),On T ps xs=tV T ps xs:=by
  intro T ps
  induction ps generalizing T with
  | nil=>intro xs; cases xs<;>rfl
  | cons p ps ih=>intro xs; cases xs with
   | nil=>rfl
   | cons x xs=>exact ih _ xs
 simp only [eputs] at h
 obtain ⟨e,T1,H1,hx,hq⟩:=vg C hm g _ h
 cases e<;>try exact hq.elim
 obtain ⟨h1,hq⟩:=hq
 obtain ⟨e2,T2,H2,hx2,hq2⟩:=vg C hm g _ hq
 have hn:=Nat.eq_of_beq_eq_true hn
 cases e2<;>try exact hq2.elim
 ·obtain ⟨h2,hk⟩:=hq2
  exact ⟨_,_,uG C (j:=none) hl hn hpa hx h1 hpb hx2 h2 rfl,hk⟩
 ·obtain ⟨h2,hk⟩:=hq2
  exact ⟨_,_,uG C (j:=some (.exit _)) hl hn hpa hx h1 hpb hx2 h2 rfl,hk⟩
 ·obtain ⟨h2,hk⟩:=hq2
  exact ⟨_,_,uG C (j:=some .ret) hl hn hpa hx h1 hpb hx2 h2 rfl,hk⟩
def vY (ti:Nat→Option TI) (T:List AV) (H:Hp):List ResultVar→(List AV→Prop)→Prop
 | [],K=>K []
 | .tmp t::rs,K=>vY ti T H rs fun l=>K (T.getD t (.lit undef)::l)
 | .cell a t::rs,K=>tyK ti t fun i=>d4 (ldA i.d.agg i.size H (T.getD a (.lit undef))) fun x=>vY ti T H rs fun l=>K (x::l)
theorem oC {ti:Nat→Option TI} {T:List AV} {H:Hp}:∀ {rs:List ResultVar} {K:List AV→Prop},vY ti T H rs K→∃ l,lJ ti T H rs=some l∧K l
 | [],K,h=>⟨[],rfl,h⟩
 | .tmp t::rs,K,h=>by
  have h:vY ti T H rs fun l=>K (T.getD t (.lit undef)::l):=h
  obtain ⟨l,hl,hk⟩:=oC (rs:=rs) h
  exact ⟨_,by simp only [lJ,uV,hl],hk⟩
 | .cell a t::rs,K,h=>by
  obtain ⟨i,hi,h⟩:=bY h
  obtain ⟨x,hx,h⟩:=bI h
  obtain ⟨l,hl,hk⟩:=oC (rs:=rs) h
  exact ⟨_,by simp only [lJ,uV,tQ hi,hx,hl],hk⟩
def one (l:List AV):AV:=match l with
 | [x]=>x
 | l=>.tup l
def fnQ (ti:Nat→Option TI) (rs:List ResultVar) (K:AV→Hp→Prop) (e:Exit) (T:List AV) (H:Hp):Prop:=match e with
 | .normal=>vY ti T H rs fun l=>K (one l) H
 | .ret=>vY ti T H rs fun l=>K (one l) H
 | _=>False
theorem t8 (hm : P.follows .mixedOrders = true) (g : Nat) {f : Nat} {fn : Func} {c : Code} {xs : List AV} {H : Hp} {K : AV → Hp → Prop} (hf : P.funcs[f]? = some fn) (hb : fn.body = some c) (hn : (fn.name == "runtime.NumGoroutine") = false)
  (h:wp C g c (xs++List.replicate (fn.ntmps - xs.length) (.lit undef)) H (fnQ C.ti fn.results.toList K)):∃ r H',aq P C.σ f xs H r H'∧K r H':=by
 obtain ⟨e,T',H',hx,hq⟩:=vg C hm g c h
 have main:(e=.normal∨e=.ret)∧∃ l,lJ C.ti T' H' fn.results.toList=some l∧K (one l) H':=by
  cases e<;>first | exact ⟨.inl rfl,oC hq⟩ | exact ⟨.inr rfl,oC hq⟩ | exact hq.elim
 obtain ⟨he,l,hl,hk⟩:=main
 refine ⟨one l,H',ur C rfl hf hb hn (Sm.of_ex C hx) he ?_,hk⟩
 unfold j5
 rw [hl]
 match l with
 | []=>rfl
 | [x]=>rfl
 | x::y::r=>rfl
end
def ar (fn:Func):Code:=match fn.body with
 | some c=>c
 | none=>.skip
def sL:Code→Code
 | .seq a _=>a
 | c=>c
def sR:Code→Code
 | .seq _ b=>b
 | c=>c
def cT:Code→Code
 | .cond _ a _=>a
 | c=>c
def cE:Code→Code
 | .cond _ _ b=>b
 | c=>c
def bB:Code→Code
 | .block _ c=>c
 | c=>c
def lB:Code→Code
 | .loop c=>c
 | c=>c
def rP:Code→Array Tmp
 | .rangeFunc _ ps _ _=>ps
 | _=>#[]
def rA:Code→Code
 | .rangeFunc _ _ a _=>a
 | c=>c
def rB:Code→Code
 | .rangeFunc _ _ _ b=>b
 | c=>c
instance (priority:=low) stillNo:Still:=⟨fun _=>false⟩
end Go.Proofs.YtegioimlblnajaaGreat.Ev
namespace Go.Proofs.YtegioimlblnajaaGreat.Ev
set_option linter.unusedVariables false
set_option linter.unusedSimpArgs false
abbrev I (n:Int):AV:=.lit (.int .i64 n)
abbrev Bo (b:Bool):AV:=.lit (.bool b)
abbrev Sx (s:ByteArray):AV:=.lit (.string s)
attribute [simp] ae BK
@[simp] theorem ah (b:Bool) (A B:Prop):ifB (.lit (.bool b)) A B=if b=true then A else B:=by cases b<;>rfl
@[simp] theorem PN (a b:ByteArray):jv a b=decide (a=b):=by
 by_cases h:a=b
 ·subst h; simp [jv]
 ·simp only [h,decide_false]
  cases hh:jv a b with
  | false=>rfl
  | true=>exact absurd (rt hh) h
theorem fL {n:Int} (h0:-9223372036854775808≤n) (h1:n≤9223372036854775807):wr .i64 n=n:=PQ h0 h1
section
variable (a b:Int) (k:IntKind)
@[simp] theorem fJ:aj .add (.lit (.int k a)) (.lit (.int k b))=some (.lit (.int k (wr k (a+b)))):=by simp [aj,lit?,fH]
@[simp] theorem pR:aj .sub (.lit (.int k a)) (.lit (.int k b))=some (.lit (.int k (wr k (a - b)))):=by simp [aj,lit?,fH]
@[simp] theorem sY:aj .mul (.lit (.int k a)) (.lit (.int k b))=some (.lit (.int k (wr k (a*b)))):=by simp [aj,lit?,fH]
@[simp] theorem cS:aj .lss (.lit (.int k a)) (.lit (.int k b))=some (.lit (.bool (decide (a<b)))):=by simp [aj,lit?,fH]
@[simp] theorem o7:aj .leq (.lit (.int k a)) (.lit (.int k b))=some (.lit (.bool (decide (a≤b)))):=by simp [aj,lit?,fH]
@[simp] theorem iz:aj .gtr (.lit (.int k a)) (.lit (.int k b))=some (.lit (.bool (decide (b<a)))):=by simp [aj,lit?,fH]
@[simp] theorem jA:aj .geq (.lit (.int k a)) (.lit (.int k b))=some (.lit (.bool (decide (b≤a)))):=by simp [aj,lit?,fH]
@[simp] theorem gn:aj .eql (.lit (.int k a)) (.lit (.int k b))=some (.lit (.bool (decide (a=b)))):=by simp [aj,lit?,fH]
@[simp] theorem Mt:aj .neq (.lit (.int k a)) (.lit (.int k b))=some (.lit (.bool (!decide (a=b)))):=by simp [aj,lit?,fH]
theorem GP (h:b≠0):aj .rem (.lit (.int k a)) (.lit (.int k b))=some (.lit (.int k (a.tmod b))):=by simp [aj,lit?,fH,h]
end
@[simp] theorem Re (a b:ByteArray):aj .eql (.lit (.string a)) (.lit (.string b))=some (.lit (.bool (decide (a=b)))):=by simp [aj,lit?,fH]
@[simp] theorem Rz (a b:ByteArray):aj .neq (.lit (.string a)) (.lit (.string b))=some (.lit (.bool (!decide (a=b)))):=by simp [aj,lit?,fH]
@[simp] theorem fF (b:Bool):unR .not (.lit (.bool b))=some (.lit (.bool (!b))):=rfl
@[simp] theorem RV (k:IntKind) (n:Int):unR .neg (.lit (.int k n))=some (.lit (.int k (wr k (0 - n)))):=rfl
@[simp] theorem Q7 (a b:Bool):kX .eql (.lit (.bool a)) (.lit (.bool b))=some (.lit (.bool (a == b))):=rfl
@[simp] theorem Kx (a b:Bool):kX .neq (.lit (.bool a)) (.lit (.bool b))=some (.lit (.bool (!(a == b)))):=rfl
@[simp] theorem RK (id o:Nat):fB .eql (.ptr id o) (.lit (.pointer none))=some (.lit (.bool false)):=rfl
@[simp] theorem R6 (cs:List AV):fB .eql (.ip cs) (.lit (.pointer none))=some (.lit (.bool false)):=rfl
@[simp] theorem RX:fB .eql (.lit (.pointer none)) (.lit (.pointer none))=some (.lit (.bool true)):=rfl
@[simp] theorem RN (id o:Nat):fB .neq (.ptr id o) (.lit (.pointer none))=some (.lit (.bool true)):=rfl
@[simp] theorem R9 (cs:List AV):fB .neq (.ip cs) (.lit (.pointer none))=some (.lit (.bool true)):=rfl
@[simp] theorem Si:fB .neq (.lit (.pointer none)) (.lit (.pointer none))=some (.lit (.bool false)):=rfl
@[simp] theorem R1 (a:Option Addr) (l c l2 c2:Nat):mT .eql (.lit (.slice a l c)) (.lit (.slice none l2 c2))=some (.lit (.bool a.isNone)):=rfl
@[simp] theorem RR (a b c d:Nat) (e:Option Nat) (l2 c2:Nat):mT .eql (.sl a b c d e) (.lit (.slice none l2 c2))=some (.lit (.bool false)):=rfl
@[simp] theorem MP (s:Nat) (x:List AV) (r:List (List AV)) (l2 c2:Nat):mT .eql (.imm s (x::r)) (.lit (.slice none l2 c2))=some (.lit (.bool false)):=rfl
@[simp] theorem RW (t:Bool) (a b:AV):DY (.lit (.bool t)) a b=some (bif t then a else b):=rfl
@[simp] theorem sV (id o:Nat):ao (.ptr id o)=some (.ptr id o):=rfl
@[simp] theorem Q6 (cs:List AV):ao (.ip cs)=some (.ip cs):=rfl
@[simp] theorem n_fn (f:Nat) (cs:List AV):ao (.fn f cs)=some (.fn f cs):=rfl
@[simp] theorem QF (vs:List AV) (i:Nat):exR (.tup vs) i=vs[i]?:=rfl
@[simp] theorem RJ (k j:IntKind) (n:Int):HX k (.lit (.int j n))=some (.lit (.int k (wr k n))):=rfl
@[simp] theorem R2 (s:ByteArray):IC (.lit (.string s))=some (.lit (.string s)):=rfl
@[simp] theorem cP (z:List AV) (H:Hp) (K:AV→Hp→Prop):cY z H K=K (.ptr H.n 0) (H.new (.cells z true)):=rfl
@[simp] theorem dL (cs:List AV) (H:Hp) (K:AV→Hp→Prop):dN (.agg cs) H K=K (.ptr H.n 0) (H.new (.cells cs true)):=rfl
theorem jx {x:AV} (h:x.isAny=false) (hc:x.cells=[x]) (H:Hp) (K:AV→Hp→Prop):dN x H K=K (.ptr H.n 0) (H.new (.cells [x] true)):=by simp [dN,h,hc]
def ldL (agg:Bool) (n:Nat) (l:List AV):Option AV:=if (l.take n).length=n then nh agg (l.take n) else none
def ldO (agg:Bool) (n off:Nat):Option Blk→Option AV
 | some (.cells cs _)=>ldL agg n (cs.drop off)
 | _=>none
@[simp] theorem jB (agg:Bool) (n off:Nat) (cs:List AV) (ex:Bool):ldO agg n off (some (.cells cs ex))=ldL agg n (cs.drop off):=rfl
theorem i4 (a b:Nat):Nat.beq a b=decide (a=b):=by
 by_cases h:a=b
 ·subst h; simp
 ·simp only [h,decide_false]; exact pV h
theorem oS (a b:Nat):Nat.ble a b=decide (a≤b):=by
 by_cases h:a≤b
 ·simp only [h,decide_true]; exact Nat.ble_eq_true_of_le h
 ·simp only [h,decide_false]
  cases hh:Nat.ble a b with
  | false=>rfl
  | true=>exact absurd (Nat.le_of_ble_eq_true hh) h
@[simp] theorem b_ (agg:Bool) (n:Nat) (H:Hp) (id off:Nat):ldA agg n H (.ptr id off)=ldO agg n off (H.get id):=by
 cases hg:H.get id with
 | none=>simp only [ldA,b8,hg,ldO]
 | some k=>cases k with
  | cells cs ex =>
   simp only [ldA,b8,hg,ldO,ldL,i4]
   by_cases h:(List.take n (List.drop off cs)).length=n
   ·simp only [h,decide_true,cond_true,if_true]
   ·simp only [h,decide_false,cond_false,if_false]
  | map=>simp only [ldA,b8,hg,ldO]
  | loop=>simp only [ldA,b8,hg,ldO]
@[simp] theorem n8 (agg:Bool) (n:Nat) (H:Hp) (cs:List AV):ldA agg n H (.ip cs)=ldL agg n cs:=by
 simp only [ldA,b8,ldL,i4]
 by_cases h:(List.take n cs).length=n
 ·simp only [h,decide_true,cond_true,if_true]
 ·simp only [h,decide_false,cond_false,if_false]
@[simp] theorem iH (x:AV) (l:List AV):ldL false 1 (x::l)=some x:=by simp [ldL,nh]
theorem vX {n:Nat} {l:List AV} (h:n≤l.length):ldL true n l=some (.agg (l.take n)):=by simp [ldL,nh,h]
theorem eu {n:Nat} {l:List AV} (h:l.length=n):ldL true n l=some (.agg l):=by
 subst h; simp [ldL,nh]
@[simp] theorem cx (H:Hp) (b:Blk) (j:Nat):(H.new b).get j=if j=H.n then some b else H.get j:=Hp.get_new H b j
@[simp] theorem cb (H:Hp) (id:Nat) (b:Option Blk) (j:Nat):(H.set id b).get j=if j=id then b else H.get j:=Hp.get_set H id b j
def stO (n off:Nat) (xs:List AV) (H:Hp) (id:Nat):Option Blk→Option Hp
 | some (.cells cs ex)=>if off+xs.length≤cs.length∧xs.all AV.one=true then some (H.set id (some (.cells (ax cs off xs) ex))) else none
 | _=>none
@[simp] theorem kY (n off:Nat) (xs:List AV) (H:Hp) (id:Nat) (cs:List AV) (ex:Bool):stO n off xs H id (some (.cells cs ex))=if off+xs.length≤cs.length∧xs.all AV.one=true then some (H.set id (some (.cells (ax cs off xs) ex))) else none:=rfl
theorem gW (n:Nat) (H:Hp) (id off:Nat) (x:AV) (h:x.cells.length=n) (ha:x.isAny=false):stA n H (.ptr id off) x=stO n off x.cells H id (H.get id):=by
 cases hg:H.get id with
 | none=>simp only [stA,d5,hg,stO]; cases (Nat.beq x.cells.length n&&!x.isAny)<;>rfl
 | some k=>cases k with
  | cells cs ex =>
   simp only [stA,d5,hg,stO,i4,oS,h,decide_true,ha,Bool.not_false,Bool.and_self,cond_true]
   by_cases h1:off+n≤cs.length<;>cases h2:x.cells.all AV.one<;>simp [h1,h2]
  | map=>simp only [stA,d5,hg,stO]; cases (Nat.beq x.cells.length n&&!x.isAny)<;>rfl
  | loop=>simp only [stA,d5,hg,stO]; cases (Nat.beq x.cells.length n&&!x.isAny)<;>rfl
@[simp] theorem uU (n:Nat) (H:Hp) (id off:Nat) (cs:List AV):stA n H (.ptr id off) (.agg cs)=if cs.length=n then stO n off cs H id (H.get id) else none:=by
 split
 ·rename_i h; exact gW n H id off (.agg cs) h rfl
 ·rename_i h; simp [stA,AV.cells,i4,h]
@[simp] theorem RC (H:Hp) (id off:Nat) (k:IntKind) (n:Int):stA 1 H (.ptr id off) (.lit (.int k n))=stO 1 off [.lit (.int k n)] H id (H.get id):=gW 1 H id off _ rfl rfl
@[simp] theorem QY (H:Hp) (id off:Nat) (b:Bool):stA 1 H (.ptr id off) (.lit (.bool b))=stO 1 off [.lit (.bool b)] H id (H.get id):=gW 1 H id off _ rfl rfl
@[simp] theorem Rx (H:Hp) (id off:Nat) (b:ByteArray):stA 1 H (.ptr id off) (.lit (.string b))=stO 1 off [.lit (.string b)] H id (H.get id):=gW 1 H id off _ rfl rfl
@[simp] theorem RE (H:Hp) (id off s:Nat) (xs:List (List AV)):stA 1 H (.ptr id off) (.imm s xs)=stO 1 off [.imm s xs] H id (H.get id):=gW 1 H id off _ rfl rfl
@[simp] theorem R8 (H:Hp) (id off a b c d:Nat) (e:Option Nat):stA 1 H (.ptr id off) (.sl a b c d e)=stO 1 off [.sl a b c d e] H id (H.get id):=gW 1 H id off _ rfl rfl
@[simp] theorem RY (H:Hp) (id off a b:Nat):stA 1 H (.ptr id off) (.ptr a b)=stO 1 off [.ptr a b] H id (H.get id):=gW 1 H id off _ rfl rfl
@[simp] theorem R4 (H:Hp) (id off:Nat):stA 1 H (.ptr id off) (.lit (.pointer none))=stO 1 off [.lit (.pointer none)] H id (H.get id):=gW 1 H id off _ rfl rfl
@[simp] theorem RB (H:Hp) (id off a b:Nat):stA 1 H (.ptr id off) (.lit (.slice none a b))=stO 1 off [.lit (.slice none a b)] H id (H.get id):=gW 1 H id off _ rfl rfl
@[simp] theorem QP (k:IntKind) (n:Int):AV.one (.lit (.int k n))=true:=rfl
@[simp] theorem P6 (b:Bool):AV.one (.lit (.bool b))=true:=rfl
@[simp] theorem QS (s:ByteArray):AV.one (.lit (.string s))=true:=rfl
@[simp] theorem QL (s:Nat) (xs:List (List AV)):AV.one (.imm s xs)=true:=rfl
@[simp] theorem Ry (xs:List AV):AV.one (.ip xs)=true:=rfl
@[simp] theorem QV (a b:Nat):AV.one (.ptr a b)=true:=rfl
@[simp] theorem Q9 (a b c d:Nat) (e:Option Nat):AV.one (.sl a b c d e)=true:=rfl
@[simp] theorem Rk (f:Nat) (cs:List AV):AV.one (.fn f cs)=true:=rfl
@[simp] theorem QT:AV.one .emp=true:=rfl
@[simp] theorem QK (a b:Nat):AV.one (.lit (.slice none a b))=true:=rfl
@[simp] theorem Rc:AV.one (.lit (.pointer none))=true:=rfl
@[simp] theorem Rh:AV.one (.lit .nilFunc)=true:=rfl
@[simp] theorem v8 (cs:List AV):AV.cells (.agg cs)=cs:=rfl
@[simp] theorem Pz (k:IntKind) (n:Int):AV.cells (.lit (.int k n))=[.lit (.int k n)]:=rfl
@[simp] theorem OS (b:Bool):AV.cells (.lit (.bool b))=[.lit (.bool b)]:=rfl
@[simp] theorem Pw (s:ByteArray):AV.cells (.lit (.string s))=[.lit (.string s)]:=rfl
@[simp] theorem PF (s:Nat) (xs:List (List AV)):AV.cells (.imm s xs)=[.imm s xs]:=rfl
@[simp] theorem Qn (a b c d:Nat) (e:Option Nat):AV.cells (.sl a b c d e)=[.sl a b c d e]:=rfl
@[simp] theorem Pp (a b:Nat):AV.cells (.ptr a b)=[.ptr a b]:=rfl
@[simp] theorem PG (a b:Nat):AV.cells (.lit (.slice none a b))=[.lit (.slice none a b)]:=rfl
@[simp] theorem PE (cs:List AV):AV.isAny (.agg cs)=false:=rfl
@[simp] theorem Px (v:Value):AV.isAny (.lit v)=false:=rfl
@[simp] theorem Pv (s:Nat) (xs:List (List AV)):AV.isAny (.imm s xs)=false:=rfl
@[simp] theorem Qm (a b c d:Nat) (e:Option Nat):AV.isAny (.sl a b c d e)=false:=rfl
@[simp] theorem Pl (a b:Nat):AV.isAny (.ptr a b)=false:=rfl
theorem b9 {cs xs:List AV} (h:xs.length=cs.length):ax cs 0 xs=xs:=by simp [ax,h]
@[simp] theorem Pq (c:AV) (cs:List AV) (x:AV):ax (c::cs) 0 [x]=x::cs:=by simp [ax]
@[simp] theorem PB (c:AV) (cs:List AV) (n:Nat) (x:AV):ax (c::cs) (n+1) [x]=c::ax cs n [x]:=by simp [ax,Nat.add_right_comm]
@[simp] theorem me (id o k:Nat):ab (.ptr id o) k=some (.ptr id (o+k)):=rfl
@[simp] theorem qK (cs:List AV) (k:Nat):ab (.ip cs) k=some (.ip (cs.drop k)):=rfl
@[simp] theorem Rd (off sz:Nat) (cs:List AV):o9 true off sz (.agg cs)=some (.agg ((cs.drop off).take sz)):=rfl
@[simp] theorem RA (off sz:Nat) (cs:List AV):o9 false off sz (.agg cs)=cs[off]?:=rfl
@[simp] theorem mw (s:Nat) (xs:List (List AV)):aM (.imm s xs)=some (.lit (.int .i64 xs.length)):=rfl
@[simp] theorem xU (a b c d:Nat) (e:Option Nat):aM (.sl a b c d e)=some (.lit (.int .i64 d)):=rfl
@[simp] theorem QQ:aM .emp=some (.lit (.int .i64 0)):=rfl
@[simp] theorem QM (a b:Nat):aM (.lit (.slice none a b))=some (.lit (.int .i64 a)):=rfl
@[simp] theorem rp (s:ByteArray):kT (.lit (.string s))=some (.lit (.int .i64 s.data.size)):=rfl
theorem Nb (sz k:Nat) (xs:List (List AV)):aw sz (.imm sz xs) (.lit (.int .i64 (k:Int)))=(xs[k]?).map .ip:=by simp [aw,jN]
theorem lA {sz id off s len:Nat} {cap:Option Nat} {n:Int} (h0:0≤n) (h1:n<len):aw sz (.sl id off s len cap) (.lit (.int .i64 n))=some (.ptr id (off+n.toNat*sz)):=by simp [aw,jN,h0,h1]
def caO (n off:Nat):Option Blk→Option (List AV)
 | some (.cells cs _)=>bif Nat.beq ((cs.drop off).take n).length n then some ((cs.drop off).take n) else none
 | _=>none
theorem B8 (n:Nat) (H:Hp) (id off:Nat):b8 H (.ptr id off) n=caO n off (H.get id):=by
 cases hg:H.get id with
 | none=>simp only [b8,hg,caO]
 | some k=>cases k<;>simp only [b8,hg,caO]
@[simp] theorem MX (off:Nat) (cs:List AV) (ex:Bool):caO 1 off (some (.cells cs ex))=(ldL false 1 (cs.drop off)).map fun x=>[x]:=by
 unfold caO ldL
 simp only
 generalize cs.drop off=l
 cases l with
 | nil=>rfl
 | cons c r=>simp [nh]
@[simp] theorem Qw (cs:List AV) (n:Option Nat) (H H1:Hp) (A:Prop):kpK (.ip cs,n) H H1 A=A:=rfl
@[simp] theorem gZ (id o n:Nat) (H H1:Hp) (A:Prop):kpK (.ptr id o,some n) H H1 A=(caO n o (H1.get id)=caO n o (H.get id)∧A):=by rw [← B8,← B8]; rfl
@[simp] theorem QN (id o:Nat) (H H1:Hp) (A:Prop):kpK (.ptr id o,none) H H1 A=(H1.get id=H.get id∧A):=rfl
theorem aD {P:Program} {σ:Sig} {g:Nat} {xs:List AV} {H H1:Hp} {r:AV} {K:AV→Hp→Prop} (h:aq P σ g xs H r H1) (hk:K r H1):ai P σ g xs H K:=⟨r,H1,h,hk⟩
theorem wH {P:Program} {σ:Sig} {f:Nat} {xs:List AV} {r:AV} (h:∃ r' H1,aq P σ f xs Hp.empty r' H1∧r'=r) (hx:bE xs=true) (hr:fW r=true) (H:Hp):aq P σ f xs H r H:=by
 obtain ⟨_,_,hg,rfl⟩:=h
 exact hg.over hx hr H
end Go.Proofs.YtegioimlblnajaaGreat.Ev
namespace Go.Proofs.YtegioimlblnajaaGreat.Ev
theorem fA {α:Type} {f:α→List AV} {l:List α} {sz k:Nat} {x:α} (h:l[k]?=some x):aw sz (.imm sz (l.map f)) (.lit (.int .i64 (k:Int)))=some (.ip (f x)):=by
 rw [Nb,List.getElem?_map,h]; rfl
theorem gC {k:Nat} (h:k<9000000000000000000):wr .i64 ((k:Int)+1)=((k+1:Nat):Int):=by rw [fL (by omega) (by omega)]; rfl
end Go.Proofs.YtegioimlblnajaaGreat.Ev
namespace Go.Proofs.YtegioimlblnajaaGreat.Ev
theorem dh {P:Program} {σ:Sig} {f:Nat} {xs:List AV} {r:AV} (h:∀ K:AV→Hp→Prop,(∀ H,K r H)→∃ r' H1,aq P σ f xs Hp.empty r' H1∧K r' H1) (hx:bE xs=true) (hr:fW r=true) (H:Hp):aq P σ f xs H r H :=
 wH (h (fun r' _=>r'=r) fun _=>rfl) hx hr H
end Go.Proofs.YtegioimlblnajaaGreat.Ev
namespace Go.Proofs.YtegioimlblnajaaGreat.Ev
theorem iE {cs:List AV} {k:Nat} {x:AV} (h:k<cs.length):ax cs k [x]=cs.set k x:=by
 induction cs generalizing k with
 | nil=>simp at h
 | cons c cs ih =>
  cases k with
  | zero=>simp
  | succ k=>simp; exact ih (by simpa using h)
theorem ve {α:Type} {f:α→AV} {l:List α} {k:Nat} (h:k<l.length):ldL false 1 ((l.map f).drop k)=some (f l[k]):=by
 rw [List.drop_eq_getElem_cons (by simpa using h),iH,List.getElem_map]
theorem CI {α:Type} {f:α→AV} {l:List α} {k:Nat} (v:α) (h:k<l.length):ax (l.map f) k [f v]=(l.set k v).map f:=by
 rw [iE (by simpa using h),List.map_set]
@[simp] theorem Pu (P:Program) (σ:Sig) (g:Nat) (cs xs:List AV) (H:Hp) (K:AV→Hp→Prop):jd P σ (.fn g cs) xs H K=ai P σ g (xs++cs) H K:=rfl
@[simp] theorem qX (P:Program) (σ:Sig) (g:Nat) (cs:List AV) (rec:li) (H:Hp) (N R:Hp→Prop) (X:Nat→Hp→Prop):pg P σ (.fn g cs) rec H N R X=ai P σ g (.yl H.n::cs) (H.new (.loop rec .ready none)) fun _ H2=>uo (H2.get H.n) (H2.set H.n none) N R X:=rfl
@[simp] theorem pJ (rec:li) (H:Hp) (N R:Hp→Prop) (X:Nat→Hp→Prop):uo (some (.loop rec .ready none)) H N R X=N H:=rfl
@[simp] theorem Qb (rec:li) (H:Hp) (N R:Hp→Prop) (X:Nat→Hp→Prop):uo (some (.loop rec .done (some .ret))) H N R X=R H:=rfl
@[simp] theorem Py (rec:li) (i:Nat) (H:Hp) (N R:Hp→Prop) (X:Nat→Hp→Prop):uo (some (.loop rec .done (some (.exit i)))) H N R X=X i H:=rfl
@[simp] theorem Sa (A B:Prop):exB true A B=A:=rfl
@[simp] theorem RP (A B:Prop):exB false A B=B:=rfl
theorem qq (id:Nat) (rec:li) (K:AV→Hp→Prop) (H:Hp):t9 id rec K .normal H=(H.get id=some (.loop rec .busy none)∧K (.lit (.bool true)) (H.set id (some (.loop rec .ready none)))):=rfl
@[simp] theorem Rv (a b c:Nat):aM (.se a b c)=some (.lit (.int .i64 0)):=rfl
end Go.Proofs.YtegioimlblnajaaGreat.Ev
namespace Go.Proofs.YtegioimlblnajaaGreat.Ev
open Go.RowKit (Below)
set_option linter.unusedVariables false
set_option linter.unusedSimpArgs false
inductive Fz (H:Hp):AV→AV→Prop where
 | refl {x:AV} (h:cW x=true):Fz H x x
 | nil {sz:Nat}:Fz H (.lit (.slice none 0 0)) (.imm sz [])
 | se {id off s sz:Nat}:Fz H (.se id off s) (.imm sz [])
 | emp {sz:Nat}:Fz H .emp (.imm sz [])
 | sl {id off sz len:Nat} {cap:Option Nat} {cs:List AV} {ex:Bool} {rows:List (List AV)} (val:Nat→Nat→AV) (hg:H.get id=some (.cells cs ex)) (hl:rows.length=len) (hsz:∀ (i:Nat) (row:List AV),rows[i]?=some row→row.length=sz)
   (hc:∀ (i:Nat) (row:List AV) (j:Nat) (y:AV),rows[i]?=some row→row[j]?=some y→cs[off+(i*sz+j)]?=some (val i j))
   (hf:∀ (i:Nat) (row:List AV) (j:Nat) (y:AV),rows[i]?=some row→row[j]?=some y→Fz H (val i j) y):Fz H (.sl id off sz len cap) (.imm sz rows)
 | ptr {id off:Nat} {cs ys:List AV} {ex:Bool} (val:Nat→AV) (hg:H.get id=some (.cells cs ex)) (hc:∀ (j:Nat) (y:AV),ys[j]?=some y→cs[off+j]?=some (val j)) (hf:∀ (j:Nat) (y:AV),ys[j]?=some y→Fz H (val j) y):Fz H (.ptr id off) (.ip ys)
 | agg {xs ys:List AV} (hl:xs.length=ys.length) (hf:∀ (j:Nat) (x y:AV),xs[j]?=some x→ys[j]?=some y→Fz H x y):Fz H (.agg xs) (.agg ys)
 | tup {xs ys:List AV} (hl:xs.length=ys.length) (hf:∀ (j:Nat) (x y:AV),xs[j]?=some x→ys[j]?=some y→Fz H x y):Fz H (.tup xs) (.tup ys)
theorem Fz.one {H:Hp} {id off:Nat} {cap:Option Nat} {cs xs:List AV} {ex:Bool} (hg:H.get id=some (.cells cs ex)) (hc:∀ (j:Nat) (x:AV),xs[j]?=some x→cs[off+j]?=some x) (hn:bE xs=true):Fz H (.sl id off 1 xs.length cap) (.imm 1 (xs.map fun x=>[x])):=by
 refine .sl (fun i _=>xs.getD i .any) hg (by simp) (fun i row h=>?_) (fun i row j y h1 h2=>?_) (fun i row j y h1 h2=>?_)
 ·simp only [List.getElem?_map,Option.map_eq_some_iff] at h
  obtain ⟨x,_,rfl⟩:=h; rfl
 ·simp only [List.getElem?_map,Option.map_eq_some_iff] at h1
  obtain ⟨x,hx,rfl⟩:=h1
  have hj:j=0:=by have:=(List.getElem?_eq_some_iff.1 h2).1; simp at this; omega
  subst hj
  simp [hx]
  exact hc i x hx
 ·simp only [List.getElem?_map,Option.map_eq_some_iff] at h1
  obtain ⟨x,hx,rfl⟩:=h1
  have hj:j=0:=by have:=(List.getElem?_eq_some_iff.1 h2).1; simp at this; omega
  subst hj
  simp at h2
  subst h2
  simp [hx]
  exact .refl (eF hn i x hx)
theorem Fz.rows {H:Hp} {id off sz:Nat} {cap:Option Nat} {cs:List AV} {ex:Bool} {rows:List (List AV)} (hg:H.get id=some (.cells cs ex)) (hsz:∀ row ∈ rows,row.length=sz) (hc:(cs.drop off).take (rows.length*sz)=rows.flatten) (hn:d9 rows=true) :
  Fz H (.sl id off sz rows.length cap) (.imm sz rows):=by
 have key:∀ (rows:List (List AV)),(∀ row ∈ rows,row.length=sz)→∀ (i:Nat) (row:List AV) (j:Nat) (y:AV),rows[i]?=some row→row[j]?=some y→rows.flatten[i*sz+j]?=some y:=by
  intro rows hsz
  induction rows with
  | nil=>intro i row j y h; simp at h
  | cons r rs ih =>
   intro i row j y h1 h2
   have hr:=hsz r (by simp)
   cases i with
   | zero =>
    simp at h1; subst h1
    have hj:=(List.getElem?_eq_some_iff.1 h2).1
    simp only [Nat.zero_mul,Nat.zero_add,List.flatten_cons]
    rw [List.getElem?_append_left hj]; exact h2
   | succ i =>
    simp only [List.flatten_cons]
    rw [List.getElem?_append_right (by rw [hr,Nat.succ_mul]; omega),hr,show (i+1)*sz+j - sz=i*sz+j by rw [Nat.succ_mul]; omega]
    exact ih (fun r hr=>hsz r (by simp [hr])) i row j y (by simpa using h1) h2
 have hlt:∀ (i:Nat) (row:List AV) (j:Nat) (y:AV),rows[i]?=some row→row[j]?=some y→i*sz+j<rows.length*sz:=by
  intro i row j y h1 h2
  have h3:=(List.getElem?_eq_some_iff.1 h1).1
  have h4:=(List.getElem?_eq_some_iff.1 h2).1
  rw [hsz row (List.mem_of_getElem? h1)] at h4
  calc i*sz+j<i*sz+sz:=by omega
   _=(i+1)*sz:=by rw [Nat.succ_mul]
   _≤rows.length*sz:=Nat.mul_le_mul_right _ (by omega)
 refine .sl (fun i j=>(rows.getD i []).getD j .any) hg rfl (fun i row h=>hsz row (List.mem_of_getElem? h)) (fun i row j y h1 h2=>?_) (fun i row j y h1 h2=>?_)
 ·have h5:=key rows hsz i row j y h1 h2
  rw [← hc,List.getElem?_take,if_pos (hlt i row j y h1 h2),List.getElem?_drop] at h5
  rw [h5]
  simp [h1,h2]
 ·simp [h1,h2]
  exact .refl (eF (lX hn i row h1) j y h2)
theorem Fz.rel {B:Nat} {w0:fk} {E E1:Env} {H:Hp} {w:World} (hst:St B w0 E H w) (hσ:E1.σ=E.σ) (hro:∀ b o,E.ro b=some o→E1.ro b=some o) (hlive:∀ id k b o n,H.get id=some k→E.ρ id=some (b,o,n)→∀ x,w.heap[b]?=some x→E1.ro b=some x)
  {y x:AV} (hf:Fz H y x):∀ {v:Value},Rel E y v→Rel E1 x v:=by
 induction hf with
 | refl h=>intro v hr; exact pi hro hσ hr h
 | nil=>intro v hr; cases hr; exact .immE
 | se=>intro v hr; cases hr<;>exact .immE
 | emp=>intro v hr; cases hr; exact .immE
 | sl val hg hl hsz hc hf ih =>
  rename_i id off sz len cap cs ex rows
  intro v hr
  cases hr with
  | sl he hcap hlen hn =>
   rename_i b o n c
   obtain ⟨b',o',n',e,_,_,ok⟩:=hst.live _ _ hg
   rw [he] at e
   cases e
   obtain ⟨cc,ty,lo,hi,h1,h2,h3,h4,h5,h6⟩:=ok
   have hro1:=hlive _ _ _ _ _ hg he _ h1
   have hv:∀ (i:Nat) (row:List AV) (j:Nat) (z:AV),rows[i]?=some row→row[j]?=some z→∃ v,cc[o+(off+(i*sz+j))]?=some v∧Rel E (val i j) v:=fun i row j z hi hj=>h6 _ _ (hc i row j z hi hj)
   refine .imm (fun i j=>(cc[o+(off+(i*sz+j))]?).getD default) hl.symm hlen hsz (fun i row j z hi hj=>?_) (fun i row j z hi hj=>?_)
   ·obtain ⟨v,hv1,_⟩:=hv i row j z hi hj
    unfold Env.cell
    rw [hro1]
    simp only
    rw [show o+off+(i*sz+j)=o+(off+(i*sz+j)) by omega,hv1]; rfl
   ·obtain ⟨v,hv1,hv2⟩:=hv i row j z hi hj
    rw [hv1]
    exact ih i row j z hi hj hv2
 | ptr val hg hc hf ih =>
  rename_i id off cs ys ex
  intro v hr
  cases hr with
  | ptr he =>
   rename_i b o n
   obtain ⟨b',o',n',e,_,_,ok⟩:=hst.live _ _ hg
   rw [he] at e
   cases e
   obtain ⟨cc,ty,lo,hi,h1,h2,h3,h4,h5,h6⟩:=ok
   have hro1:=hlive _ _ _ _ _ hg he _ h1
   have hv:∀ (j:Nat) (z:AV),ys[j]?=some z→∃ v,cc[o+(off+j)]?=some v∧Rel E (val j) v:=fun j z hj=>h6 _ _ (hc j z hj)
   refine .ip (fun j=>(cc[o+(off+j)]?).getD default) (fun j z hj=>?_) (fun j z hj=>?_)
   ·obtain ⟨v,hv1,_⟩:=hv j z hj
    unfold Env.cell
    rw [hro1]
    simp only
    rw [show o+off+j=o+(off+j) by omega,hv1]; rfl
   ·obtain ⟨v,hv1,hv2⟩:=hv j z hj
    rw [hv1]
    exact ih j z hj hv2
 | agg hl hf ih =>
  intro v hr
  cases hr with
  | agg hl' h'=>exact .agg (by omega) (fun i y v hy hv=>by
    have hlt:=(List.getElem?_eq_some_iff.1 hy).1
    have hx:=List.getElem?_eq_getElem (l:=_) (i:=i) (show i<_ by rw [← hl] at hlt; exact hlt)
    exact ih i _ y hx hy (h' i _ v hx hv))
 | tup hl hf ih =>
  intro v hr
  cases hr with
  | tup hl' h'=>exact .tup (by omega) (fun i y v hy hv=>by
    have hlt:=(List.getElem?_eq_some_iff.1 hy).1
    have hx:=List.getElem?_eq_getElem (l:=_) (i:=i) (show i<_ by rw [← hl] at hlt; exact hlt)
    exact ih i _ y hx hy (h' i _ v hx hv))
inductive FzL (H:Hp):List AV→List AV→Prop where
 | nil:FzL H [] []
 | cons {x y:AV} {xs ys:List AV} (h:Fz H x y) (hs:FzL H xs ys):FzL H (x::xs) (y::ys)
theorem FzL.get {H:Hp} {xs ys:List AV} (h:FzL H xs ys):xs.length=ys.length∧∀ (i:Nat) (y:AV),ys[i]?=some y→∃ x,xs[i]?=some x∧Fz H x y:=by
 induction h with
 | nil=>exact ⟨rfl,fun i y h=>by simp at h⟩
 | cons h hs ih =>
  refine ⟨by simp [ih.1],fun i y hy=>?_⟩
  cases i with
  | zero=>simp at hy; subst hy; exact ⟨_,rfl,h⟩
  | succ i=>simpa using ih.2 i y (by simpa using hy)
theorem aq.frzA {P:Program} {σ:Sig} {f:Nat} {xs ys:List AV} {r:AV} {H H':Hp} (h:aq P σ f xs Hp.empty r H') (hx:FzL H ys xs) (hr:fW r=true):aq P σ f ys H r H:=by
 refine ⟨h.1,fun B w0 E w vs hσ hst hxs=>?_⟩
 have hE:E.σ=σ:=by rw [hst.sig,hσ]
 let E1:Env:=⟨fun _=>none,fun b=>w.heap[b]?,E.σ⟩
 have st1:St w.heap.size ⟨w,fun b=>b<w.heap.size,fun _=>none,σ⟩ E1 Hp.empty w :=
  ⟨Below.refl _ _,Nat.le_refl _,fun _ _ h=>h,fun _ _=>rfl,fun _ _=>rfl,fun id k h=>by simp [Hp.empty,Hp.get,Tr.get] at h,
   fun i j k l h=>by simp [Hp.empty,Hp.get,Tr.get] at h,fun b o h=>.inr (Array.getElem?_eq_some_iff.1 h).1,fun b o h=>by simp at h,
   fun i k h=>by simp [Hp.empty,Hp.get,Tr.get] at h,hE,hσ ▸ hst.glNow⟩
 have hg:=hx.get
 have rel1:bh E1 xs vs:=⟨by rw [hxs.len,hg.1],fun i x v a b=>by
  obtain ⟨y,hy,hf⟩:=hg.2 i x a
  exact hf.rel (E1:=E1) hst rfl hst.ro (fun _ _ _ _ _ _ _ _ h=>h) (hxs.at_ i y v hy b)⟩
 refine (h.2 _ _ _ _ _ rfl st1 rel1).mono fun e w' hh=>?_
 obtain ⟨E',v,rfl,hext,st2,hrel⟩:=hh
 have hb:=st2.below
 have hsame:∀ b,b<w.heap.size→w'.heap[b]?=w.heap[b]?:=fun b hb'=>hb.block b hb'
 refine ⟨E,v,rfl,.refl E,⟨hst.below.trans (hb.mono hst.size),Nat.le_trans hst.size hb.size,fun b o ho=>?_,hst.dom,hst.hdom,fun id k hk=>?_,hst.disj,hst.rob,fun b o ho=>?_,hst.frl,hst.sig,hst.gl⟩,rb (by rw [hext.σ]) hrel hr⟩
 ·have:=hst.ro b o ho
  rw [hsame b (Array.getElem?_eq_some_iff.1 this).1]; exact this
 ·obtain ⟨b,o,n,e,hb',hr',ok⟩:=hst.live id k hk
  exact ⟨b,o,n,e,hb',hr',ok.heap (hsame b ok.lt)⟩
 ·obtain ⟨h1,h2⟩:=hst.fr b o ho
  exact ⟨by rw [hsame b (Array.getElem?_eq_some_iff.1 h1).1]; exact h1,h2⟩
theorem aq.frzR {P:Program} {σ:Sig} {f:Nat} {xs:List AV} {r r':AV} {H':Hp} (h:aq P σ f xs Hp.empty r H') (hx:bE xs=true) (hr:Fz H' r r') (H:Hp):aq P σ f xs H r' H:=by
 refine ⟨h.1,fun B w0 E w vs hσ hst hxs=>?_⟩
 have hE:E.σ=σ:=by rw [hst.sig,hσ]
 let E1:Env:=⟨fun _=>none,E.ro,E.σ⟩
 have st1:St w.heap.size ⟨w,fun b=>(E.ro b).isSome=true,fun _=>none,σ⟩ E1 Hp.empty w :=
  ⟨Below.refl _ _,Nat.le_refl _,hst.ro,fun _ _=>rfl,fun _ _=>rfl,fun id k h=>by simp [Hp.empty,Hp.get,Tr.get] at h,
   fun i j k l h=>by simp [Hp.empty,Hp.get,Tr.get] at h,fun b o h=>.inr (by show (E.ro b).isSome=true; have:E.ro b=some o:=h; rw [this]; rfl),fun b o h=>by simp at h,
   fun i k h=>by simp [Hp.empty,Hp.get,Tr.get] at h,hE,hσ ▸ hst.glNow⟩
 have rel1:bh E1 xs vs:=⟨hxs.len,fun i x v a b=>pi (E:=E) (E':=E1) (fun _ _ h=>h) rfl (hxs.at_ i x v a b) (eF hx i x a)⟩
 refine (h.2 _ _ _ _ _ rfl st1 rel1).mono fun e w' hh=>?_
 obtain ⟨E',v,rfl,hext,st2,hrel⟩:=hh
 have hb:=st2.below
 have hsame:∀ b,b<w.heap.size→w'.heap[b]?=w.heap[b]?:=fun b hb'=>hb.block b hb'
 let E2:Env:=⟨E.ρ,fun b=>if b<w.heap.size then E.ro b else w'.heap[b]?,E.σ⟩
 have hext2:E.Ext E2:=⟨fun _ _ h=>h,fun b o ho=>by
  have:=(Array.getElem?_eq_some_iff.1 (hst.ro b o ho)).1
  show (if b<w.heap.size then E.ro b else w'.heap[b]?)=some o
  rw [if_pos this]; exact ho,rfl⟩
 have hro2:∀ b o,E'.ro b=some o→E2.ro b=some o:=by
  intro b o ho
  show (if b<w.heap.size then E.ro b else w'.heap[b]?)=some o
  split
  ·rename_i hlt
   rcases st2.rob b o ho with h | h
   ·omega
   ·have h:(E.ro b).isSome=true:=h
    obtain ⟨o',ho'⟩:=Option.isSome_iff_exists.1 h
    have:=hext.ro b o' ho'
    rw [ho] at this
    cases this
    exact ho'
  ·exact st2.ro b o ho
 refine ⟨E2,v,rfl,hext2,⟨hst.below.trans (hb.mono hst.size),Nat.le_trans hst.size hb.size,fun b o ho=>?_,hst.dom,hst.hdom,fun id k hk=>?_,hst.disj,fun b o ho=>?_,fun b o ho=>?_,hst.frl,hst.sig,hst.gl⟩,?_⟩
 ·have ho:(if b<w.heap.size then E.ro b else w'.heap[b]?)=some o:=ho
  split at ho
  ·have:=hst.ro b o ho
   rw [hsame b (by assumption)]; exact this
  ·exact ho
 ·obtain ⟨b,o,n,e,hb',hr',ok⟩:=hst.live id k hk
  refine ⟨b,o,n,e,hb',?_,(ok.heap (hsame b ok.lt)).ext hext2⟩
  show (if b<w.heap.size then E.ro b else w'.heap[b]?)=none
  rw [if_pos ok.lt]; exact hr'
 ·have ho:(if b<w.heap.size then E.ro b else w'.heap[b]?)=some o:=ho
  split at ho
  ·exact hst.rob b o ho
  ·left; have:=hst.size; omega
 ·obtain ⟨h1,h2⟩:=hst.fr b o ho
  have hlt:=(Array.getElem?_eq_some_iff.1 h1).1
  refine ⟨by rw [hsame b hlt]; exact h1,?_⟩
  show (if b<w.heap.size then E.ro b else w'.heap[b]?)=none
  rw [if_pos hlt]; exact h2
 ·refine hr.rel st2 (by rw [hext.σ]) hro2 (fun id k b o n hk he x hx=>?_) hrel
  obtain ⟨b',o',n',e,hb',_,_⟩:=st2.live id k hk
  rw [he] at e
  cases e
  show (if b<w.heap.size then E.ro b else w'.heap[b]?)=some x
  rw [if_neg (by omega)]; exact hx
end Go.Proofs.YtegioimlblnajaaGreat.Ev
namespace Go.Proofs.YtegioimlblnajaaGreat.Ev
theorem FzL.refl {H:Hp}:∀ {xs:List AV},bE xs=true→FzL H xs xs
 | [],_=>.nil
 | x::r,h=>by
  simp only [bE,Bool.and_eq_true] at h
  exact .cons (.refl h.1) (FzL.refl h.2)
theorem Fz.aggL {H:Hp} {xs ys:List AV} (h:FzL H xs ys):Fz H (.agg xs) (.agg ys):=by
 have hget:=h.get
 refine .agg hget.1 fun j x y hx hy=>?_
 obtain ⟨x',hx',hf⟩:=hget.2 j y hy
 rw [hx] at hx'
 cases hx'
 exact hf
end Go.Proofs.YtegioimlblnajaaGreat.Ev
namespace Go.Proofs.YtegioimlblnajaaGreat.Ev
def FzE (Hd:Hp) (x y:AV):Prop:=x=y∨Fz Hd x y
def FzB (Hd:Hp):Blk→Blk→Prop
 | .cells cs ex,k=>∃ cs',k=.cells cs' ex∧cs.length=cs'.length∧∀ (j:Nat) (x y:AV),cs[j]?=some x→cs'[j]?=some y→FzE Hd x y
 | k,k'=>k=k'
theorem FzB.refl (Hd:Hp) (k:Blk):FzB Hd k k:=by
 cases k with
 | cells cs ex=>exact ⟨cs,rfl,rfl,fun j x y h1 h2=>.inl (by rw [h1] at h2; exact Option.some.inj h2)⟩
 | map=>rfl
 | loop=>rfl
theorem St.sub {B:Nat} {w0:fk} {E:Env} {H Hd:Hp} {w:World} (h:St B w0 E H w) (hn:Hd.n=H.n) (hs:∀ id k,Hd.get id=some k→H.get id=some k):St B w0 E Hd w :=
  ⟨h.below,h.size,h.ro,fun id hi=>h.dom id (by omega),fun id hi=>(by
    cases hg:Hd.get id with
    | none=>rfl
    | some k=>have:=hs id k hg; rw [h.hdom id (by omega)] at this; cases this),
   fun id k hk=>h.live id k (hs id k hk),fun i j k l hi hj hne=>h.disj i j k l (hs i k hi) (hs j l hj) hne,h.rob,h.fr,fun i k hi=>h.frl i k (hs i k hi),h.sig,h.gl⟩
theorem St.frz {B:Nat} {w0:fk} {E':Env} {H1 H2 Hd:Hp} {w':World} (st2:St B w0 E' H1 w') (hn:H2.n=H1.n) (hdn:Hd.n=H1.n) (hd:∀ id k,Hd.get id=some k→H1.get id=some k∧H2.get id=none)
  (h2:∀ id k2,H2.get id=some k2→∃ k1,H1.get id=some k1∧FzB Hd k1 k2):∃ E2,E'.Ext E2∧St B w0 E2 H2 w'∧∀ {x y:AV} {v:Value},FzE Hd x y→Rel E' x v→Rel E2 y v:=by
 classical
 let Fr:Nat→Prop:=fun b=>∃ id k p,Hd.get id=some k∧E'.ρ id=some p∧p.1=b
 let E2:Env:=⟨E'.ρ,fun b=>if Fr b then w'.heap[b]? else E'.ro b,E'.σ⟩
 have frN:∀ b,Fr b→E'.ro b=none∧B≤b:=by
  rintro b ⟨id,k,p,h1,h2,rfl⟩
  obtain ⟨b',o,n,e,hb,hr,_⟩:=st2.live id k (hd id k h1).1
  rw [h2] at e
  cases e
  exact ⟨hr,hb⟩
 have hext2:E'.Ext E2:=⟨fun _ _ h=>h,fun b o ho=>by
  show (if Fr b then _ else E'.ro b)=some o
  rw [if_neg (fun hf=>by rw [(frN b hf).1] at ho; cases ho)]
  exact ho,rfl⟩
 have stD:St B w0 E' Hd w':=st2.sub hdn fun id k hk=>(hd id k hk).1
 have conv:∀ {x y:AV} {v:Value},FzE Hd x y→Rel E' x v→Rel E2 y v:=by
  intro x y v hxy hx
  rcases hxy with rfl | hf
  ·exact hx.ext hext2
  ·exact hf.rel (E1:=E2) stD rfl (fun b o ho=>hext2.ro b o ho) (fun id k b o n hk he x hx=>by
    show (if Fr b then w'.heap[b]? else E'.ro b)=some x
    rw [if_pos ⟨id,k,_,hk,he,rfl⟩]; exact hx) hx
 refine ⟨E2,hext2,⟨st2.below,st2.size,fun b o ho=>?_,fun id hi=>st2.dom id (by omega),fun id hi=>?_,fun id k2 hk=>?_,fun i j k l hi hj hne=>?_,fun b o ho=>?_,fun b o ho=>?_,fun i k hi p hp=>?_,st2.sig,st2.gl⟩,conv⟩
 ·have ho:(if Fr b then w'.heap[b]? else E'.ro b)=some o:=ho
  split at ho
  ·exact ho
  ·exact st2.ro b o ho
 ·cases hg:H2.get id with
  | none=>rfl
  | some k =>
   obtain ⟨k1,h1,_⟩:=h2 id k hg
   rw [st2.hdom id (by omega)] at h1; cases h1
 ·obtain ⟨k1,h1,hb1⟩:=h2 id k2 hk
  obtain ⟨b,o,n,e,hb,hr',ok⟩:=st2.live id k1 h1
  refine ⟨b,o,n,e,hb,?_,?_⟩
  ·show (if Fr b then w'.heap[b]? else E'.ro b)=none
   rw [if_neg (fun hf=>?_)]
   ·exact hr'
   ·obtain ⟨id',k',p,h3,h4,h5⟩:=hf
    have hne:id≠id':=fun e=>by subst e; rw [(hd id k' h3).2] at hk; cases hk
    exact st2.disj id id' k1 k' h1 (hd id' k' h3).1 hne _ _ e h4 h5.symm
  ·cases k1 with
   | cells cs ex =>
    obtain ⟨cs',rfl,hl,hc⟩:=hb1
    obtain ⟨c,ty,lo,hi,h3,h4,h5,h6,h7,h8⟩:=ok
    refine ⟨c,ty,lo,hi,h3,h4,by omega,fun he=>by rw [← hl]; exact h6 he,h7,fun j y hj=>?_⟩
    have hlt:j<cs.length:=by rw [hl]; exact (List.getElem?_eq_some_iff.1 hj).1
    obtain ⟨v,hv,hx⟩:=h8 j cs[j] (List.getElem?_eq_getElem hlt)
    exact ⟨v,hv,conv (hc j _ y (List.getElem?_eq_getElem hlt) hj) hx⟩
   | map es =>
    have:Blk.map es=k2:=hb1
    subst this
    exact ok.ext hext2
   | loop a b c =>
    have:Blk.loop a b c=k2:=hb1
    subst this
    exact ok.ext hext2
 ·obtain ⟨k1,h1,_⟩:=h2 i k hi
  obtain ⟨k3,h3,_⟩:=h2 j l hj
  exact st2.disj i j k1 k3 h1 h3 hne
 ·have ho:(if Fr b then w'.heap[b]? else E'.ro b)=some o:=ho
  split at ho
  ·rename_i hf; exact .inl (frN b hf).2
  ·exact st2.rob b o ho
 ·obtain ⟨h3,h4⟩:=st2.fr b o ho
  refine ⟨h3,?_⟩
  show (if Fr b then w'.heap[b]? else E'.ro b)=none
  rw [if_neg (fun hf=>?_)]
  ·exact h4
  ·obtain ⟨id',k',p,h5,h6,h7⟩:=hf
   have:=st2.frl id' k' (hd id' k' h5).1 p h6
   rw [h7,ho] at this; cases this
 ·obtain ⟨k1,h1,_⟩:=h2 i k hi
  exact st2.frl i k1 h1 p hp
inductive FzT (Hd:Hp):List AV→List AV→Prop where
 | nil:FzT Hd [] []
 | same {x:AV} {xs ys:List AV} (h:FzT Hd xs ys):FzT Hd (x::xs) (x::ys)
 | fz {x y:AV} {xs ys:List AV} (hf:Fz Hd x y) (h:FzT Hd xs ys):FzT Hd (x::xs) (y::ys)
theorem FzT.get {Hd:Hp} {xs ys:List AV} (h:FzT Hd xs ys):xs.length=ys.length∧∀ (i:Nat) (y:AV),ys[i]?=some y→∃ x,xs[i]?=some x∧FzE Hd x y:=by
 induction h with
 | nil=>exact ⟨rfl,fun i y h=>by simp at h⟩
 | same hs ih =>
  refine ⟨by simp [ih.1],fun i y hy=>?_⟩
  cases i with
  | zero=>simp at hy; subst hy; exact ⟨_,rfl,.inl rfl⟩
  | succ i=>simpa using ih.2 i y (by simpa using hy)
 | fz hf hs ih =>
  refine ⟨by simp [ih.1],fun i y hy=>?_⟩
  cases i with
  | zero=>simp at hy; subst hy; exact ⟨_,rfl,.inr hf⟩
  | succ i=>simpa using ih.2 i y (by simpa using hy)
theorem Wk.frz {σ:Sig} {T T2:List AV} {H H2 Hd:Hp} (hn:H2.n=H.n) (hdn:Hd.n=H.n) (hd:∀ id k,Hd.get id=some k→H.get id=some k∧H2.get id=none)
  (h2:∀ id k2,H2.get id=some k2→∃ k1,H.get id=some k1∧FzB Hd k1 k2) (hT:FzT Hd T T2):Wk σ T H T2 H2:=by
 intro B w0 E tmps w hσ hst hR
 obtain ⟨E2,h3,h4,h5⟩:=hst.frz hn hdn hd h2
 have hg:=hT.get
 refine ⟨E2,h3,h4,⟨by have:=hR.len; omega,fun i y v hy hv=>?_⟩⟩
 obtain ⟨x,hx,hf⟩:=hg.2 i y hy
 exact h5 hf (hR.at_ i x v hx hv)
theorem co.conv {P:Program} {C:Ctx P} {c:Code} {T T2:List AV} {H H2:Hp} {Q:Exit→List AV→Hp→Prop} (k:Wk C.σ T H T2 H2) (h:co C c T2 H2 Q):co C c T H Q :=
 let ⟨e,T',H',hx,hq⟩:=h
 ⟨e,T',H',.conv k hx,hq⟩
end Go.Proofs.YtegioimlblnajaaGreat.Ev
namespace Go.Proofs.YtegioimlblnajaaGreat.Ev
set_option linter.unusedVariables false
set_option linter.unusedSimpArgs false
def own (x:AV) (j:Nat):Prop:=match x with
 | .sl id _ _ _ _=>id=j
 | _=>False
inductive Gs (sz:Nat) (H:Hp):AV→List (List AV)→Prop where
 | nil:Gs sz H (.lit (.slice none 0 0)) []
 | sl {id:Nat} {ex:Bool} {rows:List (List AV)} (hlt:id<H.n) (hg:H.get id=some (.cells rows.flatten ex)) (hsz:∀ row ∈ rows,row.length=sz):Gs sz H (.sl id 0 sz rows.length none) rows
structure Fr (H:Hp) (x:AV) (H':Hp) (x':AV):Prop where
 same:∀ j,j<H.n→¬ own x j→H'.get j=H.get j
 grow:H.n≤H'.n
 mine:∀ j,own x' j→own x j∨(H.n≤j∧j<H'.n)
theorem cG {sz:Nat}:∀ {rows:List (List AV)},(∀ row ∈ rows,row.length=sz)→rows.flatten.length=rows.length*sz
 | [],_=>by simp
 | r::rs,h=>by
  have ih:=cG (rows:=rs) fun x hx=>h x (by simp [hx])
  simp only [List.flatten_cons,List.length_append,h r (by simp),List.length_cons,ih]
  rw [Nat.succ_mul]; omega
theorem Gs.len {sz:Nat} {H:Hp} {x:AV} {rows:List (List AV)} (h:Gs sz H x rows):aM x=some (I rows.length):=by
 cases h<;>rfl
theorem Gs.one {sz:Nat} {H:Hp} {x:AV} {rows:List (List AV)} (h:Gs sz H x rows):AV.one x=true:=by
 cases h<;>rfl
theorem Gs.cells {sz:Nat} {H:Hp} {x:AV} {rows:List (List AV)} (h:Gs sz H x rows):x.cells=[x]∧x.isAny=false:=by
 cases h<;>exact ⟨rfl,rfl⟩
theorem Gs.keep {sz:Nat} {H H':Hp} {x:AV} {rows:List (List AV)} (h:Gs sz H x rows) (hs:∀ j,own x j→H'.get j=H.get j) (hn:H.n≤H'.n):Gs sz H' x rows:=by
 cases h with
 | nil=>exact .nil
 | sl hlt hg hsz=>exact .sl (by omega) (by rw [hs _ rfl]; exact hg) hsz
theorem OF {sz bytes:Nat} {H:Hp} {x y:AV} {rows rows2:List (List AV)} (hx:Gs sz H x rows) (hns:iZ y=true) (hs:ia H sz y=some (rows2.length,rows2.flatten)) (h2:∀ row ∈ rows2,row.length=sz) (hone:rows2.flatten.all AV.one=true)
  (hb:(rows.length+rows2.length)*bytes≤140737488355328) (hn:rows.length+rows2.length≤4611686018427387904):∃ x' H',eC false sz bytes H x y=some (x',H')∧Gs sz H' x' (rows++rows2)∧Fr H x H' x':=by
 unfold eC
 simp only [hns,cond_true,hs,hone,i4,oS]
 by_cases h0:rows2.length=0
 ·have:rows2=[]:=List.length_eq_zero_iff.1 h0
  subst this
  refine ⟨x,H,?_,by simpa using hx,fun j _ _=>rfl,Nat.le_refl _,fun j hj=>.inl hj⟩
  cases hx<;>simp
 ·simp only [h0,decide_false,cond_false]
  cases hx with
  | nil =>
   simp only [List.length_nil,Nat.zero_add] at hb hn
   refine ⟨.sl H.n 0 sz rows2.length none,H.new (.cells rows2.flatten false),by simp [hb,hn],?_,fun j hj _=>?_,by simp,fun j hj=>?_⟩
   ·exact .sl (ex:=false) (by simp) (by simp) h2
   ·have:j≠H.n:=by omega
    simp [this]
   ·simp only [own] at hj
    right; subst hj; simp
  | sl hlt hg hsz =>
   rename_i id ex
   have hl:=cG hsz
   simp only [hg]
   have e:List.take (rows.length*sz) rows.flatten=rows.flatten:=by rw [← hl]; exact List.take_length
   refine ⟨.sl H.n 0 sz (rows.length+rows2.length) none,(H.set id none).new (.cells (rows.flatten++rows2.flatten) false),by simp [hb,hn,hl,e],?_,fun j hj hne=>?_,by simp,fun j hj=>?_⟩
   ·have e:List.take (rows.length*sz) rows.flatten=rows.flatten:=by rw [← hl]; exact List.take_length
    have:rows.length+rows2.length=(rows++rows2).length:=by simp
    rw [this]
    refine .sl (ex:=false) (by simp) (by simp) fun row hrow=>?_
    rcases List.mem_append.1 hrow with h | h
    ·exact hsz row h
    ·exact h2 row h
   ·simp only [own] at hne
    have h1:j≠H.n:=by omega
    have h2:j≠id:=fun e=>hne e.symm
    simp [h1,h2]
   ·simp only [own] at hj
    right; subst hj; simp
theorem vE {H:Hp} {id sz:Nat} {cap:Option Nat} {row:List AV} {ex:Bool} (hg:H.get id=some (.cells row ex)) (hl:row.length=sz):ia H sz (.sl id 0 sz 1 cap)=some (([row]:List (List AV)).length,([row]:List (List AV)).flatten):=by
 subst hl
 simp [ia,hg,i4]
theorem vC {H:Hp} {sz:Nat} {rows:List (List AV)}:ia H sz (.imm sz rows)=some (rows.length,rows.flatten):=by
 simp [ia,i4]
theorem vU {sz bytes:Nat} {H:Hp} {x y:AV} {rows rows2:List (List AV)} (hx:Gs sz H x rows) (hns:iZ y=true) (hs:ia H sz y=some (rows2.length,rows2.flatten)) (h2:∀ row ∈ rows2,row.length=sz) (hone:rows2.flatten.all AV.one=true)
  (hb:(rows.length+rows2.length)*bytes≤140737488355328) (hn:rows.length+rows2.length≤4611686018427387904) {K:AV × Hp→Prop} (h:∀ x' H',Gs sz H' x' (rows++rows2)→Fr H x H' x'→K (x',H')):bnd (eC false sz bytes H x y) K:=by
 obtain ⟨x',H',e,hg,hf⟩:=OF hx hns hs h2 hone hb hn
 rw [e]
 exact h x' H' hg hf
theorem Gs.fz {sz:Nat} {H:Hp} {x:AV} {rows:List (List AV)} (h:Gs sz H x rows) (hn:d9 rows=true):Fz H x (.imm sz rows):=by
 cases h with
 | nil=>exact .nil
 | sl hlt hg hsz=>exact .rows hg hsz (by rw [List.drop_zero,← cG hsz]; exact List.take_length) hn
end Go.Proofs.YtegioimlblnajaaGreat.Ev
namespace Go.Proofs.YtegioimlblnajaaGreat.Ev
set_option linter.unusedVariables false
set_option linter.unusedSimpArgs false
theorem Gs.lt {sz:Nat} {H:Hp} {x:AV} {rows:List (List AV)} (h:Gs sz H x rows) {j:Nat} (hj:own x j):j<H.n:=by
 cases h with
 | nil=>exact hj.elim
 | sl hlt _ _=>simp only [own] at hj; omega
theorem pL (z:List Value) (n:Nat):(iG z n).length=n:=by simp [iG]
theorem jK {z:List Value} {sz:Nat} {H:Hp} {x:AV} (hl:x.cells.length=sz) (ha:x.isAny=false):cw z sz 1 H [(0,sz,x)]=some (.sl H.n 0 sz 1 (some 1),H.new (.cells x.cells true)):=by
 unfold cw
 simp only [cR,hl,i4,oS,decide_true,Nat.one_mul,pL,Nat.zero_add,Nat.le_refl,ha,Bool.not_false,Bool.and_self,cond_true]
 rw [b9 (by rw [pL]; exact hl)]
 simp [hl]
theorem kV {z:List Value} {sz bytes:Nat} {H:Hp} {x y:AV} {rows:List (List AV)} (hx:Gs sz H x rows) (hl:y.cells.length=sz) (ha:y.isAny=false) (hone:y.cells.all AV.one=true)
  (hb:(rows.length+1)*bytes≤140737488355328) (hn:rows.length+1≤4611686018427387904) {K:AV × Hp→Prop} (h:∀ x' H',Gs sz H' x' (rows++[y.cells])→Fr H x H' x'→K (x',H')) :
  bnd (cw z sz 1 H [(0,sz,y)]) fun p=>bnd (eC false sz bytes p.2 x p.1) K:=by
 rw [jK hl ha,ae]
 have hk:Gs sz (H.new (.cells y.cells true)) x rows:=by
  refine hx.keep (fun j hj=>?_) (by simp)
  have:j≠H.n:=by
   cases hx with
   | nil=>exact hj.elim
   | sl hlt _ _=>simp only [own] at hj; omega
  simp [this]
 refine vU hk rfl (vE (row:=y.cells) (ex:=true) (by simp) hl) (fun row hrow=>by simp at hrow; rw [hrow]; exact hl) (by simpa using hone) (by simpa using hb) (by simpa using hn) fun x' H' g f=>h x' H' g ⟨fun j hj hne=>?_,?_,fun j hj=>?_⟩
 ·rw [f.same j (by simp; omega) hne]
  have:j≠H.n:=by omega
  simp [this]
 ·have:=f.grow; simp at this; omega
 ·rcases f.mine j hj with h | ⟨h1,h2⟩
  ·exact .inl h
  ·right; simp at h1; omega
end Go.Proofs.YtegioimlblnajaaGreat.Ev
namespace Go.Proofs.YtegioimlblnajaaGreat.Ev
theorem nB {sz:Nat}:∀ {rows:List (List AV)},(∀ row ∈ rows,row.length=sz)→∀ (i:Nat) (row:List AV) (j:Nat) (y:AV),rows[i]?=some row→row[j]?=some y→rows.flatten[i*sz+j]?=some y
 | [],_,i,row,j,y,h1,_=>by simp at h1
 | r::rs,hsz,i,row,j,y,h1,h2=>by
  have hr:=hsz r (by simp)
  cases i with
  | zero =>
   simp at h1; subst h1
   have hj:=(List.getElem?_eq_some_iff.1 h2).1
   simp only [Nat.zero_mul,Nat.zero_add,List.flatten_cons]
   rw [List.getElem?_append_left hj]; exact h2
  | succ i =>
   simp only [List.flatten_cons]
   rw [List.getElem?_append_right (by rw [hr,Nat.succ_mul]; omega),hr,show (i+1)*sz+j - sz=i*sz+j by rw [Nat.succ_mul]; omega]
   exact nB (fun r hr=>hsz r (by simp [hr])) i row j y (by simpa using h1) h2
theorem uy {H:Hp} {id off:Nat} {cs:List AV} {ex:Bool} {x:AV} (hg:H.get id=some (.cells cs ex)) (hc:x.cells=[x]) (ha:x.isAny=false) (ho:AV.one x=true) (hl:off<cs.length):stA 1 H (.ptr id off) x=some (H.set id (some (.cells (cs.set off x) ex))):=by
 rw [gW 1 H id off x (by rw [hc]; rfl) ha,hg,hc]
 have:off+[x].length≤cs.length:=by simp; omega
 simp only [kY,this,List.all_cons,List.all_nil,ho,Bool.and_self,and_self,if_true,iE hl]
theorem Gs.st {sz:Nat} {H0 H:Hp} {x:AV} {rows:List (List AV)} (h:Gs sz H0 x rows) {id off:Nat} {cs:List AV} {ex:Bool} (hg:H.get id=some (.cells cs ex)) (hl:off<cs.length):stA 1 H (.ptr id off) x=some (H.set id (some (.cells (cs.set off x) ex))) :=
 uy hg h.cells.1 h.cells.2 h.one hl
end Go.Proofs.YtegioimlblnajaaGreat.Ev
namespace Go.Proofs.YtegioimlblnajaaGreat.Ev
set_option linter.unusedVariables false
end Go.Proofs.YtegioimlblnajaaGreat.Ev
