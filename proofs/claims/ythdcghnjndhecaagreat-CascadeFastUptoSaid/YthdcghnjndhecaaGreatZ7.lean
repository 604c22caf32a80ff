/- The walks, part 7: the evaluator, the functions, the laws. Conditions: none. -/
import Derived.Test.YthdcghnjndhecaaGreatZ6
namespace Go.Proofs.YthdcghnjndhecaaGreat.Ev
set_option linter.unusedVariables false
set_option linter.unusedSimpArgs false
inductive Sk where
 | same
 | sl (sz:Nat) (row:List Sk)
 | agg (row:List Sk)
 | ptr (row:List Sk)
def lT (sz:Nat) (g:List AV→Option (List AV)):Nat→List AV→Option (List (List AV))
 | 0,_=>some []
 | n+1,l=>match g (l.take sz) with
  | some r=>match lT sz g n (l.drop sz) with
   | some rs=>some (r::rs)
   | none=>none
  | none=>none
mutual
def zp (H:Hp):Sk→AV→Option AV
 | .same,x=>bif bt x then some x else none
 | .sl sz row,x=>match x with
  | .lit (.slice none 0 0)=>some (.imm sz [])
  | .emp=>some (.imm sz [])
  | .se _ _ _=>some (.imm sz [])
  | .imm s rows=>bif bt (.imm s rows) then some (.imm s rows) else none
  | .sl id off s len _=>bif Nat.beq s sz then match H.get id with
    | some (.cells cs _)=>match lT sz (fun l=>frzR H row l) len (cs.drop off) with
     | some rows=>bif Nat.beq row.length sz then some (.imm sz rows) else none
     | none=>none
    | _=>none
   else none
  | _=>none
 | .agg row,x=>match x with
  | .agg xs=>match frzR H row xs with
   | some ys=>some (.agg ys)
   | none=>none
  | _=>none
 | .ptr row,x=>match x with
  | .ptr id off=>match H.get id with
   | some (.cells cs _)=>match frzR H row ((cs.drop off).take row.length) with
    | some ys=>some (.ip ys)
    | none=>none
   | _=>none
  | _=>none
def frzR (H:Hp):List Sk→List AV→Option (List AV)
 | [],xs=>match xs with
  | []=>some []
  | _=>none
 | k::ks,xs=>match xs with
  | x::xs=>match zp H k x with
   | some y=>match frzR H ks xs with
    | some ys=>some (y::ys)
    | none=>none
   | none=>none
  | []=>none
end
theorem pG {sz:Nat} {g:List AV→Option (List AV)} {H:Hp} (hg:∀ l r,g l=some r→FzL H l r):∀ (n:Nat) (l:List AV) (rows:List (List AV)),lT sz g n l=some rows→rows.length=n∧∀ (i:Nat) (row:List AV),rows[i]?=some row→FzL H ((l.drop (i*sz)).take sz) row
 | 0,l,rows,h=>by
  simp only [lT,Option.some.injEq] at h
  subst h
  exact ⟨rfl,fun i row h=>by simp at h⟩
 | n+1,l,rows,h=>by
  simp only [lT] at h
  split at h
  case h_2=>cases h
  rename_i r hr
  split at h
  case h_2=>cases h
  rename_i rs hrs
  simp only [Option.some.injEq] at h
  subst h
  obtain ⟨h1,h2⟩:=pG hg n _ _ hrs
  refine ⟨by simp [h1],fun i row hi=>?_⟩
  cases i with
  | zero =>
   simp at hi
   subst hi
   simpa using hg _ _ hr
  | succ i =>
   simp at hi
   have:=h2 i row hi
   rw [List.drop_drop] at this
   rw [Nat.succ_mul,Nat.add_comm]
   exact this
theorem FzL.len {H:Hp} {xs ys:List AV} (h:FzL H xs ys):xs.length=ys.length:=h.get.1
mutual
theorem pN {H:Hp}:∀ (k:Sk) (x y:AV),zp H k x=some y→Fz H x y
 | .same,x,y,h=>by
  simp only [zp] at h
  cases hn:bt x with
  | false=>rw [hn] at h; cases h
  | true=>rw [hn] at h; cases h; exact .refl hn
 | .sl sz row,x,y,h=>by
  simp only [zp] at h
  split at h
  ·cases h; exact .nil
  ·cases h; exact .emp
  ·cases h; exact .se
  ·rename_i s rows
   cases hn:bt (.imm s rows) with
   | false=>rw [hn] at h; cases h
   | true=>rw [hn] at h; cases h; exact .refl hn
  ·rename_i id off s len cap
   cases hs:Nat.beq s sz with
   | false=>rw [hs] at h; cases h
   | true =>
    rw [hs] at h
    have:=Nat.eq_of_beq_eq_true hs
    subst this
    simp only [cond_true] at h
    split at h
    case h_2=>cases h
    rename_i cs ex hg
    split at h
    case h_2=>cases h
    rename_i rows hr
    cases hl:Nat.beq row.length s with
    | false=>rw [hl] at h; cases h
    | true =>
     rw [hl] at h
     cases h
     have hlen:=Nat.eq_of_beq_eq_true hl
     obtain ⟨h1,h2⟩:=pG (fun l r hh=>oP row l r hh) _ _ _ hr
     have hrow:∀ (i:Nat) (r:List AV),rows[i]?=some r→r.length=s:=by
      intro i r hi
      obtain ⟨_,hh⟩:=pG (g:=fun l=>frzR H row l) (fun l r hh=>oP row l r hh) _ _ _ hr
      exact rY (fun l r hh=>by rw [← hlen]; exact wT row l r hh) _ _ _ hr i r hi
     refine .sl (fun i j=>cs.getD (off+(i*s+j)) .any) hg h1 hrow (fun i r j y hi hy=>?_) (fun i r j y hi hy=>?_)
     ·obtain ⟨x,hx,_⟩:=(h2 i r hi).get.2 j y hy
      have hj:j<s:=by rw [← hrow i r hi]; exact (List.getElem?_eq_some_iff.1 hy).1
      rw [List.getElem?_take,if_pos hj,List.getElem?_drop,List.getElem?_drop] at hx
      simp [hx]
     ·obtain ⟨x,hx,hf⟩:=(h2 i r hi).get.2 j y hy
      have hj:j<s:=by rw [← hrow i r hi]; exact (List.getElem?_eq_some_iff.1 hy).1
      rw [List.getElem?_take,if_pos hj,List.getElem?_drop,List.getElem?_drop] at hx
      simp [hx]
      exact hf
  ·cases h
 | .agg row,x,y,h=>by
  simp only [zp] at h
  split at h
  case h_2=>cases h
  split at h
  case h_2=>cases h
  rename_i hr
  cases h
  exact Fz.aggL (oP row _ _ hr)
 | .ptr row,x,y,h=>by
  simp only [zp] at h
  split at h
  case h_2=>cases h
  rename_i id off
  split at h
  case h_2=>cases h
  rename_i cs ex hg
  split at h
  case h_2=>cases h
  rename_i ys hr
  cases h
  have hl:=(oP row _ _ hr).get
  refine .ptr (fun j=>cs.getD (off+j) .any) hg (fun j y hy=>?_) (fun j y hy=>?_)
  ·obtain ⟨x,hx,_⟩:=hl.2 j y hy
   rw [List.getElem?_take] at hx
   split at hx
   ·rw [List.getElem?_drop] at hx
    simp [hx]
   ·cases hx
  ·obtain ⟨x,hx,hf⟩:=hl.2 j y hy
   rw [List.getElem?_take] at hx
   split at hx
   ·rw [List.getElem?_drop] at hx
    simp [hx]
    exact hf
   ·cases hx
theorem oP {H:Hp}:∀ (ks:List Sk) (xs ys:List AV),frzR H ks xs=some ys→FzL H xs ys
 | [],xs,ys,h=>by
  simp only [frzR] at h
  split at h
  ·cases h; exact .nil
  ·cases h
 | k::ks,xs,ys,h=>by
  simp only [frzR] at h
  split at h
  case h_2=>cases h
  rename_i x xs
  split at h
  case h_2=>cases h
  rename_i y hy
  split at h
  case h_2=>cases h
  rename_i zs hz
  cases h
  exact .cons (pN k x y hy) (oP ks xs zs hz)
theorem wT {H:Hp}:∀ (ks:List Sk) (xs ys:List AV),frzR H ks xs=some ys→ys.length=ks.length
 | [],xs,ys,h=>by
  simp only [frzR] at h
  split at h
  ·cases h; rfl
  ·cases h
 | k::ks,xs,ys,h=>by
  simp only [frzR] at h
  split at h
  case h_2=>cases h
  split at h
  case h_2=>cases h
  split at h
  case h_2=>cases h
  rename_i zs hz
  cases h
  simp [wT ks _ _ hz]
theorem rY {sz:Nat} {g:List AV→Option (List AV)} (hg:∀ l r,g l=some r→r.length=sz):∀ (n:Nat) (l:List AV) (rows:List (List AV)),lT sz g n l=some rows→∀ (i:Nat) (r:List AV),rows[i]?=some r→r.length=sz
 | 0,l,rows,h,i,r,hi=>by
  simp only [lT,Option.some.injEq] at h
  subst h
  simp at hi
 | n+1,l,rows,h,i,r,hi=>by
  simp only [lT] at h
  split at h
  case h_2=>cases h
  rename_i r0 hr0
  split at h
  case h_2=>cases h
  rename_i rs hrs
  cases h
  cases i with
  | zero=>simp at hi; subst hi; exact hg _ _ hr0
  | succ i=>exact rY hg n _ _ hrs i r (by simpa using hi)
end
def zM:Sk:=.sl 1 [.same]
def So:Sk:=.sl 3 [.same,.same,.same]
def Sa:Sk:=.sl 2 [.same,.same]
def TJ:List Sk:=[.same,.same,.same,zM,Sa]
def Sg:Sk:=.sl 5 TJ
def Sw (pss:Sk):List Sk:=[.same,zM,zM,So,pss]
def Pe:Nat→Sk
 | 0=>.same
 | n+1=>.sl 4 [.same,.same,.same,.sl 1 [.sl 6 (.same::Sw (Pe n))]]
def Tb (n:Nat):Sk:=.sl 6 (.same::Sw (Pe n))
def SK (n:Nat):Sk:=.sl 1 [Tb n]
end Go.Proofs.YthdcghnjndhecaaGreat.Ev
namespace Go.Proofs.YthdcghnjndhecaaGreat.Ev
theorem au.conv {P:Program} {σ:Sig} {f:Nat} {xs ys:List AV} {r:AV} {H H2 H3:Hp} (k:Wk σ ys H xs H2) (h:au P σ f xs H2 r H3):au P σ f ys H r H3:=by
 refine ⟨h.1,fun B w0 E w vs hσ hst hxs=>?_⟩
 obtain ⟨E2,h1,h2,h3⟩:=k hσ hst hxs
 refine (h.2 B w0 E2 w vs hσ h2 h3).mono fun e w' hh=>?_
 obtain ⟨E',v,rfl,hext,st2,hrel⟩:=hh
 exact ⟨E',v,rfl,h1.trans hext,st2,hrel⟩
def Hp.bare (n:Nat):Hp:=⟨n,.leaf⟩
@[simp] theorem Hp.bare_n (n:Nat):(Hp.bare n).n=n:=rfl
@[simp] theorem Hp.bare_get (n j:Nat):(Hp.bare n).get j=none:=by simp [Hp.bare,Hp.get,Tr.get]
theorem FzL.t {H:Hp} {xs ys:List AV} (h:FzL H xs ys):FzT H xs ys:=by
 induction h with
 | nil=>exact .nil
 | cons h hs ih=>exact .fz h ih
theorem au.drop {P:Program} {σ:Sig} {f:Nat} {xs ys:List AV} {r:AV} {H:Hp} (h:∀ H,au P σ f xs H r H) (hx:FzL H ys xs):au P σ f ys H r (Hp.bare H.n) :=
 au.conv (Wk.frz (H2:=Hp.bare H.n) (Hd:=H) rfl rfl (fun id k hk=>⟨hk,by simp⟩) (fun id k2 hk=>by simp at hk) hx.t) (h _)
theorem c7 {α:Type} {o:Option α} {x:α} {K:α→Prop} (h:o=some x) (k:K x):bnd o K:=by rw [h]; exact k
end Go.Proofs.YthdcghnjndhecaaGreat.Ev
namespace Go.Proofs.YthdcghnjndhecaaGreat.Ev
set_option linter.unusedVariables false
set_option linter.unusedSimpArgs false
inductive Gsc (sz:Nat) (H:Hp):AV→List (List AV)→Prop where
 | gs {x:AV} {rows:List (List AV)} (h:Gs sz H x rows):Gsc sz H x rows
 | full {id:Nat} {ex:Bool} {rows:List (List AV)} (hlt:id<H.n) (hg:H.get id=some (.cells rows.flatten ex)) (hsz:∀ row ∈ rows,row.length=sz) (h0:rows≠[]):Gsc sz H (.sl id 0 sz rows.length (some rows.length)) rows
theorem Gsc.lit {sz:Nat} {H:Hp} {row:List AV} (hl:row.length=sz):Gsc sz (H.new (.cells row true)) (.sl H.n 0 sz 1 (some 1)) [row]:=by
 refine .full (id:=H.n) (rows:=[row]) (by simp) (by simp; rfl) (by simp [hl]) (by simp)
theorem aN.drop {P:Program} {C:Ctx P} {c:Code} {T T2:List AV} {H:Hp} {Q:Exit→List AV→Hp→Prop} (hT:FzT H T T2) (h:aN C c T2 (Hp.bare H.n) Q):aN C c T H Q :=
 aN.conv (Wk.frz (H2:=Hp.bare H.n) (Hd:=H) rfl rfl (fun id k hk=>⟨hk,by simp⟩) (fun id k2 hk=>by simp at hk) hT) h
end Go.Proofs.YthdcghnjndhecaaGreat.Ev
namespace Go.Proofs.YthdcghnjndhecaaGreat.Ev
theorem SC {Hd:Hp}:∀ (T:List AV),FzT Hd T T
 | []=>.nil
 | _::T=>.same (SC T)
end Go.Proofs.YthdcghnjndhecaaGreat.Ev
namespace Go.Proofs.YthdcghnjndhecaaGreat.Ev
set_option linter.unusedVariables false
set_option linter.unusedSimpArgs false
variable {σ:Sig} {L:List Nd} {d:List Nat}
def TxL:Nat→List Sl→Prop
 | 0,_=>False
 | f+1,l=>∀ s ∈ l,∀ p ∈ s,(∀ a ∈ p.c.attrs,a.text.data.size<4294967281)∧∀ q ∈ p.c.pseudos,TxL f q.list
theorem TxL.one {f:Nat} {l:List Sl} (h:TxL f l) {s:Sl} (hs:s ∈ l):TxL f [s]:=by
 cases f with
 | zero=>exact h
 | succ f=>exact fun s' hs'=>by rw [List.mem_singleton.1 hs']; exact h s hs
theorem Al.of {c:Cp} (h:vM c) (ht:∀ a ∈ c.attrs,a.text.data.size<4294967281):Al c:=⟨h.ids,h.classes,h.attrs,h.ps,ht⟩
theorem O8:∀ (f:Nat) (l:List Sl) (dp:Nat),lM f l→TxL f l→fT f l dp=true→QZ f l
 | 0,l,dp,h,_,_=>h
 | f+1,l,dp,h,ht,hm=>by
  refine ⟨Nat.le_trans h.1 (by decide),fun s hs=>?_⟩
  have h1:=h.2 s hs
  have h2:=List.all_eq_true.1 hm s hs
  unfold qQ at h2
  simp only [Bool.and_eq_true,decide_eq_true_eq] at h2
  refine ⟨h2.1,fun p hp=>?_⟩
  have h3:=h1.2 p hp
  have h4:=ht s hs p hp
  refine ⟨.of h3.1 h4.1,fun q hq=>⟨(h3.2.2 q hq).1,fun hk=>?_⟩⟩
  have h5:=List.all_eq_true.1 (List.all_eq_true.1 h2.2 p hp) q hq
  unfold rW at h5
  rw [if_pos hk] at h5
  simp only [Bool.and_eq_true] at h5
  exact O8 f q.list (dp - 1) (h3.2.2 q hq).2 (h4.2 q hq) h5.2
theorem Qt {f:Nat} {s:Sl} (hn:m9 f [s]) (hf:f≤12) (e:Nat):AA L [s] e=frB L s e:=by
 rw [← CJ hn hf]
 simp [pV,frB]
theorem yL {f:Nat} {s:Sl} {dp:Nat}:fT (f+1) [s] dp=qQ (fT f) dp s:=by simp [fT]
theorem Ab (M:McT σ L d) {f:Nat} {s:Sl} (S:vk (f+1) [s]) (ht:TxL (f+1) [s]) (e:Int) (H:Hp):au Tryz.prog σ eW [dl L d,I e,.agg (aH s)] H (Bo (nS L (f+1) s e)) H:=by
 refine bg (fun K hK=>iB.run ?_) (by simp [aK,bt,dC,gP]) rfl H
 have hwf:=S.wf.2 s (by simp)
 have hn:=S.nest
 simp only [cJ]
 have hl:ldA true 1 (Hp.empty.new (.cells (aH s) true)) (.ptr Hp.empty.n 0)=some (.agg (aH s)):=by simp
 simp only [hl,aa]
 refine ak (S0 f s 0 _ hwf (fun p hp q hq=>hn s (by simp) p hp q hq) (by decide)) ?_
 simp only [eM,Bool.not_not,aa,ai,Nat.sub_zero]
 unfold nS mi at hK
 simp only [List.any_cons,List.any_nil,Bool.or_false,yL] at hK
 cases hm:qQ (fT f) 8 s with
 | false=>rw [hm] at hK; simpa using hK _
 | true =>
  rw [hm] at hK
  simp only [if_true,hl,aa]
  have hm':fT (f+1) [s] 8=true:=by rw [yL]; exact hm
  have hr:=O8 (f+1) [s] 8 S.ok ht hm'
  have h1:=(OS (σ:=σ) M.hB M.hN M.sm (f+1) [s] 0 S.hf hr hn (by have:=S.hf; omega)).1 s (by simp)
  refine ak (Bt M.hB M.hN M.sm h1.1 (by decide) h1.2 _) ?_
  rw [Qt hn S.hf,Bool.true_and] at hK
  exact hK _
end Go.Proofs.YthdcghnjndhecaaGreat.Ev
namespace Go.Proofs.YthdcghnjndhecaaGreat.Ev
set_option linter.unusedVariables false
set_option linter.unusedSimpArgs false
theorem fx {α:Type} {f:α→List AV} {P:α→Prop}:∀ {rows:List (List AV)},(∀ row ∈ rows,∃ x,row=f x∧P x)→∃ l:List α,rows=l.map f∧∀ x ∈ l,P x
 | [],_=>⟨[],rfl,fun x hx=>by cases hx⟩
 | r::rs,h=>by
  obtain ⟨x,hx,px⟩:=h r (by simp)
  obtain ⟨l,hl,pl⟩:=fx (rows:=rs) fun row hr=>h row (by simp [hr])
  refine ⟨x::l,by rw [hx,hl]; rfl,fun y hy=>?_⟩
  rcases List.mem_cons.1 hy with rfl | hy
  ·exact px
  ·exact pl y hy
theorem pm {ts:List Nat} {zs:List AV} (h:Sh tiT.get (kj::ts) zs):∃ n ys,zs=I n::ys∧i64 n∧Sh tiT.get ts ys:=by
 obtain ⟨i,hi,hd,_⟩:=tb
 obtain ⟨n,ys,e,hw,hs⟩:=QP hi hd h
 refine ⟨n,ys,e,?_,hs⟩
 simp [Lit.wf,IntKind.min,IntKind.max,IntKind.signed,IntKind.bits] at hw
 unfold i64
 omega
theorem xV {ts:List Nat} {zs:List AV} (h:Sh tiT.get (fI::ts) zs):∃ s ys,zs=Sx s::ys∧s.data.size≤c6∧Sh tiT.get ts ys:=by
 obtain ⟨i,hi,hd,_⟩:=lN
 obtain ⟨s,ys,e,hw,hs⟩:=Do hi hd h
 exact ⟨s,ys,e,Nat.le_trans hw (by decide),hs⟩
theorem QK {ts:List Nat} {zs:List AV} (h:Sh tiT.get (uC::ts) zs):∃ b ys,zs=Bo b::ys∧Sh tiT.get ts ys:=by
 obtain ⟨i,hi,hd,_⟩:=Bx
 exact Mr hi hd h
theorem jM {t e sz:Nat} (hT:∃ i,tiT.get t=some i∧i.d=.slice e∧i.size=1) (hE:∃ i,tiT.get e=some i∧i.size=sz) {ts:List Nat} {zs:List AV} (h:Sh tiT.get (t::ts) zs) :
  ∃ rows ys,zs=.imm sz rows::ys∧(∀ row ∈ rows,Sh tiT.get [e] row)∧rows.length≤c6∧Sh tiT.get ts ys:=by
 obtain ⟨i,hi,hd,_⟩:=hT
 obtain ⟨j',hj',hs'⟩:=hE
 rcases EY hi hd h with ⟨ys,_,_⟩ | ⟨j,rows,ys,hj,e,hr,hl,hm,_,hs⟩
 ·cases h with
  | sl h' hd' he hc hl hm hb hs=>rw [hi] at h'; cases h'; rw [hd] at hd'; cases hd'; rw [hj'] at he; cases he; exact ⟨_,_,by rw [hs'],hc,hm,hs⟩
  | _=>simp_all
 ·rw [hj'] at hj
  cases hj
  rw [hs'] at e
  exact ⟨rows,ys,e,hr,hm,hs⟩
theorem gL {t:Nat} {fs:List (Nat × Nat)} {sz:Nat} (hT:∃ i,tiT.get t=some i∧i.d=.struct fs∧i.size=sz) {ts:List Nat} {zs:List AV} (h:Sh tiT.get (t::ts) zs):Sh tiT.get (fs.map (·.2)++ts) zs:=by
 obtain ⟨i,hi,hd,_⟩:=hT
 exact Ct hi hd h
theorem ny {t sz:Nat} {d:TD} (h:∃ i,tiT.get t=some i∧i.d=d∧i.size=sz):∃ i,tiT.get t=some i∧i.size=sz:=by
 obtain ⟨i,a,_,b⟩:=h
 exact ⟨i,a,b⟩
theorem Gj {ts:List Nat} {zs:List AV} (h:Sh tiT.get (fJ::ts) zs):∃ l ys,zs=cG l::ys∧tc c6 l∧Sh tiT.get ts ys:=by
 obtain ⟨rows,ys,e,hr,hm,hs⟩:=jM oo (ny lN) h
 obtain ⟨l,hl,hp⟩:=fx (f:=fun s=>[Sx s]) (P:=fun s=>s.data.size≤c6) fun row hrow=>by
  obtain ⟨s,ys,e,hw,hs⟩:=xV (hr row hrow)
  rw [jY hs] at e
  exact ⟨s,e,hw⟩
 exact ⟨l,ys,by rw [e,hl]; rfl,⟨by rw [hl] at hm; simpa using hm,hp⟩,hs⟩
theorem Na {ts:List Nat} {zs:List AV} (h:Sh tiT.get (ik::ts) zs):∃ (l:List At) (ys:List AV),zs=.imm 3 (l.map dS)::ys∧(l.length≤c6∧∀ x ∈ l,x.name.data.size≤c6∧i64 x.op∧x.text.data.size≤c6)∧Sh tiT.get ts ys:=by
 obtain ⟨rows,ys,e,hr,hm,hs⟩:=jM rO (ny o6) h
 obtain ⟨l,hl,hp⟩:=fx (f:=dS) (P:=fun x=>x.name.data.size≤c6∧i64 x.op∧x.text.data.size≤c6) fun row hrow=>by
  have h1:=gL o6 (hr row hrow)
  obtain ⟨a,y1,e1,w1,h2⟩:=xV h1
  obtain ⟨b,y2,e2,w2,h3⟩:=pm h2
  obtain ⟨c,y3,e3,w3,h4⟩:=xV h3
  rw [jY h4] at e3
  exact ⟨⟨a,b,c⟩,by rw [e1,e2,e3]; rfl,w1,w2,w3⟩
 exact ⟨l,ys,by rw [e,hl],⟨by rw [hl] at hm; simpa using hm,hp⟩,hs⟩
theorem Bm:∀ (n:Nat) {ts:List Nat} {zs:List AV},SizeOf.sizeOf zs≤n→Sh tiT.get (il::ts) zs→∃ (l:List Pt) (ys:List AV),zs=.imm 6 (l.map bo)::ys∧(l.length≤c6∧∀ p ∈ l,Pt.wf c6 p)∧Sh tiT.get ts ys
 | 0,ts,zs,hn,h=>by cases zs<;>simp at hn
 | n+1,ts,zs,hn,h=>by
  obtain ⟨rows,ys,e,hr,hm,hs⟩:=jM rR (ny pd) h
  obtain ⟨l,hl,hp⟩:=fx (f:=bo) (P:=fun p=>Pt.wf c6 p) fun row hrow=>by
   have hsz:SizeOf.sizeOf row<n:=by
    have h1:SizeOf.sizeOf row<SizeOf.sizeOf rows:=List.sizeOf_lt_of_mem hrow
    rw [e] at hn
    simp only [List.cons.sizeOf_spec,AV.imm.sizeOf_spec] at hn
    omega
   obtain ⟨k,y1,e1,w1,h1⟩:=pm (gL pd (hr row hrow))
   have h1:=gL pL h1
   obtain ⟨t,y2,e2,w2,h2⟩:=xV h1
   obtain ⟨i,y3,e3,w3,h3⟩:=Gj h2
   obtain ⟨c,y4,e4,w4,h4⟩:=Gj h3
   obtain ⟨a,y5,e5,w5,h5⟩:=Na h4
   obtain ⟨prows,y6,e6,hpr,hpm,h6⟩:=jM pz (ny nB) h5
   rw [jY h6] at e6
   subst e6 e5 e4 e3 e2 e1
   obtain ⟨ps,hps,hpp⟩:=fx (f:=bH) (P:=fun p=>Ps.wf c6 p) fun prow hprow=>by
    have hsz2:SizeOf.sizeOf prow<n:=by
     have h1:SizeOf.sizeOf prow<SizeOf.sizeOf prows:=List.sizeOf_lt_of_mem hprow
     simp only [List.cons.sizeOf_spec,AV.imm.sizeOf_spec] at hsz
     omega
    have g1:=gL nB (hpr prow hprow)
    obtain ⟨k,y1,e1,w1,g2⟩:=pm g1
    obtain ⟨a,y2,e2,w2,g3⟩:=pm g2
    obtain ⟨b,y3,e3,w3,g4⟩:=pm g3
    obtain ⟨srows,y4,e4,hsr,hsm,g5⟩:=jM jO (ny gv) g4
    rw [jY g5] at e4
    subst e4 e3 e2 e1
    obtain ⟨ss,hss,hsp⟩:=fx (f:=aH) (P:=lu c6) fun srow hsrow=>by
     have hsz3:SizeOf.sizeOf srow<n:=by
      have h1:SizeOf.sizeOf srow<SizeOf.sizeOf srows:=List.sizeOf_lt_of_mem hsrow
      simp only [List.cons.sizeOf_spec,AV.imm.sizeOf_spec] at hsz2
      omega
     obtain ⟨l,y1,e1,w1,q1⟩:=Bm n (by omega) (gL gv (hsr srow hsrow))
     rw [jY q1] at e1
     exact ⟨l,e1,w1.1,w1.2⟩
    refine ⟨.mk k a b ss,by rw [e_,hss]; rfl,?_⟩
    rw [Ps.wf_iff]
    exact ⟨w1,w2,w3,by rw [hss,List.length_map] at hsm; exact hsm,hsp⟩
   refine ⟨.mk k (.mk t i c a ps),by rw [dm,cd,hps]; rfl,?_⟩
   rw [Pt.wf_iff]
   exact ⟨w1,w2,w3,w4,w5.1,w5.2,by rw [hps,List.length_map] at hpm; exact hpm,hpp⟩
  exact ⟨l,ys,by rw [e,hl],⟨by rw [hl] at hm; simpa using hm,hp⟩,hs⟩
theorem SU {ts:List Nat} {zs:List AV} (h:Sh tiT.get (gN::ts) zs):∃ (s:Sl) (ys:List AV),zs=aH s++ys∧lu c6 s∧Sh tiT.get ts ys:=by
 obtain ⟨l,ys,e,w,hs⟩:=Bm _ (Nat.le_refl _) (gL gv h)
 exact ⟨l,ys,e,w,hs⟩
theorem QH {ts:List Nat} {zs:List AV} (h:Sh tiT.get (dV::ts) zs):∃ l ys,zs=sls l::ys∧kI c6 l∧Sh tiT.get ts ys:=by
 obtain ⟨rows,ys,e,hr,hm,hs⟩:=jM jO (ny gv) h
 obtain ⟨l,hl,hp⟩:=fx (f:=aH) (P:=lu c6) fun row hrow=>by
  obtain ⟨s,y,e,w,hs⟩:=SU (hr row hrow)
  rw [jY hs,List.append_nil] at e
  exact ⟨s,e,w⟩
 exact ⟨l,ys,by rw [e,hl]; rfl,⟨by rw [hl] at hm; simpa using hm,hp⟩,hs⟩
def S2:List Nat:=[kj,fI,uC,fJ,ik,nb,il,mW,je,iv,kr,dV,gN,dM,nr,ii,m8]
end Go.Proofs.YthdcghnjndhecaaGreat.Ev
namespace Go.Proofs.YthdcghnjndhecaaGreat.Ev
theorem DJ {t sz:Nat} {d:TD} (hT:∃ i,tiT.get t=some i∧i.d=d∧i.size=sz) (ha:d.agg=false) {x:AV} (h:ShV tiT.get t x):Sh tiT.get [t] [x]:=by
 obtain ⟨i,hi,hd,_⟩:=hT
 unfold ShV at h
 rw [hi] at h
 simp only [hd,ha] at h
 exact h
end Go.Proofs.YthdcghnjndhecaaGreat.Ev
namespace Go.Proofs.YthdcghnjndhecaaGreat.Ev
theorem wH {ts:List Nat} {zs:List AV} (h:Sh tiT.get (fI::ts) zs):∃ s ys,zs=Sx s::ys∧s.data.size≤reachBytes∧Sh tiT.get ts ys:=by
 obtain ⟨i,hi,hd,_⟩:=lN
 obtain ⟨s,ys,e,hw,hs⟩:=Do hi hd h
 exact ⟨s,ys,e,hw,hs⟩
theorem xC {t e sz B:Nat} (hT:∃ i,tiT.get t=some i∧i.d=.slice e∧i.size=1) (hE:∃ i,tiT.get e=some i∧i.size=sz) (hB:(tiT.get e).map (·.bytes)=some B) {ts:List Nat} {zs:List AV} (h:Sh tiT.get (t::ts) zs) :
  ∃ rows ys,zs=.imm sz rows::ys∧(∀ row ∈ rows,Sh tiT.get [e] row)∧rows.length*B≤reachBytes∧Sh tiT.get ts ys:=by
 obtain ⟨i,hi,hd,_⟩:=hT
 obtain ⟨j',hj',hs'⟩:=hE
 rw [hj'] at hB
 simp only [Option.map_some,Option.some.injEq] at hB
 cases h with
 | sl h' hd' he hc hl hm hb hs=>rw [hi] at h'; cases h'; rw [hd] at hd'; cases hd'; rw [hj'] at he; cases he; exact ⟨_,_,by rw [hs'],hc,by rw [← hB]; exact hb,hs⟩
 | _=>simp_all
theorem NW {ts:List Nat} {zs:List AV} (h:Sh tiT.get (fJ::ts) zs):∃ l ys,zs=cG l::ys∧l.length*16≤reachBytes∧Sh tiT.get ts ys:=by
 obtain ⟨rows,ys,e,hr,hm,hs⟩:=xC oo (ny lN) (B:=16) (by kernel_rfl) h
 obtain ⟨l,hl,hp⟩:=fx (f:=fun s=>[Sx s]) (P:=fun s=>True) fun row hrow=>by
  obtain ⟨s,ys,e,hw,hs⟩:=xV (hr row hrow)
  rw [jY hs] at e
  exact ⟨s,e,trivial⟩
 exact ⟨l,ys,by rw [e,hl]; rfl,by rw [hl] at hm; simpa using hm,hs⟩
theorem LU {ts:List Nat} {zs:List AV} (h:Sh tiT.get (ii::ts) zs):∃ (l:List (ByteArray × ByteArray)) (ys:List AV),zs=.imm 2 (l.map cF)::ys∧(l.length*32≤reachBytes∧∀ x ∈ l,x.1.data.size≤reachBytes)∧Sh tiT.get ts ys:=by
 obtain ⟨rows,ys,e,hr,hm,hs⟩:=xC rG (ny o8) (B:=32) (by kernel_rfl) h
 obtain ⟨l,hl,hp⟩:=fx (f:=cF) (P:=fun x=>x.1.data.size≤reachBytes) fun row hrow=>by
  obtain ⟨a,y1,e1,w1,h2⟩:=wH (gL o8 (hr row hrow))
  obtain ⟨b,y2,e2,w2,h3⟩:=wH h2
  rw [jY h3] at e2
  exact ⟨⟨a,b⟩,by rw [e1,e2]; rfl,w1⟩
 exact ⟨l,ys,by rw [e,hl],⟨by rw [hl] at hm; simpa using hm,hp⟩,hs⟩
theorem Nt {ts:List Nat} {zs:List AV} (h:Sh tiT.get (dM::ts) zs):∃ (l:List Nd) (ys:List AV),zs=nds l::ys∧(∀ x ∈ l,lX x)∧l.length≤c6∧Sh tiT.get ts ys:=by
 obtain ⟨rows,ys,e,hr,hm,hs⟩:=jM mr (ny o_) h
 obtain ⟨l,hl,hp⟩:=fx (f:=aY) (P:=lX) fun row hrow=>by
  obtain ⟨p,y1,e1,w1,h2⟩:=pm (gL o_ (hr row hrow))
  obtain ⟨t,y2,e2,w2,h3⟩:=wH h2
  obtain ⟨i,y3,e3,w3,h4⟩:=wH h3
  obtain ⟨c,y4,e4,w4,h5⟩:=NW h4
  obtain ⟨a,y5,e5,w5,h6⟩:=LU h5
  rw [jY h6] at e5
  exact ⟨⟨p,t,i,c,a⟩,by rw [e1,e2,e3,e4,e5]; rfl,w1,w2,w4,w5.1,w5.2⟩
 exact ⟨l,ys,by rw [e,hl]; rfl,hp,by rw [hl] at hm; simpa using hm,hs⟩
theorem OA {x:AV} (h:ShV tiT.get dM x):∃ l,x=nds l∧(∀ n ∈ l,lX n)∧l.length≤c6:=by
 obtain ⟨l,ys,e,w,hl,hn⟩:=Nt (DJ mr rfl h)
 cases e
 exact ⟨l,rfl,w,hl⟩
end Go.Proofs.YthdcghnjndhecaaGreat.Ev
namespace Go.Proofs.YthdcghnjndhecaaGreat.Ev
set_option linter.unusedVariables false
set_option linter.unusedSimpArgs false
theorem uB {α:Type} {f:α→List AV} {g:α→Nat}:∀ {l:List α},(∀ x ∈ l,g x≤bkL (f x))→(l.map g).sum≤eE (l.map f)
 | [],_=>by simp [eE]
 | x::r,h=>by
  have h1:=h x (by simp)
  have h2:=uB (f:=f) (g:=g) (l:=r) fun y hy=>h y (by simp [hy])
  simp only [List.map_cons,List.sum_cons,eE]
  omega
theorem oA {α:Type} {f:α→List AV} {l:List α} (h:∀ x ∈ l,1≤bkL (f x)):l.length≤eE (l.map f):=by
 have h1:=uB (f:=f) (g:=fun _=>1) (l:=l) h
 have h2:∀ l:List α,(l.map fun _=>1).sum=l.length:=by
  intro l
  induction l with
  | nil=>rfl
  | cons a r ih=>simp only [List.map_cons,List.sum_cons,List.length_cons,ih]; omega
 rw [h2] at h1
 exact h1
theorem pE {α:Type} {f:α→List AV} {l:List α} {x:α} (h:x ∈ l):bkL (f x)≤eE (l.map f):=wQ (List.mem_map_of_mem h)
theorem Ns (s:ByteArray):bk (Sx s)=s.data.size+1:=by simp [bk]
theorem Ry (n:Int):bk (I n)=1:=by simp [bk]
theorem rc (sz:Nat) (rows:List (List AV)):bk (.imm sz rows)=eE rows+1:=by simp [bk]
theorem OI (l:List ByteArray):bk (cG l)=eE (l.map fun s=>[Sx s])+1:=by unfold cG; rw [rc]
theorem Pd (c:Cp):bkL (bU c)=(c.tag.data.size+1)+((eE (c.ids.map fun s=>[Sx s])+1)+((eE (c.classes.map fun s=>[Sx s])+1)+((eE (c.attrs.map dS)+1)+(eE (c.pseudos.map bH)+1)))):=by
 rw [cd]
 simp only [bkL,Ns,OI,rc,Nat.add_zero]
theorem AL (p:Pt):bkL (bo p)=1+bkL (bU p.c):=by rw [dm]; simp only [bkL,Ry]
theorem I3 (q:Ps):bkL (bH q)=1+(1+(1+(eE (q.list.map aH)+1))):=by rw [e_]; simp only [bkL,Ry,rc,Nat.add_zero]
theorem wU (s:Sl):bkL (aH s)=eE (s.map bo)+1:=by unfold aH; simp only [bkL,rc,Nat.add_zero]
theorem O4 (a:At):bkL (dS a)=(a.name.data.size+1)+(1+(a.text.data.size+1)):=by unfold dS; simp only [bkL,Ns,Ry,Nat.add_zero]
structure PtB (f:Nat) (p:Pt):Prop where
 c:vM p.c
 ps:p.c.pseudos.length≤NB
 q:∀ q ∈ p.c.pseudos,(i64 q.a∧i64 q.b)∧lM f q.list
 tx:∀ a ∈ p.c.attrs,a.text.data.size<4294967281
 tq:∀ q ∈ p.c.pseudos,TxL f q.list
 cnt:(p.c.pseudos.map fun q=>h_ f q.list).sum+6≤bkL (bo p)
theorem Mf {f:Nat} (ih:∀ l,kI c6 l→o0 f l→eE (l.map aH)≤NB→lM f l∧TxL f l∧h_ f l≤eE (l.map aH)) {p:Pt} (hw:BE c6 p.c) (hf:Mi f p) (hb:bkL (bU p.c)≤NB):PtB f p:=by
 have hN:NB=1048576:=rfl
 have r:reachBytes=140737488351232:=rfl
 rw [Pd,hN] at hb
 have l1:p.c.ids.length≤eE (p.c.ids.map fun s=>[Sx s]):=oA fun s _=>by simp only [bkL,Ns]; omega
 have l2:p.c.classes.length≤eE (p.c.classes.map fun s=>[Sx s]):=oA fun s _=>by simp only [bkL,Ns]; omega
 have l3:p.c.attrs.length≤eE (p.c.attrs.map dS):=oA fun s _=>by rw [O4]; omega
 have l4:p.c.pseudos.length≤eE (p.c.pseudos.map bH):=oA fun s _=>by rw [I3]; omega
 have ht:∀ a ∈ p.c.attrs,a.text.data.size≤1048576:=fun a ha=>by
  have h1:=pE (f:=dS) ha
  rw [O4] at h1
  omega
 have hq:∀ q ∈ p.c.pseudos,lM f q.list∧TxL f q.list∧h_ f q.list≤eE (q.list.map aH):=fun q hq=>by
  have h1:=pE (f:=bH) hq
  rw [I3] at h1
  exact ih q.list (Ps.wf_iff.1 (hw.ps q hq)).2.2.2 (hf.2 q hq) (by rw [hN]; omega)
 refine ⟨⟨by omega,by omega,by omega,fun a ha=>⟨by have:=ht a ha; omega⟩,by omega⟩,by omega,fun q h=>⟨⟨(Ps.wf_iff.1 (hw.ps q h)).2.1,(Ps.wf_iff.1 (hw.ps q h)).2.2.1⟩,(hq q h).1⟩,fun a ha=>by have:=ht a ha; omega,fun q h=>(hq q h).2.1,?_⟩
 have h5:(p.c.pseudos.map fun q=>h_ f q.list).sum≤eE (p.c.pseudos.map bH):=uB fun q h=>by
  have:=(hq q h).2.2
  rw [I3]; omega
 rw [AL,Pd]
 omega
theorem xB:∀ (f:Nat) (l:List Sl),kI c6 l→o0 f l→eE (l.map aH)≤NB→lM f l∧TxL f l∧h_ f l≤eE (l.map aH)
 | 0,l,_,h,_=>h.elim
 | f+1,l,hw,hf,hb=>by
  have hN:NB=1048576:=rfl
  have hl:l.length≤eE (l.map aH):=oA fun s _=>by rw [wU]; omega
  have hs:∀ s ∈ l,s.length≤NB∧∀ p ∈ s,PtB f p:=fun s h=>by
   have h1:=pE (f:=aH) h
   rw [wU] at h1
   have h2:s.length≤eE (s.map bo):=oA fun p _=>by rw [AL]; omega
   refine ⟨by omega,fun p hp=>?_⟩
   have h3:=pE (f:=bo) hp
   rw [AL] at h3
   exact Mf (xB f) (Pt.wf_iff.1 ((hw.2 s h).2 p hp)).2 ((hf s h).2 p hp) (by omega)
  refine ⟨⟨by omega,fun s h=>⟨(hs s h).1,fun p hp=>⟨((hs s h).2 p hp).c,((hs s h).2 p hp).ps,((hs s h).2 p hp).q⟩⟩⟩,fun s h p hp=>⟨((hs s h).2 p hp).tx,((hs s h).2 p hp).tq⟩,?_⟩
  rw [h_]
  refine uB fun s h=>?_
  rw [wU]
  have:(s.map fun p=>(p.c.pseudos.map fun q=>h_ f q.list).sum).sum≤eE (s.map bo):=uB fun p hp=>by
   have:=((hs s h).2 p hp).cnt
   omega
  omega
theorem xP {l:List Sl} (hw:kI c6 l) (hf:o0 11 l) (hb:eE (l.map aH)≤NB):vk 11 l∧TxL 11 l:=by
 obtain ⟨h1,h2,h3⟩:=xB 11 l hw hf hb
 exact ⟨⟨hw,h1,hf.nest,by decide,by omega⟩,h2⟩
end Go.Proofs.YthdcghnjndhecaaGreat.Ev
namespace Go.Proofs.YthdcghnjndhecaaGreat.Ev
set_option linter.unusedVariables false
set_option linter.unusedSimpArgs false
variable {σ:Sig}
structure SX (r:RL):Prop where
 sels:kI c6 r.sels
 setsL:r.sets.length≤c6
 sets:∀ s ∈ r.sets,i64 s.prop∧i64 s.kind∧i64 s.n
def ve (l:List RL):Prop:=l.length≤c6∧∀ r ∈ l,SX r
theorem Qv {ts:List Nat} {zs:List AV} (h:Sh tiT.get (ji::ts) zs):∃ (l:List ST) (ys:List AV),zs=.imm 4 (l.map dk)::ys∧(l.length≤c6∧∀ s ∈ l,i64 s.prop∧i64 s.kind∧i64 s.n)∧Sh tiT.get ts ys:=by
 obtain ⟨rows,ys,e,hr,hm,hs⟩:=jM sG (ny qf) h
 obtain ⟨l,hl,hp⟩:=fx (f:=dk) (P:=fun s=>i64 s.prop∧i64 s.kind∧i64 s.n) fun row hrow=>by
  obtain ⟨p,y1,e1,w1,h2⟩:=pm (gL qf (hr row hrow))
  obtain ⟨k,y2,e2,w2,h3⟩:=pm (gL uD h2)
  obtain ⟨n,y3,e3,w3,h4⟩:=pm h3
  obtain ⟨b,y4,e4,h5⟩:=QK h4
  rw [jY h5] at e4
  exact ⟨⟨p,k,n,b⟩,by rw [e1,e2,e3,e4]; rfl,w1,w2,w3⟩
 exact ⟨l,ys,by rw [e,hl],⟨by rw [hl] at hm; simpa using hm,hp⟩,hs⟩
theorem MX {ts:List Nat} {zs:List AV} (h:Sh tiT.get (dO::ts) zs):∃ (l:List RL) (ys:List AV),zs=rls l::ys∧ve l∧Sh tiT.get ts ys:=by
 obtain ⟨rows,ys,e,hr,hm,hs⟩:=jM mJ (ny pe) h
 obtain ⟨l,hl,hp⟩:=fx (f:=d8) (P:=SX) fun row hrow=>by
  obtain ⟨s,y1,e1,w1,h2⟩:=QH (gL pe (hr row hrow))
  obtain ⟨t,y2,e2,w2,h3⟩:=Qv h2
  rw [jY h3] at e2
  exact ⟨⟨s,t⟩,by rw [e1,e2]; rfl,w1,w2.1,w2.2⟩
 exact ⟨l,ys,by rw [e,hl]; rfl,⟨by rw [hl] at hm; simpa using hm,hp⟩,hs⟩
def SS:List Nat:=S2++[dO,nn,ji,oU,lP]
theorem Oc {x:AV} (h:ShV tiT.get dO x):∃ l,x=rls l∧ve l:=by
 obtain ⟨l,ys,e,w,hn⟩:=MX (DJ mJ rfl h)
 cases e
 exact ⟨l,rfl,w⟩
theorem SQ (r:RL):bkL (d8 r)=(eE (r.sels.map aH)+1)+(eE (r.sets.map dk)+1):=by
 unfold d8 sls
 simp only [bkL,rc,Nat.add_zero]
theorem Qj (l:List RL):bk (rls l)=eE (l.map d8)+1:=by unfold rls; rw [rc]
def kx (l:List RL):List Sl:=l.flatMap (·.sels)
structure sw (l:List RL):Prop where
 len:l.length≤30
 sels:∀ r ∈ l,r.sels.length≤8
 sets:∀ r ∈ l,r.sets.length≤30
 fit:∀ r ∈ l,∀ s ∈ r.sels,o0 11 [s]
section
theorem yn {K:AV→Hp→Prop} {y0 y3 y3' y4 y5 y6:AV} {H:Hp} (hf:Fz H y3 y3') (h:bS.L1 σ K y0 y3' y4 y5 y6 (Hp.bare H.n)):bS.L1 σ K y0 y3 y4 y5 y6 H :=
 fun js=>aN.drop (.same (.same (.same (.fz hf (SC _))))) (h js)
end
theorem Aq {l:List RL} (h:∀ r ∈ l,r.sels.length≤8):(kx l).length≤8*l.length:=by
 induction l with
 | nil=>simp [kx]
 | cons r l ih =>
  have h1:=h r (by simp)
  have h2:=ih fun r hr=>h r (by simp [hr])
  unfold kx at h2 ⊢
  rw [List.flatMap_cons,List.length_append,List.length_cons]
  omega
section
attribute [local irreducible] bS.L0 bS.L1
theorem BF (l:List RL) (hl:ve l):∃ b,(∀ H,au Tryz.prog σ g_ [rls l] H (Bo b) H)∧(b=false→sw l):=by
 have run:∃ r H1,au Tryz.prog σ g_ [rls l] Hp.empty r H1∧∃ b,r=Bo b∧(b=false→sw l):=by
  obtain ⟨K,hKd⟩:∃ K:AV→Hp→Prop,∀ r H1,K r H1 ↔ ∃ b,r=Bo b∧(b=false→sw l):=⟨_,fun _ _=>Iff.rfl⟩
  have kt:∀ H,K (Bo true) H:=fun H=>(hKd _ _).2 ⟨true,rfl,fun h=>by cases h⟩
  suffices h:∃ r H1,au Tryz.prog σ g_ [rls l] Hp.empty r H1∧K r H1 by
   obtain ⟨r,H1,a,b⟩:=h
   exact ⟨r,H1,a,(hKd _ _).1 b⟩
  refine bS.run ?_
  simp only [lU,aa,eI,ai,decide_eq_true_eq]
  split
  ·exact kt _
  rename_i h30
  have L1:∀ (all:List Sl),all=kx l→(∀ r ∈ l,r.sels.length≤8)→(∀ r ∈ l,r.sets.length≤30)→∀ (f j:Nat) (H:Hp) (n:Int) (y4:AV),all.length - j=f→j≤all.length→(∀ s ∈ all.take j,o0 11 [s])→bS.L1 σ K (rls l) (sls all) y4 (I n) (I (j:Int)) H:=by
   intro all hall h8 hst f
   have hal:all.length≤240:=by
    have:=Aq h8
    rw [hall]; omega
   have hawf:∀ s ∈ all,lu c6 s:=by
    intro s hs
    rw [hall] at hs
    obtain ⟨r,hr,hs⟩:=List.mem_flatMap.1 hs
    exact (hl.2 r hr).sels.2 s hs
   induction f with
   | zero =>
    intro j H n y4 hf hj hfit
    have:j=all.length:=by omega
    subst this
    rw [List.take_length] at hfit
    refine bS.L1_step ?_
    simp only [kv,aa,a_,Int.lt_irrefl,decide_false,ai,Bool.false_eq_true,if_false,eI]
    rw [hKd]
    refine ⟨_,rfl,fun _=>⟨by omega,h8,hst,fun r hr s hs=>hfit s ?_⟩⟩
    rw [hall]
    exact List.mem_flatMap.2 ⟨r,hr,hs⟩
   | succ f ih =>
    intro j H n y4 hf hj hfit
    have hlt:j<all.length:=by omega
    have hlt':(j:Int)<all.length:=by omega
    obtain ⟨s,hs⟩:=bp hlt
    have hsm:=List.mem_of_getElem? hs
    obtain ⟨b,hd,hf1⟩:=Or (σ:=σ) [s] ⟨by show 1≤c6; decide,fun s' h=>by rw [List.mem_singleton.1 h]; exact hawf s hsm⟩
    refine bS.L1_step ?_
    have hix:az 1 (sls all) (I (j:Int))=some (.ip (aH s)):=bm hs
    have hw:wr .i64 ((j:Int)+1)=((j+1:Nat):Int):=bq (by omega)
    simp only [kv,aa,a_,hlt',decide_true,ai,if_true,bF,hw,HG hs]
    refine ak (hd _) ?_
    simp only [ai]
    cases hb:b with
    | true=>simp only [if_true]; exact kt _
    | false =>
     simp only [Bool.false_eq_true,if_false,hix,aa,iJ,List.drop_zero,dX,my,bW,List.length_map,bF]
     refine ih (j+1) H _ y4 (by omega) (by omega) fun s' hs'=>?_
     rw [List.take_add_one,hs] at hs'
     rcases List.mem_append.1 hs' with h | h
     ·exact hfit s' h
     ·simp at h; subst h; exact hf1 hb
  have L0:∀ (f m:Nat) (H:Hp) (y3 y5 y6:AV),l.length - m=f→m≤l.length→(∀ r ∈ l.take m,r.sels.length≤8)→(∀ r ∈ l.take m,r.sets.length≤30)→Gs 1 H y3 ((kx (l.take m)).map aH)→bS.L0 σ K (rls l) y3 (I (m:Int)) y5 y6 H:=by
   intro f
   induction f with
   | zero =>
    intro m H y3 y5 y6 hf hm h8 hst hg
    have:m=l.length:=by omega
    subst this
    rw [List.take_length] at h8 hst hg
    refine bS.L0_step ?_
    simp only [lU,aa,a_,Int.lt_irrefl,decide_false,ai,Bool.false_eq_true,if_false]
    exact yn (hg.fz (bC _ gP _)) (L1 _ rfl h8 hst _ 0 _ 0 _ rfl (Nat.zero_le _) (fun s h=>by simp at h))
   | succ f ih =>
    intro m H y3 y5 y6 hf hm h8 hst hg
    have hlt:m<l.length:=by omega
    have hlt':(m:Int)<l.length:=by omega
    obtain ⟨r,hr⟩:=bp hlt
    have hix:az 2 (rls l) (I (m:Int))=some (.ip (d8 r)):=bm hr
    have e1:ldA false 1 H (.ip (d8 r))=some (sls r.sels):=rfl
    have e2:ldA false 1 H (.ip ((d8 r).drop 1))=some (.imm 4 (r.sets.map dk)):=rfl
    refine bS.L0_step ?_
    simp only [lU,aa,a_,hlt',decide_true,ai,if_true,hix,iJ,List.drop_zero,e1,e2,kv,bW,List.length_map,eI,decide_eq_true_eq]
    split
    ·exact kt _
    split
    ·exact kt _
    rename_i q1 q2
    have hal:=Aq h8
    rw [List.length_take] at hal
    have hone:((r.sels.map aH).flatten).all AV.one=true:=by
     rw [List.all_eq_true]; intro x hx
     obtain ⟨q,hq,hx⟩:=List.mem_flatten.1 hx
     obtain ⟨s,_,rfl⟩:=List.mem_map.1 hq
     exact List.all_eq_true.1 (PW s) x hx
    refine v7 (y:=.imm 1 (r.sels.map aH)) hg rfl vY (fun q hq=>by obtain ⟨s,_,rfl⟩:=List.mem_map.1 hq; rfl) hone (by simp only [List.length_map]; omega) (by simp only [List.length_map]; omega) fun x' H' g' _=>?_
    rw [bF,aa,bq (by omega)]
    have htk:l.take (m+1)=l.take m++[r]:=by rw [List.take_add_one,hr]; rfl
    refine ih (m+1) H' x' _ _ (by omega) (by omega) ?_ ?_ ?_
    ·intro q hq
     rw [htk] at hq
     rcases List.mem_append.1 hq with h | h
     ·exact h8 q h
     ·simp at h; subst h; omega
    ·intro q hq
     rw [htk] at hq
     rcases List.mem_append.1 hq with h | h
     ·exact hst q h
     ·simp at h; subst h; omega
    ·rw [htk]
     have:kx (l.take m++[r])=kx (l.take m)++r.sels:=by unfold kx; simp
     rw [this,List.map_append]
     exact g'
  exact L0 _ 0 _ _ _ _ rfl (Nat.zero_le _) (fun r h=>by simp at h) (fun r h=>by simp at h) (by simpa [kx] using Gs.nil)
 obtain ⟨r,H1,hg,b,rfl,hb⟩:=run
 exact ⟨b,fun H=>hg.over (by simp [aK]) rfl H,hb⟩
end
theorem xN {l:List RL} (hl:ve l) (hf:sw l) (hb:eE (l.map d8)≤NB):∀ r ∈ l,∀ s ∈ r.sels,lu c6 s∧s.length≤1048576∧vk 11 [s]∧TxL 11 [s]:=by
 intro r hr s hs
 have hN:NB=1048576:=rfl
 have h1:=pE (f:=d8) hr
 rw [SQ] at h1
 have h2:=pE (f:=aH) hs
 have hw:=(hl.2 r hr).sels.2 s hs
 have h3:s.length≤eE (s.map bo):=oA fun p _=>by rw [AL]; omega
 have h4:=h2
 rw [wU] at h4
 refine ⟨hw,by omega,xP ⟨by show 1≤c6; decide,fun s' h=>by rw [List.mem_singleton.1 h]; exact hw⟩ (hf.fit r hr s hs) ?_⟩
 simp only [List.map_cons,List.map_nil,eE]
 omega
end Go.Proofs.YthdcghnjndhecaaGreat.Ev
namespace Go.Proofs.YthdcghnjndhecaaGreat.Ev
set_option linter.unusedVariables false
set_option linter.unusedSimpArgs false
variable {σ:Sig}
def qk (s:ByteArray):Bool:=decide (60<(s.data.size:Int))
def uM (p:ByteArray × ByteArray):Bool:=qk p.1||decide (100<(p.2.data.size:Int))
def Hk (n:Nd):Bool:=decide (8<(n.classes.length:Int))||(decide (8<(n.attrs.length:Int))||(qk n.tag||(qk n.id||(n.classes.any qk||n.attrs.any uM))))
def BW (L:List Nd):Bool:=if 40<L.length then (if L.length≤4096 then true else decide (4100<L.length)) else decide (4100<L.length)
def pW (L:List Nd) (m:Nat):Bool:=((L.drop m).take (100 - m)).any Hk||BW L
structure uK (n:Nd):Prop where
 classes:n.classes.length≤8
 attrs:n.attrs.length≤8
 tag:n.tag.data.size≤60
 id:n.id.data.size≤60
 cl:∀ s ∈ n.classes,s.data.size≤60
 at':∀ p ∈ n.attrs,p.1.data.size≤60∧p.2.data.size≤100
theorem uK.of {n:Nd} (h:Hk n=false):uK n:=by
 unfold Hk uM qk at h
 simp only [Bool.or_eq_false_iff,decide_eq_false_iff_not,List.any_eq_false,Bool.or_eq_true,decide_eq_true_eq,not_or] at h
 obtain ⟨h1,h2,h3,h4,h5,h6⟩:=h
 exact ⟨by omega,by omega,by omega,by omega,fun s hs=>by have:=h5 s hs; omega,fun p hp=>by have:=h6 p hp; omega⟩
theorem Cv {L:List Nd} {m:Nat} {n:Nd} (h:L[m]?=some n) (hm:m<100):pW L m=(Hk n||pW L (m+1)):=by
 unfold pW
 obtain ⟨j,hj⟩:∃ j,100 - m=j+1:=⟨99 - m,by omega⟩
 rw [bK h,hj,List.take_succ_cons,List.any_cons,Bool.or_assoc,show 100 - (m+1)=j by omega]
section
attribute [local irreducible] bc.L0 bc.L1 bc.L2
theorem P5 {L:List Nd} {m:Nat} {n:Nd} (hn:L[m]?=some n) (hm:m<100) {K:AV→Hp→Prop} {y4:AV} (hl:n.attrs.length≤8)
  (h0:∀ H y4 y5,(∀ H,K (Bo (pW L (m+1))) H)→bc.L0 σ K (nds L) (I ((m+1:Nat):Int)) y4 y5 H):∀ (f k:Nat) (H:Hp),n.attrs.length - k=f→k≤n.attrs.length→(∀ H,K (Bo ((n.attrs.drop k).any uM||pW L (m+1))) H) →
  bc.L2 σ K (nds L) (I (m:Int)) y4 (I (k:Int)) H:=by
 have hix:az 5 (nds L) (I (m:Int))=some (.ip (aY n)):=bm hn
 intro f
 induction f with
 | zero =>
  intro k H hf hk hK
  have:k=n.attrs.length:=by omega
  subst this
  refine bc.L2_step ?_
  have hw:wr .i64 ((m:Int)+1)=((m+1:Nat):Int):=bq (by omega)
  simp only [hix,aa,iJ,dX,tn,bW,List.length_map,a_,Int.lt_irrefl,decide_false,ai,Bool.false_eq_true,if_false,bF,hw]
  refine h0 _ _ _ ?_
  simpa using hK
 | succ f ih =>
  intro k H hf hk hK
  have hlt:k<n.attrs.length:=by omega
  obtain ⟨p,hp⟩:=bp hlt
  rw [bK hp,List.any_cons] at hK
  have hlt':(k:Int)<n.attrs.length:=by omega
  have hixp:az 2 (.imm 2 (n.attrs.map cF)) (I (k:Int))=some (.ip (cF p)):=bm hp
  have hw:wr .i64 ((k:Int)+1)=((k+1:Nat):Int):=bq (by omega)
  refine bc.L2_step ?_
  simp only [hix,aa,iJ,dX,tn,bW,List.length_map,a_,hlt',decide_true,ai,if_true,hixp,List.drop_zero,FC,Cc,fN,eI,decide_eq_true_eq,bF,hw]
  split
  ·rename_i h
   have:uM p=true:=by unfold uM qk; rw [decide_eq_true h,Bool.true_or]
   rw [this] at hK
   simpa using hK H
  rename_i h1
  split
  ·rename_i h
   have:uM p=true:=by unfold uM; rw [decide_eq_true h,Bool.or_true]
   rw [this] at hK
   simpa using hK H
  ·rename_i h
   have:uM p=false:=by unfold uM qk; rw [decide_eq_false h,decide_eq_false h1]; rfl
   rw [this] at hK
   exact ih (k+1) H (by omega) (by omega) (by simpa using hK)
theorem Qp {L:List Nd} {m:Nat} {n:Nd} (hn:L[m]?=some n) (hm:m<100) {K:AV→Hp→Prop} {y5:AV} (hl:n.attrs.length≤8) (hl2:n.classes.length≤8)
  (h0:∀ H y4 y5,(∀ H,K (Bo (pW L (m+1))) H)→bc.L0 σ K (nds L) (I ((m+1:Nat):Int)) y4 y5 H):∀ (f k:Nat) (H:Hp),n.classes.length - k=f→k≤n.classes.length→(∀ H,K (Bo ((n.classes.drop k).any qk||(n.attrs.any uM||pW L (m+1)))) H) →
  bc.L1 σ K (nds L) (I (m:Int)) (I (k:Int)) y5 H:=by
 have hix:az 5 (nds L) (I (m:Int))=some (.ip (aY n)):=bm hn
 intro f
 induction f with
 | zero =>
  intro k H hf hk hK
  have:k=n.classes.length:=by omega
  subst this
  refine bc.L1_step ?_
  simp only [hix,aa,iJ,dX,ur,kG,a_,Int.lt_irrefl,decide_false,ai,Bool.false_eq_true,if_false]
  exact P5 hn hm hl h0 _ 0 H rfl (Nat.zero_le _) (by simpa using hK)
 | succ f ih =>
  intro k H hf hk hK
  have hlt:k<n.classes.length:=by omega
  obtain ⟨p,hp⟩:=bp hlt
  rw [bK hp,List.any_cons] at hK
  have hlt':(k:Int)<n.classes.length:=by omega
  have hixp:az 1 (cG n.classes) (I (k:Int))=some (.ip [Sx p]):=bm hp
  have lx:∀ H,ldA false 1 H (.ip [Sx p])=some (Sx p):=fun _=>rfl
  have hw:wr .i64 ((k:Int)+1)=((k+1:Nat):Int):=bq (by omega)
  refine bc.L1_step ?_
  simp only [hix,aa,iJ,dX,ur,kG,a_,hlt',decide_true,ai,if_true,hixp,jL,fN,eI,decide_eq_true_eq,bF,hw]
  split
  ·rename_i h
   have:qk p=true:=decide_eq_true h
   rw [this] at hK
   simpa using hK H
  ·rename_i h
   have:qk p=false:=decide_eq_false h
   rw [this] at hK
   exact ih (k+1) H (by omega) (by omega) (by simpa using hK)
theorem wu {L:List Nd} {K:AV→Hp→Prop} {H:Hp} (hK:∀ H,K (Bo (BW L)) H):bnd (aG (nds L)) fun x24=>bnd (ah .gtr x24 (I 40)) fun x25=>ifB x25 (bnd (aG (nds L)) fun x26=>bnd (ah .leq x26 (I 4096)) fun x27=>ifB x27 (K (Bo true) H) (bnd (aG (nds L)) fun x28=>bnd (ah .gtr x28 (I 4100)) fun x29=>K x29 H)) (bnd (aG (nds L)) fun x30=>bnd (ah .gtr x30 (I 4100)) fun x31=>K x31 H):=by
 simp only [jG,aa,eI,qo,ai,decide_eq_true_eq]
 have e:decide ((4100:Int)<(L.length:Int))=decide (4100<L.length):=by rw [decide_eq_decide]; omega
 rw [e]
 unfold BW at hK
 by_cases h1:40<L.length
 ·have h1':(40:Int)<(L.length:Int):=by omega
  rw [if_pos h1] at hK
  rw [if_pos h1']
  by_cases h2:L.length≤4096
  ·have h2':(L.length:Int)≤4096:=by omega
   rw [if_pos h2] at hK
   rw [if_pos h2']
   exact hK H
  ·have h2':¬ (L.length:Int)≤4096:=by omega
   rw [if_neg h2] at hK
   rw [if_neg h2']
   exact hK H
 ·have h1':¬ (40:Int)<(L.length:Int):=by omega
  rw [if_neg h1] at hK
  rw [if_neg h1']
  exact hK H
theorem zD (L:List Nd) (H:Hp):au Tryz.prog σ nf [nds L] H (Bo (pW L 0)) H:=by
 refine bg (fun K hK=>bc.run ?_) (by simp [aK,bt]) rfl H
 have L0:∀ (f m:Nat) (H:Hp) (y4 y5:AV),100 - m=f→m≤L.length→m≤100→(∀ H,K (Bo (pW L m)) H)→bc.L0 σ K (nds L) (I (m:Int)) y4 y5 H:=by
  intro f
  induction f with
  | zero =>
   intro m H y4 y5 hf hm hm2 hK
   obtain rfl:m=100:=by omega
   have hK:∀ H,K (Bo (BW L)) H:=by simpa [pW] using hK
   refine bc.L0_step ?_
   have e0:¬ (((100:Nat):Int)<100):=by decide
   by_cases h:((100:Nat):Int)<L.length
   ·simp only [jG,aa,a_,h,decide_true,ai,if_true,e0,decide_false,Bool.false_eq_true,if_false]
    have hE:=wu (H:=H) hK
    simp only [jG,aa,eI,qo] at hE ⊢
    exact hE
   ·simp only [jG,aa,a_,h,decide_false,ai,Bool.false_eq_true,if_false]
    have hE:=wu (H:=H) hK
    simp only [jG,aa,eI,qo] at hE ⊢
    exact hE
  | succ f ih =>
   intro m H y4 y5 hf hm hm2 hK
   refine bc.L0_step ?_
   have e0:((m:Nat):Int)<100:=by omega
   by_cases h:m<L.length
   ·have h':(m:Int)<L.length:=by omega
    obtain ⟨n,hn⟩:=bp h
    rw [Cv hn (by omega)] at hK
    have hix:az 5 (nds L) (I (m:Int))=some (.ip (aY n)):=bm hn
    simp only [jG,aa,a_,h',decide_true,ai,if_true,e0,hix,iJ,dX,ur,tn,B9,Dx,kG,bW,List.length_map,fN,eI,decide_eq_true_eq]
    unfold Hk at hK
    split
    ·rename_i h1; simp only [h1,decide_true,Bool.true_or] at hK; exact hK H
    rename_i h1
    split
    ·rename_i h2; simp only [h2,decide_true,Bool.true_or,Bool.or_true] at hK; exact hK H
    rename_i h2
    split
    ·rename_i h3
     have:qk n.tag=true:=decide_eq_true h3
     simp only [this,Bool.true_or,Bool.or_true] at hK; exact hK H
    rename_i h3
    split
    ·rename_i h4
     have:qk n.id=true:=decide_eq_true h4
     simp only [this,Bool.true_or,Bool.or_true] at hK; exact hK H
    rename_i h4
    have t3:qk n.tag=false:=decide_eq_false h3
    have t4:qk n.id=false:=decide_eq_false h4
    simp only [h1,h2,t3,t4,decide_false,Bool.false_or,Bool.or_assoc] at hK
    exact Qp hn (by omega) (by omega) (by omega) (fun H y4 y5 hK'=>ih (m+1) H y4 y5 (by omega) (by omega) (by omega) hK') _ 0 H rfl (Nat.zero_le _) (by simpa using hK)
   ·have h':¬ (m:Int)<L.length:=by omega
    have:m=L.length:=by omega
    subst this
    have hK:∀ H,K (Bo (BW L)) H:=by simpa [pW] using hK
    simp only [jG,aa,a_,h',decide_false,ai,Bool.false_eq_true,if_false]
    have hE:=wu (H:=H) hK
    simp only [jG,aa,eI,qo] at hE ⊢
    exact hE
 exact L0 _ 0 _ _ _ rfl (Nat.zero_le _) (by decide) hK
end
theorem qz {P:Program} {σ:Sig} {f:Nat} {xs:List AV} {r:AV} (h:∀ K:AV→Hp→Prop,(∀ H,K r H)→∃ r' H1,au P σ f xs Hp.empty r' H1∧K r' H1) (hx:aK xs=true) (hr:bt r=true) (H:Hp):au P σ f xs H r H:=by
 obtain ⟨r',H1,hg,e⟩:=h (fun r' _=>r'=r) (fun _=>rfl)
 subst e
 exact hg.frzR hx (.refl hr) H
structure rS (L:List Nd) (d:List Nat):Prop where
 len:L.length≤40
 hB:cQ L L.length d
 sm:∀ n ∈ L,uK n
theorem Dl (L:List Nd) (hW:∀ n ∈ L,lX n):(∀ H,au Tryz.prog σ jc [nds L] H (.tup [.lit (.pointer none),.lit (.pointer none),Bo false]) H) ∨
  (∃ d,rS L d∧∀ H,au Tryz.prog σ jc [nds L] H (.tup [cx L d,dl L d,Bo true]) H):=by
 rcases Bw (σ:=σ) L hW with ⟨_,e,he,hg⟩ | ⟨d,hN,hB,hg⟩
 ·refine .inl fun H=>bg (fun K hK=>kS.run (ak (zD L _) (ak (hg _) ?_))) (by simp [aK,bt]) rfl H
  simp only [qc,List.getElem?_cons_zero,List.getElem?_cons_succ,aa,ai,tF,he,decide_false,Bool.not_false,if_true]
  cases pW L 0<;>simp only [Bool.false_eq_true,if_true,if_false]<;>exact hK _
 ·cases hb:pW L 0 with
  | true =>
   refine .inl fun H=>bg (fun K hK=>kS.run (ak (zD L _) (ak (hg _) ?_))) (by simp [aK,bt]) rfl H
   simp only [qc,List.getElem?_cons_zero,List.getElem?_cons_succ,aa,hb,ai,if_true]
   exact hK _
  | false =>
   have hT:rS L d:=by
    unfold pW BW at hb
    simp only [Bool.or_eq_false_iff,List.drop_zero] at hb
    have hl:L.length≤40:=by
     have h2:=hb.2
     by_cases h:40<L.length
     ·rw [if_pos h,if_pos hN] at h2; cases h2
     ·omega
    refine ⟨hl,hB,fun n hn=>uK.of ?_⟩
    have:=List.any_eq_false.1 hb.1 n (by rw [List.take_of_length_le (by omega)]; exact hn)
    simpa using this
   refine .inr ⟨d,hT,fun H=>qz (fun K hK=>kS.run (ak (zD L _) (ak (hg _) ?_))) (by simp [aK,bt]) ?_ H⟩
   ·simp only [qc,List.getElem?_cons_zero,List.getElem?_cons_succ,aa,hb,ai,tF,decide_true,Bool.not_true,Bool.false_eq_true,if_false]
    refine ak (vh hB hW hN _) ?_
    simp only [qc,List.getElem?_cons_zero,List.getElem?_cons_succ,aa]
    exact hK _
   ·simp [bt,aK,cU,dC]
end Go.Proofs.YthdcghnjndhecaaGreat.Ev
namespace Go.Proofs.YthdcghnjndhecaaGreat.Ev
set_option linter.unusedVariables false
set_option linter.unusedSimpArgs false
variable {σ:Sig}
structure W3 where
 a:Int
 b:Int
 c:Int
def W3.cells (s:W3):List AV:=[I s.a,I s.b,I s.c]
def W3.Bd (M:Int) (s:W3):Prop:=(0≤s.a∧s.a≤M)∧(0≤s.b∧s.b≤M)∧0≤s.c∧s.c≤M
def lst (n:Int):Int:=if 255<n then 255 else n
def jE (s:W3):Int:=(lst s.a*256+lst s.b)*256+lst s.c
def pJ (s:W3) (w:Int):W3:=⟨s.a+w / 256 / 256 % 256,s.b+w / 256 % 256,s.c+w % 256⟩
def tm (g:Sl→Int) (l:List Sl) (m:Int):Int:=l.foldl (fun m x=>if m<g x then g x else m) m
def psW (g:Sl→Int) (last:Bool) (s:W3) (p:Ps):W3:=if p.kind≠7∧p.kind≠8 then ⟨s.a,s.b+1,s.c⟩ else if last=true then s else pJ s (tm g p.list 0)
def kh (s:W3) (c:Cp):W3:=⟨s.a+c.ids.length,s.b+(c.classes.length+c.attrs.length),if c.tag≠⟨#[]⟩ then s.c+1 else s.c⟩
def cpW (g:Sl→Int) (last:Bool) (s:W3) (c:Cp):W3:=c.pseudos.foldl (psW g last) (kh s c)
def slW (g:Sl→Int) (last:Bool) (x:Sl):Int:=jE (x.foldl (fun s p=>cpW g last s p.c) ⟨0,0,0⟩)
def ofW:Nat→Sl→Int
 | 0,x=>slW (fun _=>0) true x
 | d+1,x=>slW (ofW d) false x
theorem nu (n:Int) (h:0≤n):0≤lst n∧lst n≤255:=by unfold lst; split<;>omega
theorem ua {s:W3} {M:Int} (h:s.Bd M):0≤jE s∧jE s≤16777215:=by
 obtain ⟨⟨a0,_⟩,⟨b0,_⟩,c0,_⟩:=h
 have:=nu _ a0
 have:=nu _ b0
 have:=nu _ c0
 unfold jE
 omega
theorem Bg {s:W3} {M w:Int} (h:s.Bd M) (h0:0≤w):(pJ s w).Bd (M+255):=by
 obtain ⟨⟨a0,a1⟩,⟨b0,b1⟩,c0,c1⟩:=h
 unfold pJ W3.Bd
 simp only
 omega
theorem ri (n:Int) (H:Hp):au Tryz.prog σ fU [I n,I 255] H (I (lst n)) H :=
 kD (jo.run (by simp [nG,toI,kA,lst])) rfl rfl H
theorem BO {s:W3} {M:Int} (h:s.Bd M) (H:Hp):au Tryz.prog σ fj [.agg s.cells] H (I (jE s)) H:=by
 obtain ⟨⟨a0,_⟩,⟨b0,_⟩,c0,_⟩:=h
 have ha:=nu _ a0
 have hb:=nu _ b0
 have hc:=nu _ c0
 refine kD (bQ.run ?_) (by simp [aK,bt,W3.cells]) rfl H
 simp [W3.cells,dg]
 refine bQ.L0_step ?_
 simp [uW,ij,cM]
 refine ak (ri _ _) ?_
 simp
 rw [cM (by omega) (by omega)]
 refine bQ.L0_step ?_
 simp [uW,ij,cM]
 rw [cM (by omega) (by omega)]
 refine ak (ri _ _) ?_
 simp
 rw [cM (by omega) (by omega)]
 refine bQ.L0_step ?_
 simp [uW,ij,cM]
 rw [cM (by omega) (by omega)]
 refine ak (ri _ _) ?_
 simp
 rw [cM (by omega) (by omega)]
 refine bQ.L0_step ?_
 simp [jE]
theorem MB {s:W3} {M w:Int} (h:s.Bd M) (hM:M≤1000000000) (h0:0≤w) (h1:w≤16777215) {H:Hp} {id:Nat} (hid:H.get id=some (.cells s.cells true)) :
  ∃ H',au Tryz.prog σ fD [.ptr id 0,I w] H (.tup []) H'∧H'.get id=some (.cells (pJ s w).cells true)∧(∀ j,j≠id→H'.get j=H.get j)∧H'.n=H.n:=by
 obtain ⟨⟨a0,a1⟩,⟨b0,b1⟩,c0,c1⟩:=h
 have t1:w.tmod 256=w % 256:=Int.tmod_eq_emod_of_nonneg h0
 have t2:w.tdiv 256=w / 256:=Int.tdiv_eq_ediv_of_nonneg h0
 have t3:(w / 256).tmod 256=w / 256 % 256:=Int.tmod_eq_emod_of_nonneg (by omega)
 have t4:(w / 256).tdiv 256=w / 256 / 256:=Int.tdiv_eq_ediv_of_nonneg (by omega)
 have t5:(w / 256 / 256).tmod 256=w / 256 / 256 % 256:=Int.tmod_eq_emod_of_nonneg (by omega)
 have t6:(w / 256 / 256).tdiv 256=w / 256 / 256 / 256:=Int.tdiv_eq_ediv_of_nonneg (by omega)
 have run:∃ r H',au Tryz.prog σ fD [.ptr id 0,I w] H r H'∧(r=.tup []∧H'.get id=some (.cells (pJ s w).cells true)∧(∀ j,j≠id→H'.get j=H.get j)∧H'.n=H.n):=by
  refine cu.run ?_
  refine cu.L0_step ?_
  simp [aX,ij,hid,W3.cells,o7,xz,t1,t2]
  rw [cM (by omega) (by omega),cM (by omega) (by omega),cM (by omega) (by omega)]
  refine cu.L0_step ?_
  simp [aX,ij,hid,W3.cells,o7,xz,t3,t4]
  rw [cM (by omega) (by omega),cM (by omega) (by omega),cM (by omega) (by omega)]
  refine cu.L0_step ?_
  simp [aX,ij,hid,W3.cells,o7,xz,t5,t6]
  rw [cM (by omega) (by omega),cM (by omega) (by omega),cM (by omega) (by omega)]
  refine cu.L0_step ?_
  simp [pJ]
  intro j hj
  simp [hj]
 obtain ⟨r,H',hg,rfl,hh⟩:=run
 exact ⟨H',hg,hh⟩
theorem wm {g:Sl→Int}:∀ (l:List Sl) (m:Int),0≤m→m≤16777215→(∀ x ∈ l,0≤g x∧g x≤16777215)→0≤tm g l m∧tm g l m≤16777215
 | [],m,h0,h1,_=>⟨h0,h1⟩
 | x::r,m,h0,h1,h=>by
  have:=h x (by simp)
  show 0≤tm g r (if m<g x then g x else m)∧_
  refine wm r _ ?_ ?_ fun y hy=>h y (by simp [hy])
  ·split<;>omega
  ·split<;>omega
def za (H:Hp) (id:Nat) (s:W3) (H':Hp):Prop:=H'.get id=some (.cells s.cells true)∧(∀ j,j≠id→j<H.n→H'.get j=H.get j)∧H.n≤H'.n
def yi (c:Cp):Prop:=c.ids.length≤400∧c.classes.length≤400∧c.attrs.length≤400∧c.pseudos.length≤5
theorem zg.wide {c:Cp} (h:zg c):yi c:=⟨by have:=h.1; omega,by have:=h.2.1; omega,by have:=h.2.2.1; omega,h.2.2.2⟩
theorem xS {d:Nat} (hd:d≤8) {g:Sl→Int} {P:Sl→Prop} (hg:d≠0→∀ x,P x→(∀ H,au Tryz.prog σ fP [.agg (aH x),I ((d - 1:Nat):Int)] H (I (g x)) H)∧0≤g x∧g x≤16777215)
  {c:Cp} (hc:BE c6 c) (hfit:yi c) (hP:d≠0→∀ q ∈ c.pseudos,∀ x ∈ q.list,P x) {s:W3} {M:Int} (hs:s.Bd M) (hM:M≤100000000) {H:Hp} {id:Nat} (hid:H.get id=some (.cells s.cells true)) (hlt:id<H.n) :
  ∃ H',au Tryz.prog σ dw [.ptr id 0,.agg (bU c),I (d:Int)] H (.tup []) H'∧za H id (cpW g (decide (d=0)) s c) H'∧(cpW g (decide (d=0)) s c).Bd (M+3000):=by
 obtain ⟨f1,f2,f3,f4⟩:=hfit
 have hls:(kh s c).Bd (M+900):=by
  obtain ⟨⟨a0,a1⟩,⟨b0,b1⟩,c0,c1⟩:=hs
  unfold kh W3.Bd
  simp only
  refine ⟨by omega,by omega,?_⟩
  split<;>omega
 let K:AV→Hp→Prop:=fun r H'=>r=.tup []∧za H id (cpW g (decide (d=0)) s c) H'∧(cpW g (decide (d=0)) s c).Bd (M+3000)
 have L1:∀ (n k:Nat) (H':Hp) (s':W3) (y4 y8 y70 y71 y72:AV),c.pseudos.length - k=n→k≤c.pseudos.length→s'=(c.pseudos.take k).foldl (psW g (decide (d=0))) (kh s c)→s'.Bd (M+900+255*k)→za H id s' H' →
   ao.L1 σ K (.ptr id 0) (I (d:Int)) y4 y8 (.imm 4 (c.pseudos.map bH)) (I c.pseudos.length) (I k) y70 y71 y72 H':=by
  intro n
  induction n with
  | zero =>
   intro k H' s' y4 y8 y70 y71 y72 hn hk hs' hb hI
   have e:k=c.pseudos.length:=by omega
   subst e
   refine ao.L1_step ?_
   simp
   have e2:s'=cpW g (decide (d=0)) s c:=by rw [hs',List.take_length]; rfl
   rw [e2] at hI hb
   refine ⟨rfl,hI,?_⟩
   obtain ⟨⟨a0,a1⟩,⟨b0,b1⟩,c0,c1⟩:=hb
   exact ⟨⟨a0,by omega⟩,⟨b0,by omega⟩,c0,by omega⟩
  | succ n ih =>
   intro k H' s' y4 y8 y70 y71 y72 hn hk hs' hb hI
   have hklt:k<c.pseudos.length:=by omega
   obtain ⟨q,hq⟩:=bp hklt
   have hqw:=(Ps.wf_iff.1 (hc.ps q (List.mem_of_getElem? hq))).2.2.2
   obtain ⟨hI1,hI2,hI3⟩:=hI
   obtain ⟨⟨a0,a1⟩,⟨b0,b1⟩,c0,c1⟩:=hb
   have hne:id≠H'.n:=by omega
   have hfold:(c.pseudos.take (k+1)).foldl (psW g (decide (d=0))) (kh s c)=psW g (decide (d=0)) s' q:=by
    rw [List.take_add_one,hq]
    simp only [Option.toList_some,List.foldl_append,List.foldl_cons,List.foldl_nil]
    rw [← hs']
   have next:∀ (H2:Hp) (s2:W3) (y4 y8 y70 y71 y72:AV),s2=psW g (decide (d=0)) s' q→s2.Bd (M+900+255*k+255)→za H id s2 H2 →
     ao.J2 σ K (.ptr id 0) (I (d:Int)) y4 y8 (.imm 4 (c.pseudos.map bH)) (I c.pseudos.length) (I k) y70 y71 y72 H2:=by
    intro H2 s2 y4 y8 y70 y71 y72 e1 e2 e3
    refine ao.J2_step ?_
    simp
    rw [cn hklt hc.psL]
    refine ih (k+1) H2 s2 _ _ _ _ _ (by omega) (by omega) (by rw [hfold]; exact e1) ?_ e3
    obtain ⟨⟨a0,a1⟩,⟨b0,b1⟩,c0,c1⟩:=e2
    exact ⟨⟨a0,by omega⟩,⟨b0,by omega⟩,c0,by omega⟩
   have L3:q.kind=7∨q.kind=8→d≠0→∀ (n3 i:Nat) (H2:Hp) (m:Int) (y4:AV),q.list.length - i=n3→i≤q.list.length→m=tm g (q.list.take i) 0→za H id s' H2 →
     ao.L3 σ K (.ptr id 0) (I (d:Int)) y4 (I m) (.imm 4 (c.pseudos.map bH)) (I c.pseudos.length) (I k) (.imm 1 (q.list.map aH)) (I q.list.length) (I i) H2:=by
    intro hk78 hd0 n3
    have hPq:=hP hd0 q (List.mem_of_getElem? hq)
    induction n3 with
    | zero =>
     intro i H2 m y4 hn3 hi hm hI2'
     have e:i=q.list.length:=by omega
     subst e
     rw [List.take_length] at hm
     have hmb:=wm (g:=g) q.list 0 (by omega) (by omega) fun x hx=>(hg hd0 x (hPq x hx)).2
     rw [← hm] at hmb
     obtain ⟨j1,j2,j3⟩:=hI2'
     obtain ⟨H3,hg3,r1,r2,r3⟩:=MB (σ:=σ) (M:=M+900+255*k) ⟨⟨a0,a1⟩,⟨b0,b1⟩,c0,c1⟩ (by omega) hmb.1 hmb.2 j1
     refine ao.L3_step ?_
     simp
     refine ak hg3 ?_
     refine next H3 (pJ s' m) _ _ _ _ _ ?_ (Bg ⟨⟨a0,a1⟩,⟨b0,b1⟩,c0,c1⟩ hmb.1) ⟨r1,fun j hj hjl=>by rw [r2 j hj]; exact j2 j hj hjl,by rw [r3]; exact j3⟩
     unfold psW
     rw [if_neg (by omega),if_neg (by simpa using hd0),hm]
    | succ n3 ih3 =>
     intro i H2 m y4 hn3 hi hm hI2'
     have hilt:i<q.list.length:=by omega
     obtain ⟨x,hx⟩:=bp hilt
     obtain ⟨hgx,_,_⟩:=hg hd0 x (hPq x (List.mem_of_getElem? hx))
     obtain ⟨j1,j2,j3⟩:=hI2'
     have hne2:id≠H2.n:=by omega
     refine ao.L3_step ?_
     have e1:wr .i64 ((d:Int) - 1)=((d - 1:Nat):Int):=by rw [cM (by omega) (by omega)]; omega
     simp [bm hx,dg,bj,hilt,e1,cn hilt hqw.1]
     refine ak (hgx _) ?_
     simp [wz,toI,lK]
     refine ih3 (i+1) _ _ _ (by omega) (by omega) ?_ ⟨by simp [hne2,j1],fun j hj hjl=>?_,by simp; omega⟩
     ·rw [List.take_add_one,hx,hm]
      simp only [tm,Option.toList_some,List.foldl_append,List.foldl_cons,List.foldl_nil]
      rfl
     ·have:j≠H2.n:=by omega
      simp [this]
      exact j2 j hj hjl
   refine ao.L1_step ?_
   simp [bm hq,dg,bj,e_,hklt]
   have hne':∀ j,j<H.n→j≠H'.n:=fun j hj=>by omega
   have tolist:q.kind=7∨q.kind=8→∀ (b:Blk) (o:Option Blk),(if d=0 then ao.J2 σ K (.ptr id 0) (I (d:Int)) y4 y8 (.imm 4 (c.pseudos.map bH)) (I c.pseudos.length) (I k) y70 y71 y72 ((H'.new b).set H'.n o)
     else ao.L3 σ K (.ptr id 0) (I (d:Int)) y4 (I 0) (.imm 4 (c.pseudos.map bH)) (I c.pseudos.length) (I k) (.imm 1 (q.list.map aH)) (I q.list.length) (I 0) ((H'.new b).set H'.n o)):=by
    intro hk78 b o
    have hI':za H id s' ((H'.new b).set H'.n o):=⟨by simp [hne,hI1],fun j hj hjl=>by simp [hne' j hjl]; exact hI2 j hj hjl,by simp; omega⟩
    split
    ·rename_i hd0
     refine next _ s' _ _ _ _ _ ?_ ⟨⟨a0,by omega⟩,⟨b0,by omega⟩,c0,by omega⟩ hI'
     unfold psW
     rw [if_neg (by omega),if_pos (by simpa using hd0)]
    ·rename_i hd0
     exact L3 hk78 hd0 _ 0 _ 0 _ rfl (Nat.zero_le _) rfl hI'
   split
   ·exact tolist (.inl (by assumption)) _ _
   split
   ·exact tolist (.inr (by assumption)) _ _
   ·simp [aX,ij,hne,hI1,W3.cells]
    rw [cM (by omega) (by omega)]
    refine next _ ⟨s'.a,s'.b+1,s'.c⟩ _ _ _ _ _ ?_ ⟨⟨a0,by simp only; omega⟩,⟨by simp only; omega,by simp only; omega⟩,c0,by simp only; omega⟩ ⟨by simp [W3.cells],fun j hj hjl=>by simp [hne' j hjl,hj]; exact hI2 j hj hjl,by simp; omega⟩
    unfold psW
    rw [if_pos ⟨by assumption,by assumption⟩]
 obtain ⟨⟨a0,a1⟩,⟨b0,b1⟩,c0,c1⟩:=hs
 have hne:id≠H.n:=by omega
 have fin:∀ H',za H id (kh s c) H'→H'.get H.n=some (.cells (bU c) true)→ao.J0 σ K (.ptr id 0) (I (d:Int)) (.ptr H.n 0) (.lit undef) (.lit undef) (.lit undef) (.lit undef) (.lit undef) (.lit undef) (.lit undef) H':=by
  intro H' hI hc1
  refine ao.J0_step ?_
  simp [hc1,cd]
  exact L1 _ 0 H' (kh s c) _ _ _ _ _ rfl (Nat.zero_le _) rfl (by simpa using hls) hI
 have run:∃ r H',au Tryz.prog σ dw [.ptr id 0,.agg (bU c),I (d:Int)] H r H'∧K r H':=by
  refine ao.run ?_
  simp [cd,aX,ij,hne,Ne.symm hne,hid,W3.cells]
  have e1:wr .i64 (s.a+c.ids.length)=s.a+c.ids.length:=cM (by omega) (by omega)
  have e2:wr .i64 ((c.classes.length:Int)+c.attrs.length)=c.classes.length+c.attrs.length:=cM (by omega) (by omega)
  have e3:wr .i64 (s.b+((c.classes.length:Int)+c.attrs.length))=s.b+(c.classes.length+c.attrs.length):=cM (by omega) (by omega)
  have e4:wr .i64 (s.c+1)=s.c+1:=cM (by omega) (by omega)
  simp only [e1,e2,e3,e4]
  have hj':∀ j,j<H.n→j≠H.n:=fun j hj=>by omega
  split
  ·rename_i ht
   exact fin _ ⟨by simp [W3.cells,kh,ht],fun j hj hjl=>by simp [hj,hj' j hjl],by simp⟩ (by simp [cd,Ne.symm hne])
  ·rename_i ht
   exact fin _ ⟨by simp [W3.cells,kh,ht],fun j hj hjl=>by simp [hj,hj' j hjl],by simp⟩ (by simp [cd,Ne.symm hne])
 obtain ⟨r,H',hg',rfl,hh⟩:=run
 exact ⟨H',hg',hh⟩
theorem Bi {d:Nat} (hd:d≤8) {g:Sl→Int} {P:Sl→Prop} (hg:d≠0→∀ x,P x→(∀ H,au Tryz.prog σ fP [.agg (aH x),I ((d - 1:Nat):Int)] H (I (g x)) H)∧0≤g x∧g x≤16777215)
  (x:Sl) (hw:lu c6 x) (h60:x.length≤400) (hfit:∀ p ∈ x,yi p.c) (hP:d≠0→∀ p ∈ x,∀ q ∈ p.c.pseudos,∀ y ∈ q.list,P y) :
  (∀ H,au Tryz.prog σ fP [.agg (aH x),I (d:Int)] H (I (slW g (decide (d=0)) x)) H)∧0≤slW g (decide (d=0)) x∧slW g (decide (d=0)) x≤16777215:=by
 let F:Nat→W3:=fun k=>(x.take k).foldl (fun s p=>cpW g (decide (d=0)) s p.c) ⟨0,0,0⟩
 let K:AV→Hp→Prop:=fun r _=>r=I (slW g (decide (d=0)) x)∧0≤slW g (decide (d=0)) x∧slW g (decide (d=0)) x≤16777215
 have L0:∀ (n k:Nat) (H:Hp) (id:Nat),x.length - k=n→k≤x.length→(F k).Bd (3000*k)→H.get id=some (.cells (F k).cells true)→id<H.n →
   fy.L0 σ K (I (d:Int)) (.ptr id 0) (.imm 6 (x.map bo)) (I x.length) (I k) H:=by
  intro n
  induction n with
  | zero =>
   intro k H id hn hk hb hid hlt
   have e:k=x.length:=by omega
   subst e
   refine fy.L0_step ?_
   simp [hid,dg,W3.cells]
   refine ak (BO hb _) ?_
   have e2:jE (F x.length)=slW g (decide (d=0)) x:=by simp only [F,List.take_length]; rfl
   have:=ua hb
   rw [e2] at this
   exact ⟨by rw [e2],this⟩
  | succ n ih =>
   intro k H id hn hk hb hid hlt
   have hklt:k<x.length:=by omega
   obtain ⟨p,hp⟩:=bp hklt
   have hmem:=List.mem_of_getElem? hp
   have hpw:=(Pt.wf_iff.1 (hw.2 p hmem)).2
   have hne:id≠H.n:=by omega
   refine fy.L0_step ?_
   simp [bm hp,bj,hklt]
   obtain ⟨H',hg',hI,hb'⟩:=xS (σ:=σ) hd hg hpw (hfit p hmem) (fun h0 q hq y hy=>hP h0 p hmem q hq y hy) hb (by omega) (H:=(H.new (.cells [I 0,.lit (.string ⟨#[]⟩),.lit (.slice none 0 0),.lit (.slice none 0 0),.lit (.slice none 0 0),.lit (.slice none 0 0)] true)).set H.n (some (.cells (bo p) true))) (id:=id) (by simp [hne,hid]) (by simp; omega)
   refine ak hg' ?_
   rw [cn hklt hw.1]
   have hF:F (k+1)=cpW g (decide (d=0)) (F k) p.c:=by
    simp only [F]
    rw [List.take_add_one,hp]
    simp only [Option.toList_some,List.foldl_append,List.foldl_cons,List.foldl_nil]
   obtain ⟨i1,i2,i3⟩:=hI
   refine ih (k+1) H' id (by omega) (by omega) ?_ (by rw [hF]; exact i1) (by simp at i3; omega)
   rw [hF]
   obtain ⟨⟨a0,a1⟩,⟨b0,b1⟩,c0,c1⟩:=hb'
   exact ⟨⟨a0,by omega⟩,⟨b0,by omega⟩,c0,by omega⟩
 have run:∃ r H1,au Tryz.prog σ fP [.agg (aH x),I (d:Int)] Hp.empty r H1∧K r H1:=by
  refine fy.run ?_
  simp [aH]
  refine L0 _ 0 _ _ rfl (Nat.zero_le _) ⟨⟨by simp [F],by simp [F]⟩,⟨by simp [F],by simp [F]⟩,by simp [F],by simp [F]⟩ ?_ (by simp)
  simp [F,W3.cells]
 obtain ⟨r,H1,hg',rfl,hb⟩:=run
 exact ⟨fun H=>hg'.over (by simp [aK,bt,gP]) rfl H,hb⟩
theorem CS:∀ (d:Nat),d≤8→∀ (f:Nat) (x:Sl),d≤f→lu c6 x→pF f x→(∀ H,au Tryz.prog σ fP [.agg (aH x),I (d:Int)] H (I (ofW d x)) H)∧0≤ofW d x∧ofW d x≤16777215
 | 0,hd,f,x,hf,hw,hfit=>Bi (P:=fun _=>False) hd (g:=fun _=>0) (fun h=>absurd rfl h) x hw (by have:=hfit.1; omega) (fun p hp=>(hfit.2 p hp).1.wide) (fun h=>absurd rfl h)
 | d+1,hd,f,x,hf,hw,hfit=>by
  refine Bi (d:=d+1) (P:=fun y=>lu c6 y∧pF (f - 1) y) hd (g:=ofW d) (fun _ y hy=>CS d (by omega) (f - 1) y (by omega) hy.1 hy.2) x hw (by have:=hfit.1; omega) (fun p hp=>(hfit.2 p hp).1.wide) (fun _ p hp q hq y hy=>?_)
  have hpw:=(Pt.wf_iff.1 (hw.2 p hp)).2
  have hqw:=(Ps.wf_iff.1 (hpw.ps q hq)).2.2.2
  refine ⟨hqw.2 y hy,?_⟩
  have:=(hfit.2 p hp).2 q hq
  obtain ⟨f',rfl⟩:∃ f',f=f'+1:=⟨f - 1,by omega⟩
  exact this y hy
theorem Se {f:Nat} {x:Sl} (hf:8≤f) (hw:lu c6 x) (hfit:pF f x) (H:Hp):au Tryz.prog σ nj [.agg (aH x)] H (I (ofW 8 x)) H:=by
 refine kD (tO.run ?_) (by simp [aK,bt,gP]) rfl H
 simp
 exact ak ((CS 8 (by omega) f x hf hw hfit).1 _) rfl
end Go.Proofs.YthdcghnjndhecaaGreat.Ev
namespace Go.Proofs.YthdcghnjndhecaaGreat.Ev
set_option linter.unusedVariables false
set_option linter.unusedSimpArgs false
variable {σ:Sig}
theorem Pl {n:Int} (k:Nat) (h:0≤n) (hk:k≤63):ah .shr (I n) (.lit (.int .u64 k))=some (I (n / ((2 ^ k:Nat):Int))):=by
 have:min (k:Int).toNat (IntKind.bits .i64)=k:=by simp [IntKind.bits]; omega
 have h2:(2:Int) ^ k=((2 ^ k:Nat):Int):=by simp
 have h3:¬ (k:Int)<0:=by omega
 have h4:n.fdiv ((2:Int) ^ k)=n / ((2 ^ k:Nat):Int):=by
  rw [h2]
  generalize 2 ^ k=q
  rw [Int.fdiv_eq_ediv_of_nonneg _ (by omega)]
 simp only [ah,lit?,fX,h3,decide_false,cond_false,this,h4]
theorem Sj {n:Int} (h:0≤n):ah .shr (I n) (.lit (.int .u64 16))=some (I (n / 65536)):=Pl 16 h (by decide)
theorem TG {n:Int} (h:0≤n):ah .shr (I n) (.lit (.int .u64 8))=some (I (n / 256)):=Pl 8 h (by decide)
theorem O7 {n:Int} (k:Nat) (hk:k≤16) (h:0≤n) (h1:n≤255):ah .shl (I n) (.lit (.int .u64 k))=some (I (n*((2 ^ k:Nat):Int))):=by
 have:min (k:Int).toNat (IntKind.bits .i64)=k:=by simp [IntKind.bits]; omega
 have h2:(2:Int) ^ k=((2 ^ k:Nat):Int):=by simp
 have h3:¬ (k:Int)<0:=by omega
 have h5:(2 ^ k:Nat)≤65536:=by
  have:(2 ^ k:Nat)≤2 ^ 16:=Nat.pow_le_pow_right (by decide) hk
  simpa using this
 have h8:wr .i64 (n*((2 ^ k:Nat):Int))=n*((2 ^ k:Nat):Int):=by
  revert h5
  generalize 2 ^ k=q
  intro h5
  have h6:n*(q:Int)≤255*65536:=Int.mul_le_mul h1 (by omega) (by omega) (by omega)
  have h7:0≤n*(q:Int):=Int.mul_nonneg h (by omega)
  exact cM (by omega) (by omega)
 simp only [ah,lit?,fX,h3,decide_false,cond_false,this,h2,h8]
theorem SL {n:Int} (h:0≤n) (h1:n≤255):ah .shl (I n) (.lit (.int .u64 16))=some (I (n*65536)):=O7 16 (by decide) h h1
theorem TX {n:Int} (h:0≤n) (h1:n≤255):ah .shl (I n) (.lit (.int .u64 8))=some (I (n*256)):=O7 8 (by decide) h h1
theorem A_ {n:Int} (h:0≤n) (hn:n<9223372036854775808):ah .and (I n) (I 255)=some (I (n % 256)):=by
 obtain ⟨m,rfl⟩:∃ m:Nat,n=m:=⟨n.toNat,by omega⟩
 have h1:(BitVec.ofInt 64 (m:Int) &&& BitVec.ofInt 64 255).toNat=m % 256:=by
  rw [BitVec.toNat_and]
  have e1:(BitVec.ofInt 64 (m:Int)).toNat=m:=by
   rw [BitVec.toNat_ofInt]
   omega
  have e2:(BitVec.ofInt 64 255).toNat=255:=by decide
  rw [e1,e2]
  exact Nat.and_two_pow_sub_one_eq_mod m 8
 rw [O_]
 have:IntKind.bits .i64=64:=rfl
 rw [this,h1,cM (by omega) (by omega)]
 rfl
theorem zu (n:Int) (H:Hp):au Tryz.prog σ jB [I n] H (I (lst n)) H:=by
 refine kD (t_.run ?_) rfl rfl H
 simp only [eI,aa,ai]
 unfold lst
 by_cases h:(255:Int)<n<;>simp [h]
theorem ixW (k:Nat) (h:k<3):aX 3 1 (.ptr 1 0) (.lit (.int .i64 (k:Int)))=some (.ptr 1 k):=by rw [ni h]; simp
theorem Rq:aX 3 1 (.ptr 1 0) (I 0)=some (.ptr 1 0):=ixW 0 (by decide)
theorem OT:aX 3 1 (.ptr 1 0) (I 1)=some (.ptr 1 1):=ixW 1 (by decide)
theorem QI:aX 3 1 (.ptr 1 0) (I 2)=some (.ptr 1 2):=ixW 2 (by decide)
structure W1 (H:Hp) (s:W3) (H':Hp):Prop where
 n:H'.n=H.n
 g:H'.get 1=some (.cells s.cells true)
 o:∀ j,j≠1→H'.get j=H.get j
theorem W1.trans {H H1 H2:Hp} {s s':W3} (h:W1 H s H1) (h':W1 H1 s' H2):W1 H s' H2:=⟨h'.n.trans h.n,h'.g,fun j hj=>(h'.o j hj).trans (h.o j hj)⟩
theorem Pi {H:Hp} {s:W3} (h:H.get 1=some (.cells s.cells true)) (n:Int) {J:Hp→Prop} (k:∀ H',W1 H ⟨n,s.b,s.c⟩ H'→J H'):bnd (stA 1 H (.ptr 1 0) (I n)) J:=by
 rw [pp h rfl rfl rfl (by simp [W3.cells]),aa]
 exact k _ ⟨rfl,by simp [W3.cells],fun j hj=>by simp [hj]⟩
theorem Fy {H:Hp} {s:W3} (h:H.get 1=some (.cells s.cells true)) (n:Int) {J:Hp→Prop} (k:∀ H',W1 H ⟨s.a,n,s.c⟩ H'→J H'):bnd (stA 1 H (.ptr 1 1) (I n)) J:=by
 rw [pp h rfl rfl rfl (by simp [W3.cells]),aa]
 exact k _ ⟨rfl,by simp [W3.cells],fun j hj=>by simp [hj]⟩
theorem Pb {H:Hp} {s:W3} (h:H.get 1=some (.cells s.cells true)) (n:Int) {J:Hp→Prop} (k:∀ H',W1 H ⟨s.a,s.b,n⟩ H'→J H'):bnd (stA 1 H (.ptr 1 2) (I n)) J:=by
 rw [pp h rfl rfl rfl (by simp [W3.cells]),aa]
 exact k _ ⟨rfl,by simp [W3.cells],fun j hj=>by simp [hj]⟩
theorem PG {H:Hp} {s:W3} (h:H.get 1=some (.cells s.cells true)):ldA false 1 H (.ptr 1 0)=some (I s.a):=by rw [aL,h]; rfl
theorem M1 {H:Hp} {s:W3} (h:H.get 1=some (.cells s.cells true)):ldA false 1 H (.ptr 1 1)=some (I s.b):=by rw [aL,h]; rfl
theorem PY {H:Hp} {s:W3} (h:H.get 1=some (.cells s.cells true)):ldA false 1 H (.ptr 1 2)=some (I s.c):=by rw [aL,h]; rfl
theorem ui {H:Hp} {s:W3} {M w:Int} (h:H.get 1=some (.cells s.cells true)) (hb:s.Bd M) (hM:M≤1000000000) (h0:0≤w) (h1:w≤16777215) {J:Hp→Prop} (k:∀ H',W1 H (pJ s w) H'→J H') :
  bnd (aX 3 1 (.ptr 1 0) (I 0)) fun x33=>bnd (ldA false 1 H x33) fun x34=>bnd (ah .shr (I w) (.lit (.int .u64 16))) fun x35=>bnd (ah .add x34 x35) fun x36=>bnd (aX 3 1 (.ptr 1 0) (I 0)) fun x37=>bnd (stA 1 H x37 x36) fun H38=>bnd (aX 3 1 (.ptr 1 0) (I 1)) fun x39=>bnd (ldA false 1 H38 x39) fun x40=>bnd (ah .shr (I w) (.lit (.int .u64 8))) fun x41=>bnd (ah .and x41 (I 255)) fun x42=>bnd (ah .add x40 x42) fun x43=>bnd (aX 3 1 (.ptr 1 0) (I 1)) fun x44=>bnd (stA 1 H38 x44 x43) fun H45=>bnd (aX 3 1 (.ptr 1 0) (I 2)) fun x46=>bnd (ldA false 1 H45 x46) fun x47=>bnd (ah .and (I w) (I 255)) fun x48=>bnd (ah .add x47 x48) fun x49=>bnd (aX 3 1 (.ptr 1 0) (I 2)) fun x50=>bnd (stA 1 H45 x50 x49) fun H51=>J H51:=by
 obtain ⟨⟨a0,a1⟩,⟨b0,b1⟩,c0,c1⟩:=hb
 simp only [Rq,OT,QI,aa,PG h,Sj h0,TG h0,bF,A_ (n:=w) h0 (by omega),A_ (n:=w / 256) (by omega) (by omega)]
 rw [cM (by omega) (by omega)]
 refine Pi h _ fun H1 w1=>?_
 simp only [M1 w1.g,aa,bF]
 rw [cM (by omega) (by omega)]
 refine Fy w1.g _ fun H2 w2=>?_
 simp only [PY w2.g,aa,bF]
 rw [cM (by omega) (by omega)]
 refine Pb w2.g _ fun H3 w3=>k H3 ?_
 have e:pJ s w=⟨s.a+w / 65536,s.b+w / 256 % 256,s.c+w % 256⟩:=by
  unfold pJ
  have:w / 256 / 256 % 256=w / 65536:=by omega
  rw [this]
 rw [e]
 exact (w1.trans w2).trans w3
end Go.Proofs.YthdcghnjndhecaaGreat.Ev
namespace Go.Proofs.YthdcghnjndhecaaGreat.Ev
set_option linter.unusedVariables false
set_option linter.unusedSimpArgs false
variable {σ:Sig}
structure RI (x:Sl) (s:W3) (H:Hp):Prop where
 g0:H.get 0=some (.cells (aH x) true)
 g1:H.get 1=some (.cells s.cells true)
 n:2≤H.n
theorem RI.step {x:Sl} {s s':W3} {H H':Hp} (h:RI x s H) (w:W1 H s' H'):RI x s' H':=⟨(w.o 0 (by decide)).trans h.g0,w.g,by rw [w.n]; exact h.n⟩
theorem RI.new {x:Sl} {s:W3} {H:Hp} (h:RI x s H) (b:Blk) (o:Option Blk):RI x s ((H.new b).set H.n o):=by
 have:=h.n
 have e0:(0:Nat)≠H.n:=by omega
 have e1:(1:Nat)≠H.n:=by omega
 refine ⟨?_,?_,?_⟩
 ·simp [e0,h.g0]
 ·simp [e1,h.g1]
 ·show 2≤H.n+1
  omega
theorem W3.Bd.mono {M N:Int} {s:W3} (h:s.Bd M) (hl:M≤N):s.Bd N:=by
 obtain ⟨⟨a0,a1⟩,⟨b0,b1⟩,c0,c1⟩:=h
 exact ⟨⟨a0,by omega⟩,⟨b0,by omega⟩,c0,by omega⟩
theorem Qw (s:W3):pJ s 0=s:=by
 unfold pJ
 simp
theorem Lo {s:W3} {M:Int} (hs:s.Bd M) {c:Cp} (hfit:yi c):(kh s c).Bd (M+900):=by
 obtain ⟨⟨a0,a1⟩,⟨b0,b1⟩,c0,c1⟩:=hs
 obtain ⟨f1,f2,f3,f4⟩:=hfit
 unfold kh W3.Bd
 simp only
 refine ⟨by omega,by omega,?_⟩
 split<;>omega
section
attribute [local irreducible] ap.L0 ap.J1 ap.L2 ap.J3 ap.L4 ap.J5
theorem Az {d:Nat} (hd:d≤8) {g:Sl→Int} {P:Sl→Prop} (hg:d<8→∀ x,P x→(∀ H,au Tryz.prog σ ev [.agg (aH x),I ((d+1:Nat):Int)] H (I (g x)) H)∧0≤g x∧g x≤16777215)
  (x:Sl) (hw:lu c6 x) (h60:x.length≤400) (hfit:∀ p ∈ x,yi p.c) (hP:d<8→∀ p ∈ x,∀ q ∈ p.c.pseudos,∀ y ∈ q.list,P y) :
  (∀ H,au Tryz.prog σ ev [.agg (aH x),I (d:Int)] H (I (slW g (decide (d=8)) x)) H)∧0≤slW g (decide (d=8)) x∧slW g (decide (d=8)) x≤16777215:=by
 obtain ⟨F,hF⟩:∃ F:Nat→W3,∀ k,F k=(x.take k).foldl (fun s p=>cpW g (decide (d=8)) s p.c) ⟨0,0,0⟩:=⟨_,fun _=>rfl⟩
 obtain ⟨K,hK⟩:∃ K:AV→Hp→Prop,∀ r H,K r H ↔ r=I (slW g (decide (d=8)) x)∧0≤slW g (decide (d=8)) x∧slW g (decide (d=8)) x≤16777215:=⟨_,fun _ _=>Iff.rfl⟩
 have l0:∀ {s:W3} {H:Hp},RI x s H→ldA false 1 H (.ptr 0 0)=some (.imm 6 (x.map bo)):=fun h=>by rw [aL,h.g0]; rfl
 have L0:∀ (n k:Nat) (H:Hp) (y7 y8 y9 y10 y11:AV),x.length - k=n→k≤x.length→(F k).Bd (3000*k)→RI x (F k) H →
   ap.L0 σ K (I (d:Int)) (.ptr 0 0) (.ptr 1 0) (I (k:Int)) y7 y8 y9 y10 y11 H:=by
  intro n
  induction n with
  | zero =>
   intro k H y7 y8 y9 y10 y11 hn hk hb hI
   have e:k=x.length:=by omega
   subst e
   refine ap.L0_step ?_
   have hW:=ua hb
   obtain ⟨⟨a0,a1⟩,⟨b0,b1⟩,c0,c1⟩:=hb
   have q0:=nu _ a0
   have q1:=nu _ b0
   have q2:=nu _ c0
   simp only [bu,Nat.zero_add,aa,l0 hI,bW,List.length_map,a_,Int.lt_irrefl,decide_false,ai,Bool.false_eq_true,if_false,Rq,OT,QI,PG hI.g1]
   refine ak (zu _ _) ?_
   simp only [SL q0.1 q0.2,aa,M1 hI.g1,rt,true_and]
   refine ak (zu _ _) ?_
   simp only [TX q1.1 q1.2,aa,PY hI.g1,rt,true_and,bF]
   refine ak (zu _ _) ?_
   simp only [bF,aa]
   rw [cM (n:=lst (F x.length).a*65536+lst (F x.length).b*256) (by omega) (by omega),cM (by omega) (by omega)]
   have e2:jE (F x.length)=slW g (decide (d=8)) x:=by rw [hF,List.take_length]; rfl
   have e3:lst (F x.length).a*65536+lst (F x.length).b*256+lst (F x.length).c=jE (F x.length):=by unfold jE; omega
   rw [e3,e2]
   rw [e2] at hW
   exact (hK _ _).2 ⟨rfl,hW⟩
  | succ n ih =>
   intro k H y7 y8 y9 y10 y11 hn hk hb hI
   have hklt:k<x.length:=by omega
   have hklt':(k:Int)<x.length:=by omega
   obtain ⟨p,hp⟩:=bp hklt
   have hmem:=List.mem_of_getElem? hp
   have hpw:=(Pt.wf_iff.1 (hw.2 p hmem)).2
   have hfp:=hfit p hmem
   have hix:az 6 (.imm 6 (x.map bo)) (I (k:Int))=some (.ip (bo p)):=bm hp
   have l5:∀ H:Hp,ldA true 5 H (.ip ((bo p).drop 1))=some (.agg (bU p.c)):=fun H=>by rw [dm]; simp
   have hls:=Lo hb hfp
   have hFk:F (k+1)=cpW g (decide (d=8)) (F k) p.c:=by
    rw [hF,hF,List.take_add_one,hp]
    simp only [Option.toList_some,List.foldl_append,List.foldl_cons,List.foldl_nil]
   have hps5:p.c.pseudos.length≤5:=hfp.2.2.2
   have L2:∀ (m j:Nat) (H:Hp) (s:W3) (c:Nat) (y9 y10 y11:AV),p.c.pseudos.length - j=m→j≤p.c.pseudos.length→s=(p.c.pseudos.take j).foldl (psW g (decide (d=8))) (kh (F k) p.c)→s.Bd (3000*k+900+255*j)→RI x s H →
     2≤c→c<H.n→H.get c=some (.cells (bU p.c) true)→ap.L2 σ K (I (d:Int)) (.ptr 0 0) (.ptr 1 0) (I (k:Int)) (.ptr c 0) (I (j:Int)) y9 y10 y11 H:=by
    intro m
    induction m with
    | zero =>
     intro j H s c y9 y10 y11 hm hj hs hb hI hc2 hcn hgc
     have e:j=p.c.pseudos.length:=by omega
     subst e
     have lp:ldA false 1 H (.ptr c 4)=some (.imm 4 (p.c.pseudos.map bH)):=by rw [aL,hgc,aM,nT]
     refine ap.L2_step ?_
     simp only [bu,Nat.zero_add,aa,lp,bW,List.length_map,a_,Int.lt_irrefl,decide_false,ai,Bool.false_eq_true,if_false,bF]
     rw [bq (by omega)]
     have e2:s=F (k+1):=by rw [hFk,hs,List.take_length]; rfl
     subst e2
     exact ih (k+1) H _ _ _ _ _ (by omega) (by omega) (hb.mono (by omega)) hI
    | succ m ihm =>
     intro j H s c y9 y10 y11 hm hj hs hb hI hc2 hcn hgc
     have hjlt:j<p.c.pseudos.length:=by omega
     have hjlt':(j:Int)<p.c.pseudos.length:=by omega
     obtain ⟨q,hq⟩:=bp hjlt
     have hqm:=List.mem_of_getElem? hq
     have hqw:=(Ps.wf_iff.1 (hpw.ps q hqm)).2.2.2
     have lp:ldA false 1 H (.ptr c 4)=some (.imm 4 (p.c.pseudos.map bH)):=by rw [aL,hgc,aM,nT]
     have hiq:az 4 (.imm 4 (p.c.pseudos.map bH)) (I (j:Int))=some (.ip (bH q)):=bm hq
     have l4:ldA true 4 H (.ip (bH q))=some (.agg (bH q)):=by rw [e_]; rfl
     have hfold:(p.c.pseudos.take (j+1)).foldl (psW g (decide (d=8))) (kh (F k) p.c)=psW g (decide (d=8)) s q:=by
      rw [List.take_add_one,hq]
      simp only [Option.toList_some,List.foldl_append,List.foldl_cons,List.foldl_nil]
      rw [← hs]
     have next:∀ (H2:Hp) (s2:W3) (y9 y10 y11:AV),s2=psW g (decide (d=8)) s q→s2.Bd (3000*k+900+255*j+255)→RI x s2 H2→c<H2.n→H2.get c=some (.cells (bU p.c) true) →
       ap.J3 σ K (I (d:Int)) (.ptr 0 0) (.ptr 1 0) (I (k:Int)) (.ptr c 0) (I (j:Int)) y9 y10 y11 H2:=by
      intro H2 s2 y9 y10 y11 e1 e2 e3 e4 e5
      refine ap.J3_step ?_
      rw [bF,aa,bq (by omega)]
      exact ihm (j+1) H2 s2 c _ _ _ (by omega) (by omega) (by rw [hfold]; exact e1) (e2.mono (by omega)) e3 hc2 e4 e5
     have hs0:=hb
     refine ap.L2_step ?_
     simp only [bu,Nat.zero_add,aa,lp,bW,List.length_map,a_,hjlt',decide_true,ai,if_true,hiq,l4,bA]
     obtain ⟨H2,hH2⟩:∃ H2,H2=(H.new (.cells [I 0,I 0,I 0,.lit (.slice none 0 0)] true)).set H.n (some (.cells (bH q) true)):=⟨_,rfl⟩
     refine c7 (x:=H2) ?_ ?_
     ·rw [eV,hH2]
      simp only [bN,if_true,de,rL]
      rw [if_pos ⟨by decide,PV _⟩,yk _ rfl]
     have hI2:RI x s H2:=by rw [hH2]; exact hI.new _ _
     have hcH:c≠H.n:=by omega
     have hgc2:H2.get c=some (.cells (bU p.c) true):=by rw [hH2]; simp [hcH,hgc]
     have n2:H2.n=H.n+1:=by rw [hH2]; rfl
     have gq:H2.get H.n=some (.cells (bH q) true):=by rw [hH2]; simp
     have lk:ldA false 1 H2 (.ptr H.n 0)=some (I q.kind):=by rw [aL,gq,aM,List.drop_zero,tS]
     have b2:2≤H.n:=hI.n
     clear hH2
     have ll:∀ H':Hp,H'.get H.n=some (.cells (bH q) true)→ldA false 1 H' (.ptr H.n 3)=some (.imm 1 (q.list.map aH)):=fun H' h=>by rw [aL,h,aM,oh]
     have endL:q.kind=7∨q.kind=8→∀ (H3:Hp) (w:Int) (y11:AV),w=(if d=8 then 0 else tm g q.list 0)→0≤w→w≤16777215→RI x s H3→H3.n=H2.n→(∀ j,H3.get j=H2.get j)→∀ H4,W1 H3 (pJ s w) H4 →
       ap.J3 σ K (I (d:Int)) (.ptr 0 0) (.ptr 1 0) (I (k:Int)) (.ptr c 0) (I (j:Int)) (.ptr H.n 0) (I w) y11 H4:=by
      intro h78 H3 w y11 hw h0 h1 hI3 n3 s3 H4 w4
      refine next H4 (pJ s w) _ _ _ ?_ (Bg hs0 h0) (hI3.step w4) (by rw [w4.n]; omega) (by rw [w4.o c (by omega),s3]; exact hgc2)
      unfold psW
      rw [if_neg (by omega),hw]
      by_cases h8:d=8
      ·simp [h8,Qw]
      ·simp [h8]
     have toL4:q.kind=7∨q.kind=8→ap.L4 σ K (I (d:Int)) (.ptr 0 0) (.ptr 1 0) (I (k:Int)) (.ptr c 0) (I (j:Int)) (.ptr H.n 0) (I 0) (I 0) H2:=by
      intro h78
      have hEnd:=endL h78
      by_cases h8:d=8
      ·have fin:=hEnd H2 0 (I 0) (by rw [if_pos h8]) (by decide) (by decide) hI2 rfl (fun _=>rfl)
       have nlt:¬ ((d:Int)<8):=by omega
       refine ap.L4_step ?_
       simp only [bu,Nat.zero_add,aa,ll _ gq,bW,List.length_map,a_,nlt,decide_false,ai,Bool.false_eq_true,if_false]
       by_cases hz:(0:Int)<q.list.length
       ·simp only [hz,decide_true,if_true]
        exact ui (M:=1000000000) hI2.g1 (hs0.mono (by omega)) (by omega) (by decide) (by decide) fin
       ·simp only [hz,decide_false,Bool.false_eq_true,if_false]
        exact ui (M:=1000000000) hI2.g1 (hs0.mono (by omega)) (by omega) (by decide) (by decide) fin
      ·have hd8:d<8:=by omega
       have hd8':(d:Int)<8:=by omega
       have hPq:=hP hd8 p hmem q hqm
       have L4:∀ (m4 i:Nat) (m:Int),q.list.length - i=m4→i≤q.list.length→m=tm g (q.list.take i) 0→ap.L4 σ K (I (d:Int)) (.ptr 0 0) (.ptr 1 0) (I (k:Int)) (.ptr c 0) (I (j:Int)) (.ptr H.n 0) (I m) (I (i:Int)) H2:=by
        intro m4
        induction m4 with
        | zero =>
         intro i m hm4 hi hm
         have e:i=q.list.length:=by omega
         subst e
         rw [List.take_length] at hm
         have hmb:=wm (g:=g) q.list 0 (by omega) (by omega) fun y hy=>(hg hd8 y (hPq y hy)).2
         rw [← hm] at hmb
         have fin:=hEnd H2 m (I (q.list.length:Int)) (by rw [if_neg h8]; exact hm) hmb.1 hmb.2 hI2 rfl (fun _=>rfl)
         refine ap.L4_step ?_
         simp only [bu,Nat.zero_add,aa,ll _ gq,bW,List.length_map,a_,Int.lt_irrefl,decide_false,ai,Bool.false_eq_true,if_false]
         exact ui (M:=1000000000) hI2.g1 (hs0.mono (by omega)) (by omega) hmb.1 hmb.2 fin
        | succ m4 ih4 =>
         intro i m hm4 hi hm
         have hil:i<q.list.length:=by omega
         have hil':(i:Int)<q.list.length:=by omega
         obtain ⟨y,hy⟩:=bp hil
         obtain ⟨hgy,_,_⟩:=hg hd8 y (hPq y (List.mem_of_getElem? hy))
         have hiy:az 1 (.imm 1 (q.list.map aH)) (I (i:Int))=some (.ip (aH y)):=bm hy
         have htop:tm g (q.list.take (i+1)) 0=if m<g y then g y else m:=by
          rw [List.take_add_one,hy,hm]
          simp only [tm,Option.toList_some,List.foldl_append,List.foldl_cons,List.foldl_nil]
          rfl
         have J5:∀ m',m'=tm g (q.list.take (i+1)) 0→ap.J5 σ K (I (d:Int)) (.ptr 0 0) (.ptr 1 0) (I (k:Int)) (.ptr c 0) (I (j:Int)) (.ptr H.n 0) (I m') (I (i:Int)) H2:=by
          intro m' hm'
          refine ap.J5_step ?_
          rw [bF,aa,cn hil hqw.1]
          exact ih4 (i+1) m' (by omega) (by omega) hm'
         refine ap.L4_step ?_
         simp only [bu,Nat.zero_add,aa,ll _ gq,bW,List.length_map,a_,hil',hd8',decide_true,ai,if_true,hiy,dX,lY,bF]
         rw [bq (by omega)]
         refine ak (hgy _) ?_
         simp only [eI,aa,ai]
         by_cases hlt:m<g y
         ·simp only [hlt,decide_true,if_true]
          exact J5 _ (by rw [htop,if_pos hlt])
         ·simp only [hlt,decide_false,Bool.false_eq_true,if_false]
          exact J5 _ (by rw [htop,if_neg hlt])
       exact L4 _ 0 0 rfl (Nat.zero_le _) rfl
     simp only [lk,aa,tF,ai]
     by_cases h7:q.kind=7
     ·simp only [h7,decide_true,Bool.not_true,Bool.false_eq_true,if_false]
      exact toL4 (.inl h7)
     by_cases h8:q.kind=8
     ·simp only [h8,decide_true,Bool.not_true,Bool.false_eq_true,if_false]
      have:=toL4 (.inr h8)
      split<;>exact this
     simp only [h7,h8,decide_false,Bool.not_false,if_true,OT,aa,M1 hI2.g1,bF]
     obtain ⟨⟨a0,a1⟩,⟨b0,b1⟩,c0,c1⟩:=hb
     rw [cM (by omega) (by omega)]
     refine Fy hI2.g1 _ fun H4 w4=>?_
     refine next H4 ⟨s.a,s.b+1,s.c⟩ _ _ _ ?_ ⟨⟨a0,by simp only; omega⟩,⟨by simp only; omega,by simp only; omega⟩,c0,by simp only; omega⟩ (hI2.step w4) (by rw [w4.n]; omega) (by rw [w4.o c (by omega)]; exact hgc2)
     unfold psW
     rw [if_pos ⟨h7,h8⟩]
   refine ap.L0_step ?_
   simp only [bu,Nat.zero_add,aa,l0 hI,bW,List.length_map,a_,hklt',decide_true,ai,if_true,hix,iJ,l5,bA]
   obtain ⟨H2,hH2⟩:∃ H2,H2=(H.new (.cells [.lit (.string ⟨#[]⟩),.lit (.slice none 0 0),.lit (.slice none 0 0),.lit (.slice none 0 0),.lit (.slice none 0 0)] true)).set H.n (some (.cells (bU p.c) true)):=⟨_,rfl⟩
   refine c7 (x:=H2) ?_ ?_
   ·rw [eV,hH2]
    simp only [bN,if_true,de,qW]
    rw [if_pos ⟨by decide,HE _⟩,Te _ rfl]
   have hI2:RI x (F k) H2:=by rw [hH2]; exact hI.new _ _
   have n2:H2.n=H.n+1:=by rw [hH2]; rfl
   have gc:H2.get H.n=some (.cells (bU p.c) true):=by rw [hH2]; simp
   have b2:2≤H.n:=hI.n
   clear hH2
   obtain ⟨f1,f2,f3,f4⟩:=hfp
   have hb':=hb
   obtain ⟨⟨a0,a1⟩,⟨b0,b1⟩,c0,c1⟩:=hb
   have g1:∀ H':Hp,H'.get H.n=some (.cells (bU p.c) true)→ldA false 1 H' (.ptr H.n 1)=some (cG p.c.ids):=fun H' h=>by rw [aL,h,aM,vd]
   have g2:∀ H':Hp,H'.get H.n=some (.cells (bU p.c) true)→ldA false 1 H' (.ptr H.n 2)=some (cG p.c.classes):=fun H' h=>by rw [aL,h,aM,xh]
   have g3:∀ H':Hp,H'.get H.n=some (.cells (bU p.c) true)→ldA false 1 H' (.ptr H.n 3)=some (.imm 3 (p.c.attrs.map dS)):=fun H' h=>by rw [aL,h,aM,Ki]
   have g0:∀ H':Hp,H'.get H.n=some (.cells (bU p.c) true)→ldA false 1 H' (.ptr H.n 0)=some (Sx p.c.tag):=fun H' h=>by rw [aL,h,aM,List.drop_zero,yR]
   simp only [Rq,OT,QI,aa,PG hI2.g1,g1 _ gc,kG,bF]
   rw [cM (by omega) (by omega)]
   refine Pi hI2.g1 _ fun H3 w3=>?_
   have gc3:=(w3.o H.n (by omega)).trans gc
   simp only [M1 w3.g,aa,g2 _ gc3,g3 _ gc3,kG,bW,List.length_map,bF]
   rw [cM (n:=(F k).b+p.c.classes.length) (by omega) (by omega),cM (by omega) (by omega)]
   refine Fy w3.g _ fun H4 w4=>?_
   have gc4:=(w4.o H.n (by omega)).trans gc3
   have n4:H4.n=H.n+1:=by rw [w4.n,w3.n,n2]
   have hI4:=(hI2.step w3).step w4
   have goL:∀ H5 s5,s5=kh (F k) p.c→RI x s5 H5→H5.n=H.n+1→H5.get H.n=some (.cells (bU p.c) true)→∀ y8 y9 y10 y11,ap.J1 σ K (I (d:Int)) (.ptr 0 0) (.ptr 1 0) (I (k:Int)) (.ptr H.n 0) y8 y9 y10 y11 H5:=by
    intro H5 s5 es hI5 n5 gc5 y8 y9 y10 y11
    refine ap.J1_step ?_
    exact L2 _ 0 H5 s5 H.n _ _ _ rfl (Nat.zero_le _) (by rw [es]; rfl) (by rw [es]; exact hls.mono (by omega)) hI5 b2 (by omega) gc5
   simp only [g0 _ gc4,aa,nv,ai,PY w4.g,bF]
   by_cases ht:p.c.tag=⟨#[]⟩
   ·simp only [ht,decide_true,Bool.not_true,Bool.false_eq_true,if_false]
    refine goL H4 _ ?_ hI4 n4 gc4 _ _ _ _
    unfold kh
    rw [if_neg (by simpa using ht)]
    simp only [Int.add_assoc]
   ·simp only [ht,decide_false,Bool.not_false,if_true]
    rw [cM (by omega) (by omega)]
    refine Pb w4.g _ fun H5 w5=>?_
    refine goL H5 _ ?_ (hI4.step w5) (by rw [w5.n,n4]) ((w5.o H.n (by omega)).trans gc4) _ _ _ _
    unfold kh
    rw [if_pos ht]
    simp only [Int.add_assoc]
 have run:∃ r H1,au Tryz.prog σ ev [.agg (aH x),I (d:Int)] Hp.empty r H1∧K r H1:=by
  refine ap.run ?_
  simp only [cJ,bA]
  have hF0:F 0=⟨0,0,0⟩:=by rw [hF]; rfl
  refine L0 _ 0 _ _ _ _ _ _ rfl (Nat.zero_le _) (by rw [hF0]; exact ⟨⟨by decide,by decide⟩,⟨by decide,by decide⟩,by decide,by decide⟩) ?_
  rw [hF0]
  exact ⟨by simp [Hp.empty],by simp [Hp.empty]; rfl,Nat.le_refl 2⟩
 obtain ⟨r,H1,hg',hh⟩:=run
 obtain ⟨rfl,hb⟩:=(hK _ _).1 hh
 exact ⟨fun H=>hg'.over (by simp [aK,bt,gP]) rfl H,hb⟩
end
theorem Pf:∀ (e:Nat) (d:Nat),d+e=8→∀ (f:Nat) (x:Sl),e≤f→lu c6 x→pF f x→(∀ H,au Tryz.prog σ ev [.agg (aH x),I (d:Int)] H (I (ofW e x)) H)∧0≤ofW e x∧ofW e x≤16777215
 | 0,d,hd,f,x,hf,hw,hfit=>by
  have hd8:d=8:=by omega
  subst hd8
  exact Az (P:=fun _=>False) (by decide) (g:=fun _=>0) (fun h=>absurd h (by decide)) x hw (by have:=hfit.1; omega) (fun p hp=>(hfit.2 p hp).1.wide) (fun h=>absurd h (by decide))
 | e+1,d,hd,f,x,hf,hw,hfit=>by
  have h:=Az (σ:=σ) (d:=d) (P:=fun y=>lu c6 y∧pF (f - 1) y) (by omega) (g:=ofW e) (fun _ y hy=>Pf e (d+1) (by omega) (f - 1) y (by omega) hy.1 hy.2) x hw (by have:=hfit.1; omega) (fun p hp=>(hfit.2 p hp).1.wide) (fun _ p hp q hq y hy=>by
   have hpw:=(Pt.wf_iff.1 (hw.2 p hp)).2
   have hqw:=(Ps.wf_iff.1 (hpw.ps q hq)).2.2.2
   refine ⟨hqw.2 y hy,?_⟩
   have:=(hfit.2 p hp).2 q hq
   obtain ⟨f',rfl⟩:∃ f',f=f'+1:=⟨f - 1,by omega⟩
   exact this y hy)
  have e8:decide (d=8)=false:=decide_eq_false (by omega)
  rw [e8] at h
  exact h
theorem Ch {f:Nat} {x:Sl} (hf:8≤f) (hw:lu c6 x) (hfit:pF f x) (H:Hp):au Tryz.prog σ jN [.agg (aH x)] H (I (ofW 8 x)) H:=by
 refine kD (nL.run ?_) (by simp [aK,bt,gP]) rfl H
 simp only [cJ]
 have l1:ldA true 1 (Hp.empty.new (.cells (aH x) true)) (.ptr Hp.empty.n 0)=some (.agg (aH x)):=by simp [Hp.empty]
 rw [l1,aa]
 exact ak ((Pf 8 0 rfl f x hf hw hfit).1 _) rfl
end Go.Proofs.YthdcghnjndhecaaGreat.Ev
namespace Go.Proofs.YthdcghnjndhecaaGreat.Ev
set_option linter.unusedVariables false
set_option linter.unusedSimpArgs false
variable {σ:Sig}
structure o3 (l:List Sl):Prop where
 len:l.length≤2000000
 ok:∀ s ∈ l,vk 11 [s]∧TxL 11 [s]
 wf:∀ s ∈ l,lu c6 s
 fit:∀ s ∈ l,pF 10 s
theorem zl {s:Sl} (hw:lu c6 s) (hf:pF 10 s):0≤ofW 8 s∧ofW 8 s≤16777215:=(CS (σ:=⟨fun _=>0,fun _=>false,fun _=>⟨#[]⟩,none⟩) 8 (by decide) 10 s (by decide) hw hf).2
def dx (L:List Nd) (e:Int):List Sl→Int × Bool→Int × Bool
 | [],a=>a
 | s::r,a=>dx L e r (if nS L 11 s e then (if a.1<ofW 8 s then ofW 8 s else a.1,true) else a)
section
attribute [local irreducible] bL.L0 bL.J1 aB.L0 aB.J1 aB.J2
theorem LY {L:List Nd} {d:List Nat} (M:McT σ L d) {l:List Sl} (hl:o3 l) (e:Int) (H:Hp) :
  au Tryz.prog σ kw [cx L d,I e,sls l] H (.tup [I (dx L e l (0,false)).1,Bo (dx L e l (0,false)).2]) H:=by
 refine bg (fun K hK=>bL.run ?_) (by simp [aK,bt,cU]) rfl H
 have hll:=hl.len
 rw [kv,aa]
 have L0:∀ (f k:Nat) (H:Hp) (a:Int × Bool),l.length - k=f→k≤l.length→dx L e (l.drop k) a=dx L e l (0,false)→bL.L0 σ K (cx L d) (I e) (I a.1) (Bo a.2) (sls l) (I (l.length:Int)) (I (k:Int)) H:=by
  intro f
  induction f with
  | zero =>
   intro k H a hf hk ha
   have:k=l.length:=by omega
   subst this
   rw [List.drop_length] at ha
   refine bL.L0_step ?_
   simp only [a_,aa,Int.lt_irrefl,decide_false,ai,Bool.false_eq_true,if_false]
   rw [← ha] at hK
   exact hK _
  | succ f ih =>
   intro k H a hf hk ha
   have hlt:k<l.length:=by omega
   have hlt':(k:Int)<l.length:=by omega
   obtain ⟨s,hs⟩:=bp hlt
   have hsm:=List.mem_of_getElem? hs
   have hix:az 1 (sls l) (I (k:Int))=some (.ip (aH s)):=bm hs
   rw [bK hs,dx] at ha
   refine bL.L0_step ?_
   simp only [a_,aa,hlt',decide_true,ai,if_true,hix,dX,lY,bA]
   obtain ⟨H2,hH2⟩:∃ H2,H2=(H.new (.cells [.lit (.slice none 0 0)] true)).set H.n (some (.cells (aH s) true)):=⟨_,rfl⟩
   refine c7 (x:=H2) ?_ ?_
   ·rw [eV,hH2]
    simp only [bN,if_true]
    rfl
   have hl2:ldA true 1 H2 (.ptr H.n 0)=some (.agg (aH s)):=by rw [hH2]; simp
   have next:∀ (H:Hp) (a:Int × Bool),dx L e (l.drop (k+1)) a=dx L e l (0,false)→bL.J1 σ K (cx L d) (I e) (I a.1) (Bo a.2) (sls l) (I (l.length:Int)) (I (k:Int)) H:=by
    intro H a ha
    refine bL.J1_step ?_
    rw [bF,aa,bq (by omega)]
    exact ih (k+1) H a (by omega) (by omega) ha
   rw [hl2,aa]
   obtain ⟨S,X⟩:=hl.ok s hsm
   refine ak (PZ M S e _) ?_
   simp only [ai]
   cases hsel:nS L 11 s e with
   | false =>
    rw [hsel] at ha
    simp only [Bool.false_eq_true,if_false] at ha ⊢
    exact next _ a ha
   | true =>
    rw [hsel] at ha
    simp only [if_true] at ha ⊢
    rw [hl2,aa]
    refine ak (Se (f:=10) (by decide) (hl.wf s hsm) (hl.fit s hsm) _) ?_
    have hmax:wz [I a.1,I (ofW 8 s)]=some (I (if a.1<ofW 8 s then ofW 8 s else a.1)):=by simp [wz,toI,lK]
    rw [hmax,aa]
    exact next _ (_,true) ha
 exact L0 _ 0 _ (0,false) rfl (Nat.zero_le _) rfl
theorem EQ {L:List Nd} {d:List Nat} (M:McT σ L d) {l:List Sl} (hl:o3 l) (e:Int) (H:Hp) :
  au Tryz.prog σ gX [dl L d,I e,sls l] H (.tup [I (dx L e l (0,false)).1,Bo (dx L e l (0,false)).2]) H:=by
 refine bg (fun K hK=>aB.run ?_) (by simp [aK,bt,dC]) rfl H
 have hll:=hl.len
 have L0:∀ (f k:Nat) (H:Hp) (a:Int × Bool),l.length - k=f→k≤l.length→(a.2=false→a.1=0)→dx L e (l.drop k) a=dx L e l (0,false)→aB.L0 σ K (dl L d) (I e) (sls l) (I a.1) (Bo a.2) (I (k:Int)) H:=by
  intro f
  induction f with
  | zero =>
   intro k H a hf hk hz ha
   have:k=l.length:=by omega
   subst this
   rw [List.drop_length] at ha
   refine aB.L0_step ?_
   simp only [kv,a_,aa,Int.lt_irrefl,decide_false,ai,Bool.false_eq_true,if_false]
   rw [← ha] at hK
   exact hK _
  | succ f ih =>
   intro k H a hf hk hz ha
   have hlt:k<l.length:=by omega
   have hlt':(k:Int)<l.length:=by omega
   obtain ⟨s,hs⟩:=bp hlt
   have hsm:=List.mem_of_getElem? hs
   have hix:az 1 (sls l) (I (k:Int))=some (.ip (aH s)):=bm hs
   rw [bK hs,dx] at ha
   have J2:∀ (H:Hp) (a:Int × Bool),(a.2=false→a.1=0)→dx L e (l.drop (k+1)) a=dx L e l (0,false)→aB.J2 σ K (dl L d) (I e) (sls l) (I a.1) (Bo a.2) (I (k:Int)) H:=by
    intro H a hz ha
    refine aB.J2_step ?_
    rw [bF,aa,bq (by omega)]
    exact ih (k+1) H a (by omega) (by omega) hz ha
   have J1:∀ (H:Hp) (n:Int) (y9:AV),dx L e (l.drop (k+1)) (n,true)=dx L e l (0,false)→aB.J1 σ K (dl L d) (I e) (sls l) (I n) y9 (I (k:Int)) H:=by
    intro H n y9 ha
    refine aB.J1_step ?_
    exact J2 H (n,true) (fun h=>by cases h) ha
   obtain ⟨S,X⟩:=hl.ok s hsm
   have hw:=zl (hl.wf s hsm) (hl.fit s hsm)
   refine aB.L0_step ?_
   simp only [kv,a_,aa,hlt',decide_true,ai,if_true,hix,dX,lY]
   refine ak (Ab M S X e _) ?_
   simp only [ai]
   cases hsel:nS L 11 s e with
   | false =>
    rw [hsel] at ha
    simp only [Bool.false_eq_true,if_false] at ha ⊢
    exact J2 _ a hz ha
   | true =>
    rw [hsel] at ha
    simp only [if_true] at ha ⊢
    refine ak (Ch (f:=10) (by decide) (hl.wf s hsm) (hl.fit s hsm) _) ?_
    simp only [eM,aa,ai]
    cases h2:a.2 with
    | false =>
     have h1:=hz h2
     have:(if a.1<ofW 8 s then ofW 8 s else a.1)=ofW 8 s:=by split<;>omega
     rw [this] at ha
     simp only [Bool.not_false,if_true]
     exact J1 _ _ _ ha
    | true =>
     simp only [Bool.not_true,Bool.false_eq_true,if_false,eI,aa,ai]
     by_cases hlt:a.1<ofW 8 s
     ·rw [if_pos hlt] at ha
      simp only [hlt,decide_true,if_true]
      exact J1 _ _ _ ha
     ·rw [if_neg hlt] at ha
      simp only [hlt,decide_false,Bool.false_eq_true,if_false]
      exact J1 _ _ _ ha
 exact L0 _ 0 _ (0,false) rfl (Nat.zero_le _) (fun _=>rfl) rfl
end
end Go.Proofs.YthdcghnjndhecaaGreat.Ev
namespace Go.Proofs.YthdcghnjndhecaaGreat.Ev
set_option linter.unusedVariables false
set_option linter.unusedSimpArgs false
variable {σ:Sig}
structure Wn where
 o:List Int
 w:List Int
 t:List Bool
structure Wn.Ok (s:Wn):Prop where
 o:s.o.length=16
 w:s.w.length=8
 t:s.t.length=8
def iO (w:Int) (s:Wn) (q:ST):Wn :=
 if q.prop<0∨8≤q.prop then s
 else if s.t.getD q.prop.toNat false=true∧(if q.imp then w+1073741824 else w)<s.w.getD q.prop.toNat 0 then s
 else ⟨(s.o.set (q.prop.toNat*2) q.kind).set (q.prop.toNat*2+1) q.n,s.w.set q.prop.toNat (if q.imp then w+1073741824 else w),s.t.set q.prop.toNat true⟩
def iI (L:List Nd) (e:Int) (s:Wn) (r:RL):Wn:=if (dx L e r.sels (0,false)).2 then r.sets.foldl (iO (dx L e r.sels (0,false)).1) s else s
def wn0:Wn:=⟨List.replicate 16 0,List.replicate 8 0,List.replicate 8 false⟩
def ln (L:List Nd) (e:Int) (m:List RL):Wn:=m.foldl (iI L e) wn0
theorem pT {w:Int} {s:Wn} {q:ST} (h:s.Ok):(iO w s q).Ok:=by
 unfold iO
 generalize (if q.imp=true then w+1073741824 else w)=x
 split
 ·exact h
 split
 ·exact h
 ·exact ⟨by simp [h.o],by simp [h.w],by simp [h.t]⟩
theorem HR:∀ (cs:List AV) (i:Nat) (x y:AV),i+1<cs.length→bO cs i [x,y]=(cs.set i x).set (i+1) y:=by
 intro cs i x y h
 unfold bO
 apply List.ext_getElem?
 intro j
 simp only [List.getElem?_append,List.length_take,List.length_append,List.getElem?_take,List.getElem?_drop,List.getElem?_set,List.length_set,List.length_cons,List.length_nil]
 have hm:min i cs.length=i:=by omega
 rw [hm]
 by_cases h1:j<i
 ·have:j<i+(0+1+1):=by omega
  have e1:i+1≠j:=by omega
  have e2:i≠j:=by omega
  simp [h1,this,e1,e2]
 ·by_cases h2:j=i
  ·subst h2
   have:j<cs.length:=by omega
   simp [this]
  ·by_cases h3:j=i+1
   ·subst h3
    have e1:¬ i+1<i:=by omega
    simp [h,e1]
   ·have e1:¬ j<i+(0+1+1):=by omega
    have e2:i+1≠j:=by omega
    have e3:i≠j:=by omega
    simp [e1,e2,e3]
    congr 1
    omega
structure WI (s:Wn) (H:Hp):Prop where
 g0:H.get 0=some (.cells (List.replicate 16 (I 0)) true)
 g1:H.get 1=some (.cells (s.o.map I) true)
 g2:H.get 2=some (.cells (s.w.map I) true)
 g3:H.get 3=some (.cells (s.t.map Bo) true)
 n:4≤H.n
theorem WI.new {s:Wn} {H:Hp} (h:WI s H) (b:Blk) (o:Option Blk):WI s ((H.new b).set H.n o):=by
 have:=h.n
 have e0:(0:Nat)≠H.n:=by omega
 have e1:(1:Nat)≠H.n:=by omega
 have e2:(2:Nat)≠H.n:=by omega
 have e3:(3:Nat)≠H.n:=by omega
 refine ⟨?_,?_,?_,?_,?_⟩
 ·simp [e0,h.g0]
 ·simp [e1,h.g1]
 ·simp [e2,h.g2]
 ·simp [e3,h.g3]
 ·show 4≤H.n+1
  omega
theorem rf (l:List Int) (i:Nat) (x:Int):(l.map I).set i (I x)=(l.set i x).map I:=by rw [List.map_set]
section
attribute [local irreducible] aj.L0 aj.J1 aj.L2 aj.J3 aj.J4
theorem zd {L:List Nd} {d:List Nat} (M:McT σ L d) {m:List RL} (hm:∀ r ∈ m,o3 r.sels∧r.sets.length≤30) (hlen:m.length≤30) (e:Int) (H:Hp) :
  au Tryz.prog σ fu [dl L d,I e,rls m] H (.agg ((ln L e m).o.map I)) H:=by
 have hno:bt (.agg ((ln L e m).o.map I))=true:=by
  simp only [bt]
  generalize (ln L e m).o=o
  induction o with
  | nil=>rfl
  | cons a r ih=>simp only [List.map_cons,aK,bt,Bool.true_and]; exact ih
 refine qz (fun K hK=>aj.run ?_) (by simp [aK,bt,dC]) hno H
 simp only [bA]
 obtain ⟨F,hF⟩:∃ F:Nat→Wn,∀ k,F k=(m.take k).foldl (iI L e) wn0:=⟨_,fun _=>rfl⟩
 have L0:∀ (f k:Nat) (H:Hp) (y11 y13 y14 y15:AV),m.length - k=f→k≤m.length→(F k).Ok→WI (F k) H→aj.L0 σ K (dl L d) (I e) (rls m) (.ptr 0 0) (.ptr 1 0) (.ptr 2 0) (.ptr 3 0) (I (k:Int)) y11 y13 y14 y15 H:=by
  intro f
  induction f with
  | zero =>
   intro k H y11 y13 y14 y15 hf hk hok hI
   have:k=m.length:=by omega
   subst this
   have eF:F m.length=ln L e m:=by rw [hF,List.take_length]; rfl
   rw [eF] at hok hI
   have l1:ldA true 16 H (.ptr 1 0)=some (.agg ((ln L e m).o.map I)):=by
    rw [aL,hI.g1,aM,List.drop_zero]
    exact dg (by simp [hok.o])
   refine aj.L0_step ?_
   simp only [lU,a_,aa,Int.lt_irrefl,decide_false,ai,Bool.false_eq_true,if_false,l1]
   have hone:((ln L e m).o.map I).all AV.one=true:=by
    rw [List.all_eq_true]
    intro x hx
    obtain ⟨n,_,rfl⟩:=List.mem_map.1 hx
    rfl
   refine c7 (x:=H.set 0 (some (.cells ((ln L e m).o.map I) true))) ?_ ?_
   ·rw [eV,if_pos (by simp [hok.o]),hI.g0,de,if_pos ⟨by simp [hok.o],hone⟩,bj (by simp [hok.o])]
   have l2:ldA true 16 (H.set 0 (some (.cells ((ln L e m).o.map I) true))) (.ptr 0 0)=some (.agg ((ln L e m).o.map I)):=by
    rw [aL,ay,if_pos rfl,aM,List.drop_zero]
    exact dg (by simp [hok.o])
   rw [l2,aa]
   exact hK _
  | succ f ih =>
   intro k H y11 y13 y14 y15 hf hk hok hI
   have hlt:k<m.length:=by omega
   have hlt':(k:Int)<m.length:=by omega
   obtain ⟨r,hr⟩:=bp hlt
   have hrm:=List.mem_of_getElem? hr
   obtain ⟨hws,h30⟩:=hm r hrm
   have hix:az 2 (rls m) (I (k:Int))=some (.ip (d8 r)):=bm hr
   have lr:∀ H:Hp,ldA false 1 H (.ip (d8 r))=some (sls r.sels):=fun _=>rfl
   have ls:∀ H:Hp,ldA false 1 H (.ip ((d8 r).drop 1))=some (.imm 4 (r.sets.map dk)):=fun _=>rfl
   have hFk:F (k+1)=iI L e (F k) r:=by
    rw [hF,hF,List.take_add_one,hr]
    simp only [Option.toList_some,List.foldl_append,List.foldl_cons,List.foldl_nil]
   have J1:∀ (H:Hp) (y11 y13 y14 y15:AV),(F (k+1)).Ok→WI (F (k+1)) H→aj.J1 σ K (dl L d) (I e) (rls m) (.ptr 0 0) (.ptr 1 0) (.ptr 2 0) (.ptr 3 0) (I (k:Int)) y11 y13 y14 y15 H:=by
    intro H y11 y13 y14 y15 h1 h2
    refine aj.J1_step ?_
    rw [bF,aa,bq (by omega)]
    exact ih (k+1) H _ _ _ _ (by omega) (by omega) h1 h2
   refine aj.L0_step ?_
   simp only [lU,a_,aa,hlt',decide_true,ai,if_true,hix,iJ,List.drop_zero,lr]
   refine ak (EQ M hws e _) ?_
   obtain ⟨bw,hbw⟩:∃ bw,bw=dx L e r.sels (0,false):=⟨_,rfl⟩
   rw [← hbw]
   simp only [qc,List.getElem?_cons_zero,List.getElem?_cons_succ,aa,eM,ai]
   cases hb2:bw.2 with
   | false =>
    simp only [Bool.not_false,if_true]
    have:F (k+1)=F k:=by rw [hFk]; unfold iI; rw [← hbw,hb2]; rfl
    refine J1 H _ _ _ _ ?_ ?_<;>rw [this]
    ·exact hok
    ·exact hI
   | true =>
    simp only [Bool.not_true,Bool.false_eq_true,if_false]
    have hFk2:F (k+1)=r.sets.foldl (iO bw.1) (F k):=by rw [hFk]; unfold iI; rw [← hbw,hb2]; rfl
    have hbnd:0≤bw.1∧bw.1≤16777215:=by
     have:∀ (l:List Sl) (a:Int × Bool),(∀ s ∈ l,lu c6 s∧pF 10 s)→0≤a.1∧a.1≤16777215→0≤(dx L e l a).1∧(dx L e l a).1≤16777215:=by
      intro l
      induction l with
      | nil=>intro a _ h; exact h
      | cons s l ih =>
       intro a hl h
       rw [dx]
       refine ih _ (fun s' hs=>hl s' (by simp [hs])) ?_
       have:=zl (hl s (by simp)).1 (hl s (by simp)).2
       split
       ·simp only
        split<;>omega
       ·exact h
     rw [hbw]
     exact this _ _ (fun s hs=>⟨hws.wf s hs,hws.fit s hs⟩) ⟨by decide,by decide⟩
    have L2:∀ (g i:Nat) (H:Hp) (s:Wn) (y14 y15:AV),r.sets.length - i=g→i≤r.sets.length→s=(r.sets.take i).foldl (iO bw.1) (F k)→s.Ok→WI s H→aj.L2 σ K (dl L d) (I e) (rls m) (.ptr 0 0) (.ptr 1 0) (.ptr 2 0) (.ptr 3 0) (I (k:Int)) (I bw.1) (I (i:Int)) y14 y15 H:=by
     intro g
     induction g with
     | zero =>
      intro i H s y14 y15 hg hi hs hok hI
      have:i=r.sets.length:=by omega
      subst this
      rw [List.take_length,← hFk2] at hs
      subst hs
      refine aj.L2_step ?_
      simp only [hix,aa,iJ,ls,bW,List.length_map,a_,Int.lt_irrefl,decide_false,ai,Bool.false_eq_true,if_false]
      exact J1 H _ _ _ _ hok hI
     | succ g ihg =>
      intro i H s y14 y15 hg hi hs hok hI
      have hil:i<r.sets.length:=by omega
      have hil':(i:Int)<r.sets.length:=by omega
      obtain ⟨q,hq⟩:=bp hil
      have hiq:az 4 (.imm 4 (r.sets.map dk)) (I (i:Int))=some (.ip (dk q)):=bm hq
      have l4:∀ H:Hp,ldA true 4 H (.ip (dk q))=some (.agg (dk q)):=fun _=>rfl
      have hst:(r.sets.take (i+1)).foldl (iO bw.1) (F k)=iO bw.1 s q:=by
       rw [List.take_add_one,hq]
       simp only [Option.toList_some,List.foldl_append,List.foldl_cons,List.foldl_nil]
       rw [← hs]
      have J4:∀ (H:Hp) (y14 y15:AV),WI (iO bw.1 s q) H→aj.J4 σ K (dl L d) (I e) (rls m) (.ptr 0 0) (.ptr 1 0) (.ptr 2 0) (.ptr 3 0) (I (k:Int)) (I bw.1) (I (i:Int)) y14 y15 H:=by
       intro H y14 y15 h2
       refine aj.J4_step ?_
       rw [bF,aa,bq (by omega)]
       exact ihg (i+1) H _ _ _ (by omega) (by omega) hst.symm (pT hok) h2
      refine aj.L2_step ?_
      simp only [hix,aa,iJ,ls,bW,List.length_map,a_,hil',decide_true,ai,if_true,hiq,l4,bA]
      obtain ⟨H2,hH2⟩:∃ H2,H2=(H.new (.cells [I 0,I 0,I 0,.lit (.bool false)] true)).set H.n (some (.cells (dk q) true)):=⟨_,rfl⟩
      refine c7 (x:=H2) ?_ ?_
      ·rw [eV,hH2]
       simp only [bN,if_true]
       rfl
      have hI2:WI s H2:=by rw [hH2]; exact hI.new _ _
      have n2:H2.n=H.n+1:=by rw [hH2]; rfl
      have gq:H2.get H.n=some (.cells (dk q) true):=by rw [hH2]; simp
      have b4:4≤H.n:=hI.n
      clear hH2
      have p3:ldA false 1 H2 (.ptr H.n 3)=some (Bo q.imp):=by rw [aL,gq,aM,Hu]
      have p0:∀ H':Hp,H'.get H.n=some (.cells (dk q) true)→ldA false 1 H' (.ptr H.n 0)=some (I q.prop):=fun H' h=>by rw [aL,h,aM,List.drop_zero,KM]
      have pv:∀ H':Hp,H'.get H.n=some (.cells (dk q) true)→ldA true 2 H' (.ptr H.n 1)=some (.agg [I q.kind,I q.n]):=fun H' h=>by rw [aL,h]; rfl
      have J3:∀ x:Int,x=(if q.imp then bw.1+1073741824 else bw.1)→aj.J3 σ K (dl L d) (I e) (rls m) (.ptr 0 0) (.ptr 1 0) (.ptr 2 0) (.ptr 3 0) (I (k:Int)) (I bw.1) (I (i:Int)) (.ptr H.n 0) (I x) H2:=by
       intro x hx
       refine aj.J3_step ?_
       simp only [bu,Nat.zero_add,aa,p0 _ gq,a_,ai,im]
       by_cases h1:q.prop<0
       ·simp only [h1,decide_true,if_true]
        exact J4 _ _ _ (by unfold iO; rw [if_pos (.inl h1)]; exact hI2)
       simp only [h1,decide_false,Bool.false_eq_true,if_false]
       by_cases h2:8≤q.prop
       ·simp only [h2,decide_true,if_true]
        exact J4 _ _ _ (by unfold iO; rw [if_pos (.inr h2)]; exact hI2)
       simp only [h2,decide_false,Bool.false_eq_true,if_false]
       obtain ⟨p,hp⟩:∃ p:Nat,q.prop=p:=⟨q.prop.toNat,by omega⟩
       have hp8:p<8:=by omega
       have hpt:q.prop.toNat=p:=by omega
       have i9:aX 8 1 (.ptr 3 0) (.lit (.int .i64 (p:Int)))=some (.ptr 3 p):=by rw [ni hp8]; simp
       have i8:aX 8 1 (.ptr 2 0) (.lit (.int .i64 (p:Int)))=some (.ptr 2 p):=by rw [ni hp8]; simp
       have i7:aX 8 2 (.ptr 1 0) (.lit (.int .i64 (p:Int)))=some (.ptr 1 (p*2)):=by rw [ni hp8]; simp
       have t3:ldA false 1 H2 (.ptr 3 p)=some (Bo (s.t.getD p false)):=by
        rw [aL,hI2.g3,aM]
        have hl:p<s.t.length:=by rw [hok.t]; exact hp8
        rw [← List.map_drop,List.drop_eq_getElem_cons hl,List.map_cons,List.getD_eq_getElem?_getD,List.getElem?_eq_getElem hl]
        rfl
       have t2:ldA false 1 H2 (.ptr 2 p)=some (I (s.w.getD p 0)):=by
        rw [aL,hI2.g2,aM]
        have hl:p<s.w.length:=by rw [hok.w]; exact hp8
        rw [← List.map_drop,List.drop_eq_getElem_cons hl,List.map_cons,List.getD_eq_getElem?_getD,List.getElem?_eq_getElem hl]
        rfl
       have go:¬ (s.t.getD p false=true∧x<s.w.getD p 0)→∀ y14 y15:AV,
         bnd (stA 2 H2 (.ptr 1 (p*2)) (.agg [I q.kind,I q.n])) fun H21=>bnd (ldA false 1 H21 (.ptr H.n 0)) fun x23=>bnd (aX 8 1 (.ptr 2 0) x23) fun x24=>bnd (stA 1 H21 x24 (I x)) fun H25=>bnd (ldA false 1 H25 (.ptr H.n 0)) fun x27=>bnd (aX 8 1 (.ptr 3 0) x27) fun x28=>bnd (stA 1 H25 x28 (Bo true)) fun H29=>aj.J4 σ K (dl L d) (I e) (rls m) (.ptr 0 0) (.ptr 1 0) (.ptr 2 0) (.ptr 3 0) (I (k:Int)) (I bw.1) (I (i:Int)) y14 y15 H29:=by
        intro hno y14 y15
        have hol:p*2+1<(s.o.map I).length:=by rw [List.length_map,hok.o]; omega
        refine c7 (x:=H2.set 1 (some (.cells (((s.o.set (p*2) q.kind).set (p*2+1) q.n).map I) true))) ?_ ?_
        ·rw [eV,if_pos (by rfl),hI2.g1,de,if_pos ⟨by simp only [List.length_cons,List.length_nil]; omega,rfl⟩,HR _ _ _ _ hol,rf,rf]
        have n1:H.n≠1:=by omega
        have nn2:H.n≠2:=by omega
        have ga:=gq
        have gA:(H2.set 1 (some (.cells (((s.o.set (p*2) q.kind).set (p*2+1) q.n).map I) true))).get H.n=some (.cells (dk q) true):=by simp [n1,gq]
        rw [p0 _ gA,aa,hp,i8,aa]
        have gB:(H2.set 1 (some (.cells (((s.o.set (p*2) q.kind).set (p*2+1) q.n).map I) true))).get 2=some (.cells (s.w.map I) true):=by simp [hI2.g2]
        rw [pp gB rfl rfl rfl (by rw [List.length_map,hok.w]; exact hp8),aa,rf]
        obtain ⟨HB,hHB⟩:∃ HB,HB=(H2.set 1 (some (.cells (((s.o.set (p*2) q.kind).set (p*2+1) q.n).map I) true))).set 2 (some (.cells ((s.w.set p x).map I) true)):=⟨_,rfl⟩
        rw [← hHB]
        have gC:HB.get H.n=some (.cells (dk q) true):=by rw [hHB,ay,if_neg nn2]; exact gA
        rw [p0 _ gC,aa,hp,i9,aa]
        have gD:HB.get 3=some (.cells (s.t.map Bo) true):=by rw [hHB]; simp [hI2.g3]
        rw [pp gD rfl rfl rfl (by rw [List.length_map,hok.t]; exact hp8),aa]
        refine J4 _ _ _ ?_
        have hset:iO bw.1 s q=⟨(s.o.set (p*2) q.kind).set (p*2+1) q.n,s.w.set p x,s.t.set p true⟩:=by
         unfold iO
         rw [if_neg (by omega),hpt,← hx,if_neg hno]
        rw [hset]
        refine ⟨?_,?_,?_,?_,?_⟩
        ·rw [ay,if_neg (by decide),hHB]; simp [hI2.g0]
        ·rw [ay,if_neg (by decide),hHB]; simp
        ·rw [ay,if_neg (by decide),hHB]; simp
        ·rw [ay,if_pos rfl,List.map_set]
        ·show 4≤HB.n
         rw [hHB]
         exact hI2.n
       rw [hp]
       simp only [i9,i8,i7,t3,t2,aa,ai,p0 _ gq,pv _ gq,a_]
       cases ht:s.t.getD p false with
       | false =>
        simp only [Bool.false_eq_true,if_false]
        have hg:=go (by rw [ht]; simp) (.ptr H.n 0) (I x)
        exact hg
       | true =>
        simp only [if_true]
        by_cases hlt:x<s.w.getD p 0
        ·simp only [hlt,decide_true,if_true]
         refine J4 _ _ _ ?_
         have hset:iO bw.1 s q=s:=by
          unfold iO
          rw [if_neg (by omega),hpt,← hx,if_pos ⟨ht,hlt⟩]
         rw [hset]
         exact hI2
        ·simp only [hlt,decide_false,Bool.false_eq_true,if_false]
         exact go (by rw [ht]; simpa using hlt) (.ptr H.n 0) (I x)
      simp only [bu,Nat.zero_add,aa,p3,ai]
      cases hi':q.imp with
      | true =>
       simp only [if_true,bF,aa]
       rw [cM (by omega) (by omega)]
       exact J3 _ (by rw [hi']; rfl)
      | false =>
       simp only [Bool.false_eq_true,if_false]
       exact J3 _ (by rw [hi']; rfl)
    exact L2 _ 0 H (F k) _ _ rfl (Nat.zero_le _) rfl hok hI
 have hF0:F 0=wn0:=by rw [hF]; rfl
 refine L0 _ 0 _ _ _ _ _ rfl (Nat.zero_le _) ?_ ?_
 ·rw [hF0]; exact ⟨rfl,rfl,rfl⟩
 ·rw [hF0]
  refine ⟨?_,?_,?_,?_,?_⟩
  ·simp [Hp.empty]
  ·simp [Hp.empty,wn0]
  ·simp [Hp.empty,wn0]
  ·simp [Hp.empty,wn0]
  ·exact Nat.le_refl 4
end
end Go.Proofs.YthdcghnjndhecaaGreat.Ev
namespace Go.Proofs.YthdcghnjndhecaaGreat.Ev
set_option linter.unusedVariables false
set_option linter.unusedSimpArgs false
variable {σ:Sig}
structure Cn where
 prop:Int
 kind:Int
 n:Int
 imp:Bool
 wt:Int
def cz (c:Cn):List AV:=[I c.prop,I c.kind,I c.n,Bo c.imp,I c.wt]
def cn0:Cn:=⟨0,0,0,false,0⟩
def Cn.x (c:Cn):Int:=if c.imp then c.wt+1073741824 else c.wt
theorem GC (c d:Cn) (H:Hp):au Tryz.prog σ dv [.agg (cz c),.agg (cz d)] H (Bo (if c.imp=d.imp then decide (d.wt≤c.wt) else c.imp)) H:=by
 refine bg (fun K hK=>fF.run ?_) (by simp [aK,bt,cz]) rfl H
 simp only [cJ]
 have h0:((Hp.empty.new (.cells (cz c) true)).new (.cells (cz d) true)).get 0=some (.cells (cz c) true):=by simp [Hp.empty]
 have h1:((Hp.empty.new (.cells (cz c) true)).new (.cells (cz d) true)).get 1=some (.cells (cz d) true):=by simp [Hp.empty]
 have e0:Hp.empty.n=0:=rfl
 have e1:(Hp.empty.new (.cells (cz c) true)).n=1:=rfl
 rw [e0,e1]
 have l1:ldA false 1 ((Hp.empty.new (.cells (cz c) true)).new (.cells (cz d) true)) (.ptr 0 (0+0+3))=some (Bo c.imp):=by rw [aL,h0]; rfl
 have l2:ldA false 1 ((Hp.empty.new (.cells (cz c) true)).new (.cells (cz d) true)) (.ptr 1 (0+0+3))=some (Bo d.imp):=by rw [aL,h1]; rfl
 have l3:ldA false 1 ((Hp.empty.new (.cells (cz c) true)).new (.cells (cz d) true)) (.ptr 0 (0+4))=some (I c.wt):=by rw [aL,h0]; rfl
 have l4:ldA false 1 ((Hp.empty.new (.cells (cz c) true)).new (.cells (cz d) true)) (.ptr 1 (0+4))=some (I d.wt):=by rw [aL,h1]; rfl
 simp only [bu,aa,l1,l2,l3,l4,L9,ai,im]
 by_cases h:c.imp=d.imp
 ·rw [if_pos h] at hK
  simp only [h,beq_self_eq_true,Bool.not_true,Bool.false_eq_true,if_false]
  exact hK _
 ·rw [if_neg h] at hK
  have:(c.imp == d.imp)=false:=by simpa using h
  simp only [this,Bool.not_false,if_true]
  exact hK _
structure RS (n:Nat) (t e l x a:AV) (js:Nat→AV) (bs:List Cn) (s:Wn) (H:Hp):Prop where
 gt:H.get n=some (.cells [t] true)
 ge:H.get (n+1)=some (.cells [e] true)
 gl:H.get (n+2)=some (.cells [l] true)
 gx:H.get (n+3)=some (.cells [x] true)
 ga:H.get (n+4)=some (.cells [a] true)
 gr:H.get (n+5)=some (.cells (List.replicate 16 (I 0)) true)
 go:H.get (n+6)=some (.cells (s.o.map I) true)
 gb:H.get (n+7)=some (.cells (bs.map cz).flatten true)
 gs:H.get (n+8)=some (.cells (s.t.map Bo) true)
 lp:H.get (n+9)=some (.loop (aS.R0 js (.ptr (n+6) 0) (.ptr (n+7) 0) (.ptr (n+8) 0)) .ready none)
 up:n+10≤H.n
 ok:s.Ok
 bl:bs.length=8
 bw:∀ p,p<8→s.t.getD p false=true→∃ c,bs[p]?=some c∧c.x=s.w.getD p 0∧0≤c.wt∧c.wt≤16777215
theorem RS.keep {n:Nat} {t e l x a:AV} {js:Nat→AV} {bs:List Cn} {s:Wn} {H H':Hp} (h:RS n t e l x a js bs s H) (hg:∀ j,n≤j→j<n+10→H'.get j=H.get j) (hn:H.n≤H'.n):RS n t e l x a js bs s H' :=
 ⟨by rw [hg _ (by omega) (by omega)]; exact h.gt,by rw [hg _ (by omega) (by omega)]; exact h.ge,by rw [hg _ (by omega) (by omega)]; exact h.gl,by rw [hg _ (by omega) (by omega)]; exact h.gx,by rw [hg _ (by omega) (by omega)]; exact h.ga,by rw [hg _ (by omega) (by omega)]; exact h.gr,by rw [hg _ (by omega) (by omega)]; exact h.go,by rw [hg _ (by omega) (by omega)]; exact h.gb,by rw [hg _ (by omega) (by omega)]; exact h.gs,by rw [hg _ (by omega) (by omega)]; exact h.lp,by have:=h.up; omega,h.ok,h.bl,h.bw⟩
theorem vV (bs:List Cn):∀ r ∈ bs.map cz,r.length=5:=by
 intro r hr
 obtain ⟨c,_,rfl⟩:=List.mem_map.1 hr
 rfl
theorem xJ (bs:List Cn):(bs.map cz).flatten.length=bs.length*5:=by
 rw [c4 (vV bs),List.length_map]
theorem JV {n:Nat} {t e l x a:AV} {js:Nat→AV} {bs:List Cn} {s:Wn} {H:Hp} (h:RS n t e l x a js bs s H) {q:ST} {w:Int} (hw:0≤w∧w≤16777215) {K:AV→Hp→Prop}
  (hK:∀ H' bs',RS n t e l x a js bs' (iO w s q) H'→H.n≤H'.n→(∀ j,j<H.n→(j<n∨n+10≤j)→H'.get j=H.get j)→K (Bo true) H'):fG Tryz.prog σ (.yl (n+9)) [.agg [I q.prop,I q.kind,I q.n,Bo q.imp,I w]] H K:=by
 refine aS.R0_round h.lp ?_
 have hup:=h.up
 obtain ⟨c,hc⟩:∃ c:Cn,c=⟨q.prop,q.kind,q.n,q.imp,w⟩:=⟨_,rfl⟩
 have ec:[I q.prop,I q.kind,I q.n,Bo q.imp,I w]=cz c:=by rw [hc]; rfl
 rw [ec]
 simp only [bA]
 obtain ⟨H3,hH3⟩:∃ H3,H3=(H.new (.cells [I 0,I 0,I 0,.lit (.bool false),I 0] true)).set H.n (some (.cells (cz c) true)):=⟨_,rfl⟩
 have st:stA 5 (H.new (.cells [I 0,I 0,I 0,.lit (.bool false),I 0] true)) (.ptr H.n 0) (.agg (cz c))=some H3:=by
  rw [eV,hH3]; simp [cz]; rfl
 have n3:H3.n=H.n+1:=by rw [hH3]; rfl
 have g3:∀ j,H3.get j=if j=H.n then some (.cells (cz c) true) else H.get j:=by
  intro j
  rw [hH3]
  by_cases e:j=H.n
  ·subst e; simp
  ·simp [e]
 clear hH3
 simp only [st,aa]
 refine ⟨by rw [g3,if_neg (by omega)]; exact h.lp,?_⟩
 obtain ⟨H4,hH4⟩:∃ H4,H4=H3.set (n+9) (some (.loop (aS.R0 js (.ptr (n+6) 0) (.ptr (n+7) 0) (.ptr (n+8) 0)) .busy none)):=⟨_,rfl⟩
 rw [← hH4]
 have n4:H4.n=H.n+1:=by rw [hH4]; exact n3
 have g4:∀ j,j≠n+9→H4.get j=if j=H.n then some (.cells (cz c) true) else H.get j:=by
  intro j hj
  rw [hH4,ay,if_neg hj,g3]
 have gl4:H4.get (n+9)=some (.loop (aS.R0 js (.ptr (n+6) 0) (.ptr (n+7) 0) (.ptr (n+8) 0)) .busy none):=by rw [hH4,ay,if_pos rfl]
 clear hH4
 have gc4:H4.get H.n=some (.cells (cz c) true):=by rw [g4 _ (by omega),if_pos rfl]
 have go4:H4.get (n+6)=some (.cells (s.o.map I) true):=by rw [g4 _ (by omega),if_neg (by omega)]; exact h.go
 have gb4:H4.get (n+7)=some (.cells (bs.map cz).flatten true):=by rw [g4 _ (by omega),if_neg (by omega)]; exact h.gb
 have gs4:H4.get (n+8)=some (.cells (s.t.map Bo) true):=by rw [g4 _ (by omega),if_neg (by omega)]; exact h.gs
 have fin:∀ (H5:Hp) (bs':List Cn) (s':Wn),H5.n=H4.n→(∀ j,j≠n+6→j≠n+7→j≠n+8→H5.get j=H4.get j)→H5.get (n+6)=some (.cells (s'.o.map I) true)→H5.get (n+7)=some (.cells (bs'.map cz).flatten true)→H5.get (n+8)=some (.cells (s'.t.map Bo) true) →
   s'=iO w s q→bs'.length=8→(∀ p,p<8→s'.t.getD p false=true→∃ c,bs'[p]?=some c∧c.x=s'.w.getD p 0∧0≤c.wt∧c.wt≤16777215) →
   ib (n+9) (aS.R0 js (.ptr (n+6) 0) (.ptr (n+7) 0) (.ptr (n+8) 0)) K .normal H5:=by
  intro H5 bs' s' e1 e2 e3 e4 e5 e6 e7 e8
  rw [pb]
  refine ⟨by rw [e2 _ (by omega) (by omega) (by omega)]; exact gl4,?_⟩
  have old:∀ j,j≠n+6→j≠n+7→j≠n+8→j≠n+9→j<H.n→(H5.set (n+9) (some (.loop (aS.R0 js (.ptr (n+6) 0) (.ptr (n+7) 0) (.ptr (n+8) 0)) .ready none))).get j=H.get j:=by
   intro j h1 h2 h3 h4 h5
   rw [ay,if_neg h4,e2 j h1 h2 h3,g4 j h4,if_neg (by omega)]
  refine hK _ bs' ?_ (by rw [Hp.n_set,e1,n4]; omega) fun j hj hr=>old j (by omega) (by omega) (by omega) (by omega) hj
  rw [← e6]
  refine ⟨by rw [old _ (by omega) (by omega) (by omega) (by omega) (by omega)]; exact h.gt,by rw [old _ (by omega) (by omega) (by omega) (by omega) (by omega)]; exact h.ge,by rw [old _ (by omega) (by omega) (by omega) (by omega) (by omega)]; exact h.gl,by rw [old _ (by omega) (by omega) (by omega) (by omega) (by omega)]; exact h.gx,by rw [old _ (by omega) (by omega) (by omega) (by omega) (by omega)]; exact h.ga,by rw [old _ (by omega) (by omega) (by omega) (by omega) (by omega)]; exact h.gr,by rw [ay,if_neg (by omega)]; exact e3,by rw [ay,if_neg (by omega)]; exact e4,by rw [ay,if_neg (by omega)]; exact e5,by rw [ay,if_pos rfl],by rw [Hp.n_set,e1,n4]; omega,by rw [e6]; exact pT h.ok,e7,e8⟩
 have same:s=iO w s q→ib (n+9) (aS.R0 js (.ptr (n+6) 0) (.ptr (n+7) 0) (.ptr (n+8) 0)) K .normal H4:=fun e =>
  fin H4 bs s rfl (fun _ _ _ _=>rfl) go4 gb4 gs4 e h.bl h.bw
 have l7:ldA false 1 H4 (.ptr H.n (0+0+0))=some (I q.prop):=by rw [aL,gc4,hc]; rfl
 simp only [bu,aa,l7,a_,ai,im,decide_eq_true_eq]
 by_cases h0:q.prop<0
 ·rw [if_pos h0]
  exact same (by unfold iO; rw [if_pos (.inl h0)])
 rw [if_neg h0]
 by_cases h8:8≤q.prop
 ·rw [if_pos h8]
  exact same (by unfold iO; rw [if_pos (.inr h8)])
 rw [if_neg h8]
 obtain ⟨p,hp⟩:∃ p:Nat,q.prop=p:=⟨q.prop.toNat,by omega⟩
 have hp8:p<8:=by omega
 have hpt:q.prop.toNat=p:=by omega
 have ol:=h.ok.o
 have wl:=h.ok.w
 have tl:=h.ok.t
 have bl:=h.bl
 have lt4:ldA false 1 H4 (.ptr (n+8) p)=some (Bo (s.t.getD p false)):=by
  rw [aL,gs4,aM,pQ (by omega)]
  simp [show p<s.t.length by omega]
 have lc4:∀ H5:Hp,H5.get H.n=some (.cells (cz c) true)→ldA true 5 H5 (.ptr H.n 0)=some (.agg (cz c)):=fun H5 h=>by rw [aL,h]; rfl
 have lv4:∀ H5:Hp,H5.get H.n=some (.cells (cz c) true)→ldA true 2 H5 (.ptr H.n (0+0+1))=some (.agg [I q.kind,I q.n]):=fun H5 h=>by rw [aL,h,hc]; rfl
 have stores:∀ (H5:Hp),H5=H4→(¬ (s.t.getD p false=true∧(if q.imp then w+1073741824 else w)<s.w.getD p 0)) →
   bnd (stA 5 H5 (.ptr (n+7) (0+p*5)) (.agg (cz c))) fun H15=>bnd (stA 1 H15 (.ptr (n+8) (0+p*1)) (Bo true)) fun H17=>bnd (ldA true 2 H17 (.ptr H.n (0+0+1))) fun x20=>bnd (stA 2 H17 (.ptr (n+6) (0+p*2)) x20) fun H22=>ib (n+9) (aS.R0 js (.ptr (n+6) 0) (.ptr (n+7) 0) (.ptr (n+8) 0)) K .normal H22:=by
  intro H5 e5 hno
  subst e5
  have hpb:p<(bs.map cz).length:=by simp; omega
  have ovb:bO (bs.map cz).flatten (p*5+0) (cz c)=((bs.set p c).map cz).flatten:=by
   rw [i6 (sz:=5) (by simp [cz]) (vV bs) hpb]
   rw [bj (by rw [vV bs _ (List.getElem_mem hpb)]; rfl),List.map_set]
  have s1:stA 5 H5 (.ptr (n+7) (0+p*5)) (.agg (cz c))=some (H5.set (n+7) (some (.cells ((bs.set p c).map cz).flatten true))):=by
   rw [eV,gb4,show 0+p*5=p*5+0 by omega]
   simp only [de,ovb]
   rw [if_pos (by rfl),if_pos ⟨by rw [xJ,bl]; simp [cz]; omega,by simp [cz]⟩]
  have g5:∀ b,(H5.set (n+7) b).get (n+8)=H5.get (n+8):=fun b=>by simp
  have s2:stA 1 (H5.set (n+7) (some (.cells ((bs.set p c).map cz).flatten true))) (.ptr (n+8) (0+p*1)) (Bo true)=some ((H5.set (n+7) (some (.cells ((bs.set p c).map cz).flatten true))).set (n+8) (some (.cells ((s.t.set p true).map Bo) true))):=by
   rw [wB,g5,gs4,de,if_pos ⟨by simp; omega,rfl⟩,show 0+p*1=p by omega,zT true (by omega)]
  have g6:((H5.set (n+7) (some (.cells ((bs.set p c).map cz).flatten true))).set (n+8) (some (.cells ((s.t.set p true).map Bo) true))).get H.n=some (.cells (cz c) true):=by
   have e1:H.n≠n+7:=by omega
   have e2:H.n≠n+8:=by omega
   simp [e1,e2,gc4]
  have g7:((H5.set (n+7) (some (.cells ((bs.set p c).map cz).flatten true))).set (n+8) (some (.cells ((s.t.set p true).map Bo) true))).get (n+6)=some (.cells (s.o.map I) true):=by
   simp [go4]
  have ovo:bO (s.o.map I) (0+p*2) [I q.kind,I q.n]=((s.o.set (p*2) q.kind).set (p*2+1) q.n).map I:=by
   rw [Nat.zero_add,HR _ _ _ _ (by simp; omega),List.map_set,List.map_set]
  simp only [s1,aa,s2,lv4 _ g6]
  rw [eV,g7]
  rw [if_pos (show [I q.kind,I q.n].length=2 from rfl),de,if_pos ⟨by simp; omega,rfl⟩,ovo,aa]
  have es:iO w s q=⟨(s.o.set (p*2) q.kind).set (p*2+1) q.n,s.w.set p (if q.imp then w+1073741824 else w),s.t.set p true⟩:=by
   unfold iO
   rw [if_neg (by omega),hpt,if_neg hno]
  refine fin _ (bs.set p c) (iO w s q) (by simp) (fun j h1 h2 h3=>by simp [h1,h2,h3]) (by rw [es]; simp) (by simp) (by rw [es]; simp) rfl (by simpa using bl) fun r hr ht=>?_
  rw [es] at ht ⊢
  simp only at ht ⊢
  by_cases e:r=p
  ·subst e
   refine ⟨c,by simp [bl,hr],?_,by rw [hc]; exact hw.1,by rw [hc]; exact hw.2⟩
   rw [hc]
   simp [Cn.x,wl,hr]
  ·have ht':s.t.getD r false=true:=by
    rw [← ht]
    simp only [List.getD_eq_getElem?_getD,List.getElem?_set_ne (Ne.symm e)]
   obtain ⟨c',h1,h2,h3⟩:=h.bw r hr ht'
   refine ⟨c',by rw [List.getElem?_set_ne (Ne.symm e)]; exact h1,?_,h3⟩
   rw [h2]
   simp only [List.getD_eq_getElem?_getD,List.getElem?_set_ne (Ne.symm e)]
 rw [hp]
 simp only [ni hp8,bu,aa,Nat.mul_one,Nat.zero_add,lt4,eM,ai]
 simp only [Nat.mul_one,Nat.zero_add] at stores
 by_cases ht:s.t.getD p false=true
 ·simp only [ht,Bool.not_true,Bool.false_eq_true,if_false]
  obtain ⟨c',h1,h2,h3⟩:=h.bw p hp8 ht
  have hpb:p<(bs.map cz).length:=by simp; omega
  have lb:ldA true 5 H4 (.ptr (n+7) (p*5))=some (.agg (cz c')):=by
   rw [aL,gb4,aM,kE (vV bs) hpb]
   have:(bs.map cz)[p]=cz c':=by
    obtain ⟨hlt,rfl⟩:=List.getElem?_eq_some_iff.1 h1
    simp
   rw [this]
   rfl
  simp only [lc4 H4 gc4,aa,lb]
  refine ak (GC c c' _) ?_
  have hb:(if c.imp=c'.imp then decide (c'.wt≤c.wt) else c.imp)=true ↔ ¬ ((if q.imp then w+1073741824 else w)<s.w.getD p 0):=by
   rw [← h2,hc]
   unfold Cn.x
   simp only
   cases q.imp<;>cases c'.imp<;>simp<;>omega
  by_cases hbt:(if c.imp=c'.imp then decide (c'.wt≤c.wt) else c.imp)=true
  ·rw [hbt]
   simp only [ai,if_true,lc4 H4 gc4,aa]
   exact stores H4 rfl fun hh=>hb.1 hbt hh.2
  ·have:(if c.imp=c'.imp then decide (c'.wt≤c.wt) else c.imp)=false:=Bool.eq_false_iff.2 hbt
   rw [this]
   simp only [ai,Bool.false_eq_true,if_false]
   refine same ?_
   unfold iO
   rw [if_neg (by omega),hpt,if_pos]
   refine ⟨ht,Decidable.byContradiction fun hh=>hbt (hb.2 hh)⟩
 ·have htf:s.t.getD p false=false:=by simpa using ht
  simp only [htf,Bool.not_false,if_true,lc4 H4 gc4,aa]
  exact stores H4 rfl fun hh=>ht hh.1
end Go.Proofs.YthdcghnjndhecaaGreat.Ev
namespace Go.Proofs.YthdcghnjndhecaaGreat.Ev
set_option linter.unusedVariables false
set_option linter.unusedSimpArgs false
variable {σ:Sig}
def db (n:Int):List AV:=[I n]
def ek (l:List Int):AV:=.imm 1 (l.map db)
@[simp] theorem RY (l:List Int):bt (ek l)=true:=by unfold ek; simp only [bt]; exact bC _ (fun _=>rfl) l
@[simp] theorem ql (l:List Int):aG (ek l)=some (.lit (.int .i64 l.length)):=by simp [ek]
def tJ (L:List Nd) (e:Int) (ask:Sl→Bool) (s:Wn) (r:RL):Wn:=if (dx L e (r.sels.filter ask) (0,false)).2 then r.sets.foldl (iO (dx L e (r.sels.filter ask) (0,false)).1) s else s
def nD (L:List Nd) (e:Int) (ask:Sl→Bool) (l:List RL) (s:Wn) (i:Int):Wn:=if i<0 then s else match l[i.toNat]? with
 | some r=>tJ L e ask s r
 | none=>s
theorem o3.filter {l:List Sl} (h:o3 l) (p:Sl→Bool):o3 (l.filter p) :=
 ⟨Nat.le_trans (List.length_filter_le _ _) h.len,fun s hs=>h.ok s (List.mem_filter.1 hs).1,fun s hs=>h.wf s (List.mem_filter.1 hs).1,fun s hs=>h.fit s (List.mem_filter.1 hs).1⟩
theorem xL {L:List Nd} {e:Int}:∀ {l:List Sl},o3 l→∀ a:Int × Bool,0≤a.1∧a.1≤16777215→0≤(dx L e l a).1∧(dx L e l a).1≤16777215
 | [],_,a,ha=>ha
 | s::r,h,a,ha=>by
  have hs:=zl (h.wf s (by simp)) (h.fit s (by simp))
  have hr:o3 r:=⟨by have:=h.len; rw [List.length_cons] at this; omega,fun s hs=>h.ok s (by simp [hs]),fun s hs=>h.wf s (by simp [hs]),fun s hs=>h.fit s (by simp [hs])⟩
  unfold dx
  refine xL hr _ ?_
  split
  ·simp only
   split<;>omega
  ·exact ha
section
attribute [local irreducible] af.L0 af.J1 af.L2 af.J3 af.L4
theorem N9 {L:List Nd} {d:List Nat} (M:McT σ L d) {l:List RL} (hl:∀ r ∈ l,o3 r.sels∧r.sets.length≤30) {n:Nat} {e:Int} {ask:Sl→Bool} {a:AV} {js:Nat→AV} {bs:List Cn} {s:Wn} {idx:List Int} {H:Hp}
  (h:RS n (cx L d) (I e) (rls l) (ek idx) a js bs s H) (P:Hp→Prop) (hP:P H) (Pst:∀ H H',P H→H.n≤H'.n→(∀ j,j<n→H'.get j=H.get j)→P H')
  (hask:∀ r ∈ l,∀ q ∈ r.sels,∀ (H:Hp) (K:AV→Hp→Prop),P H→n+10≤H.n→(∀ H',H.n≤H'.n→(∀ j,j<H.n→H'.get j=H.get j)→K (Bo (ask q)) H')→fG Tryz.prog σ a [.agg (aH q)] H K) (hidx:idx.length≤1000000)
  {K:AV→Hp→Prop} (hK:∀ H' bs',RS n (cx L d) (I e) (rls l) (ek idx) a js bs' (idx.foldl (nD L e ask l) s) H'→(∀ j,j<n→H'.get j=H.get j)→K (.tup []) H') :
  av Tryz.prog σ eo [.yl (n+9),.ptr (n+3) 0,.ptr (n+2) 0,.ptr (n+4) 0,.ptr n 0,.ptr (n+1) 0] H K:=by
 refine af.run ?_
 have ldx:∀ {bs s H},RS n (cx L d) (I e) (rls l) (ek idx) a js bs s H→ldA false 1 H (.ptr (n+3) 0)=some (ek idx):=fun h=>by rw [aL,h.gx]; rfl
 have ldl:∀ {bs s H},RS n (cx L d) (I e) (rls l) (ek idx) a js bs s H→ldA false 1 H (.ptr (n+2) 0)=some (rls l):=fun h=>by rw [aL,h.gl]; rfl
 have lda:∀ {bs s H},RS n (cx L d) (I e) (rls l) (ek idx) a js bs s H→ldA false 1 H (.ptr (n+4) 0)=some a:=fun h=>by rw [aL,h.ga]; simp
 have ldt:∀ {bs s H},RS n (cx L d) (I e) (rls l) (ek idx) a js bs s H→ldA false 1 H (.ptr n 0)=some (cx L d):=fun h=>by rw [aL,h.gt]; simp
 have lde:∀ {bs s H},RS n (cx L d) (I e) (rls l) (ek idx) a js bs s H→ldA false 1 H (.ptr (n+1) 0)=some (I e):=fun h=>by rw [aL,h.ge]; rfl
 simp only [ldx h,aa,ql]
 obtain ⟨F,hF⟩:∃ F:Nat→Wn,∀ k,F k=(idx.take k).foldl (nD L e ask l) s:=⟨_,fun _=>rfl⟩
 obtain ⟨lw,hlw⟩:∃ lw:Hp→Prop,∀ H',lw H' ↔ ∀ j,j<n→H'.get j=H.get j:=⟨_,fun _=>Iff.rfl⟩
 have L0:∀ (f k:Nat) (H1:Hp) (bs:List Cn) (y8 y9 y12 y13 y34 y35 y36 y59 y60 y61:AV),idx.length - k=f→k≤idx.length→RS n (cx L d) (I e) (rls l) (ek idx) a js bs (F k) H1→P H1→lw H1 →
   af.L0 σ K (.yl (n+9)) (.ptr (n+2) 0) (.ptr (n+4) 0) (.ptr n 0) (.ptr (n+1) 0) y8 y9 y12 y13 (ek idx) (I idx.length) (I (k:Int)) y34 y35 y36 y59 y60 y61 H1:=by
  intro f
  induction f with
  | zero =>
   intro k H1 bs y8 y9 y12 y13 y34 y35 y36 y59 y60 y61 hf hk hI hP1 hlo
   have:k=idx.length:=by omega
   subst this
   refine af.L0_step ?_
   simp only [a_,aa,Int.lt_irrefl,decide_false,ai,Bool.false_eq_true,if_false]
   rw [hF,List.take_length] at hI
   exact hK H1 bs hI ((hlw H1).1 hlo)
  | succ f ih =>
   intro k H1 bs y8 y9 y12 y13 y34 y35 y36 y59 y60 y61 hf hk hI hP1 hlo
   have hkl:k<idx.length:=by omega
   have hkl':(k:Int)<idx.length:=by omega
   obtain ⟨i,hi⟩:=bp hkl
   have hix:az 1 (ek idx) (I (k:Int))=some (.ip (db i)):=bm hi
   have lz:∀ H:Hp,ldA false 1 H (.ip (db i))=some (I i):=fun _=>rfl
   have eF:F (k+1)=nD L e ask l (F k) i:=by rw [hF,hF,List.take_add_one,hi]; simp
   have J1:∀ (H1:Hp) (bs:List Cn) (y8 y9 y12 y13 y34 y35 y36 y59 y60 y61:AV),RS n (cx L d) (I e) (rls l) (ek idx) a js bs (F (k+1)) H1→P H1→lw H1 →
     af.J1 σ K (.yl (n+9)) (.ptr (n+2) 0) (.ptr (n+4) 0) (.ptr n 0) (.ptr (n+1) 0) y8 y9 y12 y13 (ek idx) (I idx.length) (I (k:Int)) y34 y35 y36 y59 y60 y61 H1:=by
    intro H1 bs y8 y9 y12 y13 y34 y35 y36 y59 y60 y61 hI hP1 hlo
    refine af.J1_step ?_
    simp only [bF,aa,bq (show k<9000000000000000000 by omega)]
    exact ih (k+1) H1 bs _ _ _ _ _ _ _ _ _ _ (by omega) (by omega) hI hP1 hlo
   refine af.L0_step ?_
   simp only [a_,aa,hkl',decide_true,ai,if_true,hix,lz,decide_eq_true_eq]
   by_cases h0:i<0
   ·rw [if_pos h0]
    exact J1 H1 bs _ _ _ _ _ _ _ _ _ _ (by rw [eF]; unfold nD; rw [if_pos h0]; exact hI) hP1 hlo
   rw [if_neg h0]
   simp only [ldl hI,aa,lU,im,ai,decide_eq_true_eq]
   by_cases h1:(l.length:Int)≤i
   ·rw [if_pos h1]
    exact J1 H1 bs _ _ _ _ _ _ _ _ _ _ (by rw [eF]; unfold nD; rw [if_neg h0,List.getElem?_eq_none (by omega)]; exact hI) hP1 hlo
   rw [if_neg h1]
   obtain ⟨m0,hm0⟩:∃ m:Nat,i=m:=⟨i.toNat,by omega⟩
   obtain ⟨r,hr⟩:=bp (show m0<l.length by omega)
   have hrm:=List.mem_of_getElem? hr
   have hrl:az 2 (rls l) (I i)=some (.ip (d8 r)):=by rw [hm0]; exact bm hr
   have lr0:∀ H:Hp,ldA false 1 H (.ip ((d8 r).drop 0))=some (sls r.sels):=fun _=>rfl
   have lr1:∀ H:Hp,ldA false 1 H (.ip ((d8 r).drop 1))=some (.imm 4 (r.sets.map dk)):=fun _=>rfl
   have eF2:F (k+1)=tJ L e ask (F k) r:=by rw [eF]; unfold nD; rw [if_neg h0,hm0,Int.toNat_natCast,hr]
   obtain ⟨hws,hsets⟩:=hl r hrm
   have hwl:=hws.len
   simp only [hrl,aa,iJ,lr0,kv]
   have L2:∀ (g m:Nat) (H1:Hp) (bs:List Cn) (y9 y12 y13 y59 y60 y61:AV),r.sels.length - m=g→m≤r.sels.length→RS n (cx L d) (I e) (rls l) (ek idx) a js bs (F k) H1→P H1→lw H1→Gs 1 H1 y9 (((r.sels.take m).filter ask).map aH)→(∀ j,own y9 j→n+10≤j) →
     af.L2 σ K (.yl (n+9)) (.ptr (n+2) 0) (.ptr (n+4) 0) (.ptr n 0) (.ptr (n+1) 0) (I i) y9 y12 y13 (ek idx) (I idx.length) (I (k:Int)) (sls r.sels) (I r.sels.length) (I (m:Int)) y59 y60 y61 H1:=by
    intro g
    induction g with
    | zero =>
     intro m H1 bs y9 y12 y13 y59 y60 y61 hg hm hI hP1 hlo hgs how
     have:m=r.sels.length:=by omega
     subst this
     rw [List.take_length] at hgs
     refine af.L2_step ?_
     simp only [a_,aa,Int.lt_irrefl,decide_false,ai,Bool.false_eq_true,if_false,ldt hI,lde hI]
     have hwf:=hws.filter ask
     have hbd:=xL (L:=L) (e:=e) hwf (0,false) (by omega)
     refine ak ((LY M hwf e Hp.empty).frzA (.cons (.refl (cU _ _)) (.cons (.refl rfl) (.cons (hgs.fz (bC _ gP _)) .nil))) rfl) ?_
     have ex:∀ x y:AV,exR (.tup [x,y]) 0=some x∧exR (.tup [x,y]) 1=some y:=fun _ _=>⟨rfl,rfl⟩
     simp only [(ex _ _).1,(ex _ _).2,aa,ldl hI,hrl,iJ,lr1,bW,List.length_map]
     generalize hb:dx L e (r.sels.filter ask) (0,false)=bw at hbd
     have L4:∀ (u z:Nat) (H1:Hp) (bs:List Cn),r.sets.length - z=u→z≤r.sets.length→RS n (cx L d) (I e) (rls l) (ek idx) a js bs (if bw.2 then (r.sets.take z).foldl (iO bw.1) (F k) else F k) H1→P H1→lw H1 →
       af.L4 σ K (.yl (n+9)) (.ptr (n+2) 0) (.ptr (n+4) 0) (.ptr n 0) (.ptr (n+1) 0) (I i) y9 (I bw.1) (Bo bw.2) (ek idx) (I idx.length) (I (k:Int)) (sls r.sels) (I r.sels.length) (I (r.sels.length:Int)) (.imm 4 (r.sets.map dk)) (I r.sets.length) (I (z:Int)) H1:=by
      intro u
      induction u with
      | zero =>
       intro z H1 bs hu hz hI hP1 hlo
       have:z=r.sets.length:=by omega
       subst this
       rw [List.take_length] at hI
       refine af.L4_step ?_
       simp only [a_,aa,Int.lt_irrefl,decide_false,ai,Bool.false_eq_true,if_false]
       refine J1 H1 bs _ _ _ _ _ _ _ _ _ _ ?_ hP1 hlo
       rw [eF2]
       unfold tJ
       rw [hb]
       exact hI
      | succ u ihu =>
       intro z H1 bs hu hz hI hP1 hlo
       have hzl:z<r.sets.length:=by omega
       have hzl':(z:Int)<r.sets.length:=by omega
       obtain ⟨q,hq⟩:=bp hzl
       have hiq:az 4 (.imm 4 (r.sets.map dk)) (I (z:Int))=some (.ip (dk q)):=bm hq
       have lq:∀ H:Hp,ldA true 4 H (.ip (dk q))=some (.agg (dk q)):=fun _=>rfl
       refine af.L4_step ?_
       simp only [a_,aa,hzl',decide_true,ai,if_true,hiq,lq,bA]
       obtain ⟨H3,hH3⟩:∃ H3,H3=(H1.new (.cells [I 0,I 0,I 0,.lit (.bool false)] true)).set H1.n (some (.cells (dk q) true)):=⟨_,rfl⟩
       have st:stA 4 (H1.new (.cells [I 0,I 0,I 0,.lit (.bool false)] true)) (.ptr H1.n 0) (.agg (dk q))=some H3:=by
        rw [eV,hH3]; simp [dk]; rfl
       have n3:H3.n=H1.n+1:=by rw [hH3]; rfl
       have g3:∀ j,j<H1.n→H3.get j=H1.get j:=by
        intro j hj
        have:j≠H1.n:=by omega
        rw [hH3]; simp [this]
       have gb3:H3.get H1.n=some (.cells (dk q) true):=by rw [hH3]; simp
       clear hH3
       have hup:=hI.up
       have hI3:RS n (cx L d) (I e) (rls l) (ek idx) a js bs (if bw.2 then (r.sets.take z).foldl (iO bw.1) (F k) else F k) H3:=hI.keep (fun j h1 h2=>g3 j (by omega)) (by omega)
       have hP3:P H3:=Pst H1 H3 hP1 (by omega) fun j hj=>g3 j (by omega)
       have hlo3:lw H3:=(hlw H3).2 fun j hj=>by rw [g3 j (by omega)]; exact (hlw H1).1 hlo j hj
       simp only [st,aa]
       have nxt:∀ (H4:Hp) (bs':List Cn),RS n (cx L d) (I e) (rls l) (ek idx) a js bs' (if bw.2 then (r.sets.take (z+1)).foldl (iO bw.1) (F k) else F k) H4→P H4→lw H4 →
         bnd (ah .add (I (z:Int)) (I 1)) fun x13=>af.L4 σ K (.yl (n+9)) (.ptr (n+2) 0) (.ptr (n+4) 0) (.ptr n 0) (.ptr (n+1) 0) (I i) y9 (I bw.1) (Bo bw.2) (ek idx) (I idx.length) (I (k:Int)) (sls r.sels) (I r.sels.length) (I (r.sels.length:Int)) (.imm 4 (r.sets.map dk)) (I r.sets.length) x13 H4:=by
        intro H4 bs' h1 h2 h3
        simp only [bF,aa,bq (show z<9000000000000000000 by omega)]
        exact ihu (z+1) H4 bs' (by omega) (by omega) h1 h2 h3
       cases hbw:bw.2 with
       | false =>
        rw [hbw] at hI3 nxt
        simp only [Bool.false_eq_true,if_false] at hI3 nxt ⊢
        exact nxt H3 bs hI3 hP3 hlo3
       | true =>
        rw [hbw] at hI3 nxt
        simp only [if_true] at hI3 nxt ⊢
        have lb:ldA true 4 H3 (.ptr H1.n 0)=some (.agg (dk q)):=by rw [aL,gb3]; rfl
        have hbl:dy [I 0,I 0,I 0,.lit (.bool false),I 0] [(0,4,.agg (dk q)),(4,1,I bw.1)]=some [I q.prop,I q.kind,I q.n,Bo q.imp,I bw.1]:=rfl
        simp only [lb,aa,hbl]
        refine JV hI3 hbd fun H4 bs' h4 u4 k4=>?_
        simp only [eM,aa,ai,Bool.not_true,Bool.false_eq_true,if_false]
        refine nxt H4 bs' ?_ (Pst H3 H4 hP3 u4 fun j hj=>k4 j (by omega) (.inl hj)) ((hlw H4).2 fun j hj=>by rw [k4 j (by omega) (.inl hj)]; exact (hlw H3).1 hlo3 j hj)
        rw [List.take_add_one,hq]
        simpa using h4
     exact L4 _ 0 H1 bs rfl (Nat.zero_le _) (by simpa using hI) hP1 hlo
    | succ g ihg =>
     intro m H1 bs y9 y12 y13 y59 y60 y61 hg hm hI hP1 hlo hgs how
     have hml:m<r.sels.length:=by omega
     have hml':(m:Int)<r.sels.length:=by omega
     obtain ⟨q,hq⟩:=bp hml
     have hqm:=List.mem_of_getElem? hq
     have hiq:az 1 (sls r.sels) (I (m:Int))=some (.ip (aH q)):=bm hq
     refine af.L2_step ?_
     simp only [a_,aa,hml',decide_true,ai,if_true,hiq,dX,lY,bA]
     obtain ⟨H3,hH3⟩:∃ H3,H3=(H1.new (.cells [.lit (.slice none 0 0)] true)).set H1.n (some (.cells (aH q) true)):=⟨_,rfl⟩
     have st:stA 1 (H1.new (.cells [.lit (.slice none 0 0)] true)) (.ptr H1.n 0) (.agg (aH q))=some H3:=by
      rw [eV,hH3]; simp [aH]
     have n3:H3.n=H1.n+1:=by rw [hH3]; rfl
     have g3:∀ j,j<H1.n→H3.get j=H1.get j:=by
      intro j hj
      have:j≠H1.n:=by omega
      rw [hH3]; simp [this]
     have gb3:H3.get H1.n=some (.cells (aH q) true):=by rw [hH3]; simp
     clear hH3
     have hup:=hI.up
     have hI3:RS n (cx L d) (I e) (rls l) (ek idx) a js bs (F k) H3:=hI.keep (fun j h1 h2=>g3 j (by omega)) (by omega)
     have hP3:P H3:=Pst H1 H3 hP1 (by omega) fun j hj=>g3 j (by omega)
     have hlo3:lw H3:=(hlw H3).2 fun j hj=>by rw [g3 j (by omega)]; exact (hlw H1).1 hlo j hj
     have hgs3:Gs 1 H3 y9 (((r.sels.take m).filter ask).map aH):=hgs.keep (fun j hj=>g3 j (hgs.lt hj)) (by omega)
     have lb:∀ H4:Hp,H4.get H1.n=some (.cells (aH q) true)→ldA true 1 H4 (.ptr H1.n 0)=some (.agg (aH q)):=fun H4 h=>by rw [aL,h]; rfl
     simp only [st,aa,lda hI3,lb H3 gb3]
     refine hask r hrm q hqm H3 _ hP3 (by omega) fun H5 u5 k5=>?_
     have hI5:=hI3.keep (H':=H5) (fun j h1 h2=>k5 j (by omega)) u5
     have hP5:P H5:=Pst H3 H5 hP3 u5 fun j hj=>k5 j (by omega)
     have hlo5:lw H5:=(hlw H5).2 fun j hj=>by rw [k5 j (by omega)]; exact (hlw H3).1 hlo3 j hj
     have hgs5:Gs 1 H5 y9 (((r.sels.take m).filter ask).map aH):=hgs3.keep (fun j hj=>k5 j (hgs3.lt hj)) u5
     have gb5:H5.get H1.n=some (.cells (aH q) true):=by rw [k5 _ (by omega)]; exact gb3
     have J3:∀ (H6:Hp) (y9:AV),RS n (cx L d) (I e) (rls l) (ek idx) a js bs (F k) H6→P H6→lw H6→Gs 1 H6 y9 (((r.sels.take (m+1)).filter ask).map aH)→(∀ j,own y9 j→n+10≤j) →
       af.J3 σ K (.yl (n+9)) (.ptr (n+2) 0) (.ptr (n+4) 0) (.ptr n 0) (.ptr (n+1) 0) (I i) y9 y12 y13 (ek idx) (I idx.length) (I (k:Int)) (sls r.sels) (I r.sels.length) (I (m:Int)) y59 y60 y61 H6:=by
      intro H6 y9 h1 h2 h3 h4 h5
      refine af.J3_step ?_
      simp only [bF,aa,bq (show m<9000000000000000000 by omega)]
      exact ihg (m+1) H6 bs y9 _ _ _ _ _ (by omega) (by omega) h1 h2 h3 h4 h5
     have htk:(r.sels.take (m+1)).filter ask=(r.sels.take m).filter ask++(if ask q then [q] else []):=by
      rw [List.take_add_one,hq,List.filter_append]
      congr 1
      cases ha:ask q<;>simp [ha]
     cases ha:ask q with
     | false =>
      simp only [ai,Bool.false_eq_true,if_false]
      refine J3 H5 y9 hI5 hP5 hlo5 ?_ how
      rw [htk,ha]
      simpa using hgs5
     | true =>
      simp only [ai,if_true,lb H5 gb5,aa]
      have hfl:((r.sels.take m).filter ask).length≤2000000:=Nat.le_trans (List.length_filter_le _ _) (by rw [List.length_take]; omega)
      refine fY (y:=.agg (aH q)) hgs5 rfl rfl rfl (by rw [List.length_map]; omega) (by rw [List.length_map]; omega) fun x' H' g' fr=>?_
      have hup5:=fr.grow
      have e9:∀ j,j<n+10→H'.get j=H5.get j:=fun j hj=>fr.same j (by omega) fun ho=>by have:=how j ho; omega
      refine J3 H' x' (hI5.keep (fun j h1 h2=>e9 j h2) hup5) (Pst H5 H' hP5 hup5 fun j hj=>e9 j (by omega)) ((hlw H').2 fun j hj=>by rw [e9 j (by omega)]; exact (hlw H5).1 hlo5 j hj) ?_ fun j hj=>?_
      ·rw [htk,ha,if_pos rfl,List.map_append]
       exact g'
      ·rcases fr.mine j hj with h | h
       ·exact how j h
       ·omega
   exact L2 _ 0 H1 bs _ _ _ _ _ _ rfl (Nat.zero_le _) hI hP1 hlo (by simpa using Gs.nil) (fun j hj=>hj.elim)
 exact L0 _ 0 H bs _ _ _ _ _ _ _ _ _ _ rfl (Nat.zero_le _) (by rw [hF]; simpa using h) hP ((hlw H).2 fun _ _=>rfl)
end
end Go.Proofs.YthdcghnjndhecaaGreat.Ev
namespace Go.Proofs.YthdcghnjndhecaaGreat.Ev
set_option linter.unusedVariables false
set_option linter.unusedSimpArgs false
variable {σ:Sig}
theorem Hz {P:Program} {f sz:Nat} {xs ys:List AV} {H:Hp} {K:AV→Hp→Prop} {x:AV} {rows:List (List AV)} (g:Gs sz H x rows) (hn:eU rows=true) (hT:∀ Hd,Fz Hd x (.imm sz rows)→FzT Hd ys xs)
  (h:∀ H2,H2.n=H.n→(∀ j,¬ own x j→H2.get j=H.get j)→(∀ j,H.get j=none→H2.get j=none)→av P σ f xs H2 K):av P σ f ys H K:=by
 cases g with
 | nil =>
  obtain ⟨r,H1,hg,hk⟩:=h H rfl (fun _ _=>rfl) fun _ h=>h
  exact ⟨r,H1,au.conv (Wk.frz (H2:=H) (Hd:=Hp.bare H.n) rfl rfl (fun id k hk=>by simp at hk) (fun id k2 hk=>⟨k2,hk,.refl _ _⟩) (hT _ .nil)) hg,hk⟩
 | sl hlt hg hsz =>
  rename_i id ex
  obtain ⟨r,H1,hgood,hk⟩:=h (H.set id none) (by simp) (fun j hj=>by
   have:j≠id:=fun e=>hj e.symm
   simp [this]) (fun j hj=>by
   rw [ay]
   split
   ·rfl
   ·exact hj)
  have hd0:∀ j,((Hp.bare H.n).set id (some (.cells rows.flatten ex))).get j=if j=id then some (.cells rows.flatten ex) else none:=fun j=>by
   rw [ay]
   split
   ·rfl
   ·simp
  refine ⟨r,H1,au.conv (Wk.frz (Hd:=(Hp.bare H.n).set id (some (.cells rows.flatten ex))) (by simp) (by simp) (fun j k hk=>?_) (fun j k2 hk=>?_) (hT _ ?_)) hgood,hk⟩
  ·rw [hd0] at hk
   split at hk
   ·rename_i e
    subst e
    exact ⟨by rw [hg]; exact hk,by simp⟩
   ·cases hk
  ·rw [ay] at hk
   split at hk
   ·cases hk
   ·exact ⟨k2,hk,.refl _ _⟩
  ·exact .rows (cs:=rows.flatten) (ex:=ex) (by rw [hd0,if_pos rfl]) hsz (by rw [List.drop_zero]; exact List.take_of_length_le (by rw [c4 hsz]; exact Nat.le_refl _)) hn
theorem HN:wn0.Ok:=⟨by simp [wn0],by simp [wn0],by simp [wn0]⟩
theorem sC {L:List Nd} {d:List Nat} (M:McT σ L d) {l:List RL} (hl:∀ r ∈ l,o3 r.sels∧r.sets.length≤30) {e:Int} {ask:Sl→Bool} {a:AV} {idx:List Int} {H:Hp} (ha1:a.cells=[a]) (ha2:a.isAny=false)
  (P:Hp→Prop) (hP:P H) (Pst:∀ H' H'',P H'→H'.n≤H''.n→(∀ j,j<H.n→H''.get j=H'.get j)→P H'')
  (hask:∀ r ∈ l,∀ q ∈ r.sels,∀ (H':Hp) (K:AV→Hp→Prop),P H'→H.n+10≤H'.n→(∀ H'',H'.n≤H''.n→(∀ j,j<H'.n→H''.get j=H'.get j)→K (Bo (ask q)) H'')→fG Tryz.prog σ a [.agg (aH q)] H' K) (hidx:idx.length≤1000000)
  {K:AV→Hp→Prop} (hK:∀ H',H.n≤H'.n→(∀ j,j<H.n→H'.get j=H.get j)→K (.agg ((idx.foldl (nD L e ask l) wn0).o.map I)) H') :
  av Tryz.prog σ dR [cx L d,I e,rls l,ek idx,a] H fun x5 H6=>av Tryz.prog σ eX [x5] H6 K:=by
 refine iw.run ?_
 have b1:(cx L d).cells=[cx L d]∧(cx L d).isAny=false:=⟨rfl,rfl⟩
 have b2:(rls l).cells=[rls l]∧(rls l).isAny=false:=⟨rfl,rfl⟩
 have b3:(ek idx).cells=[ek idx]∧(ek idx).isAny=false:=⟨rfl,rfl⟩
 have bx:∀ (x:AV) (H:Hp) (K:AV→Hp→Prop),x.cells=[x]→x.isAny=false→cV x H K=K (.ptr H.n 0) (H.new (.cells [x] true)):=by
  intro x H K h1 h2
  unfold cV
  rw [h2,h1]; rfl
 rw [bx _ _ _ b1.1 b1.2,bx _ _ _ rfl rfl,bx _ _ _ b2.1 b2.2,bx _ _ _ b3.1 b3.2,bx _ _ _ ha1 ha2]
 refine aS.run ?_
 simp only [bA,rU]
 intro js
 obtain ⟨n,hn⟩:∃ n,n=H.n:=⟨_,rfl⟩
 simp only [Hp.n_new,← hn]
 obtain ⟨H8,hH8⟩:∃ H8,H8=((((((((H.new (.cells [cx L d] true)).new (.cells [I e] true)).new (.cells [rls l] true)).new (.cells [ek idx] true)).new (.cells [a] true)).new (.cells (List.replicate 16 (I 0)) true)).new (.cells (List.replicate 16 (I 0)) true)).new (.cells [I 0,I 0,I 0,.lit (.bool false),I 0,I 0,I 0,I 0,.lit (.bool false),I 0,I 0,I 0,I 0,.lit (.bool false),I 0,I 0,I 0,I 0,.lit (.bool false),I 0,I 0,I 0,I 0,.lit (.bool false),I 0,I 0,I 0,I 0,.lit (.bool false),I 0,I 0,I 0,I 0,.lit (.bool false),I 0,I 0,I 0,I 0,.lit (.bool false),I 0] true)).new (.cells [.lit (.bool false),.lit (.bool false),.lit (.bool false),.lit (.bool false),.lit (.bool false),.lit (.bool false),.lit (.bool false),.lit (.bool false)] true):=⟨_,rfl⟩
 have n8:H8.n=n+9:=by rw [hH8,hn]; rfl
 have g8:∀ j,H8.get j=if j=n+8 then some (.cells (List.replicate 8 (Bo false)) true) else if j=n+7 then some (.cells ((List.replicate 8 cn0).map cz).flatten true) else if j=n+6 then some (.cells (List.replicate 16 (I 0)) true) else if j=n+5 then some (.cells (List.replicate 16 (I 0)) true) else if j=n+4 then some (.cells [a] true) else if j=n+3 then some (.cells [ek idx] true) else if j=n+2 then some (.cells [rls l] true) else if j=n+1 then some (.cells [I e] true) else if j=n then some (.cells [cx L d] true) else H.get j:=by
  intro j
  rw [hH8]
  simp only [bN,Hp.n_new,← hn]
  rfl
 rw [show n+1+1=n+2 from rfl,show n+2+1=n+3 from rfl,show n+3+1=n+4 from rfl,show n+4+1=n+5 from rfl,show n+5+1=n+6 from rfl,show n+6+1=n+7 from rfl,show n+7+1=n+8 from rfl,show n+8+1=n+9 from rfl]
 rw [← hH8]
 clear hH8
 have lo8:∀ j,j<n→H8.get j=H.get j:=fun j hj=>by
  rw [g8,if_neg (by omega),if_neg (by omega),if_neg (by omega),if_neg (by omega),if_neg (by omega),if_neg (by omega),if_neg (by omega),if_neg (by omega),if_neg (by omega)]
 obtain ⟨H9,hH9⟩:∃ H9,H9=H8.new (.loop (aS.R0 js (.ptr (n+6) 0) (.ptr (n+7) 0) (.ptr (n+8) 0)) .ready none):=⟨_,rfl⟩
 have n9:H9.n=n+10:=by rw [hH9,Hp.n_new,n8]
 have g9:∀ j,j<n+9→H9.get j=H8.get j:=fun j hj=>by rw [hH9,bN,if_neg (by omega)]
 have gl9:H9.get (n+9)=some (.loop (aS.R0 js (.ptr (n+6) 0) (.ptr (n+7) 0) (.ptr (n+8) 0)) .ready none):=by rw [hH9,bN,if_pos n8.symm]
 rw [← hH9]
 clear hH9
 have hI:RS n (cx L d) (I e) (rls l) (ek idx) a js (List.replicate 8 cn0) wn0 H9:=by
  refine ⟨?_,?_,?_,?_,?_,?_,?_,?_,?_,gl9,by omega,HN,by simp,fun p hp ht=>?_⟩
  ·rw [g9 _ (by omega),g8]; simp
  ·rw [g9 _ (by omega),g8]; simp
  ·rw [g9 _ (by omega),g8]; simp
  ·rw [g9 _ (by omega),g8]; simp
  ·rw [g9 _ (by omega),g8]; simp
  ·rw [g9 _ (by omega),g8,if_neg (by omega),if_neg (by omega),if_neg (by omega),if_pos rfl]
  ·rw [g9 _ (by omega),g8,if_neg (by omega),if_neg (by omega),if_pos rfl]; rfl
  ·rw [g9 _ (by omega),g8,if_neg (by omega),if_pos rfl]
  ·rw [g9 _ (by omega),g8,if_pos rfl]; rfl
  ·exfalso
   have:wn0.t.getD p false=false:=by
    simp only [wn0,List.getD_eq_getElem?_getD,List.getElem?_replicate]
    rw [if_pos hp]; rfl
   rw [this] at ht; cases ht
 have hP9:P H9:=Pst H H9 hP (by omega) fun j hj=>by rw [g9 _ (by omega),lo8 j (by omega)]
 refine N9 M hl hI P hP9 (fun H' H'' h1 h2 h3=>Pst H' H'' h1 h2 fun j hj=>h3 j (by omega)) (fun r hr q hq H' K h1 h2 h3=>hask r hr q hq H' K h1 (by omega) h3) hidx fun H' bs' h' lo'=>?_
 rw [h'.lp,pt]
 have gx:∀ j,j≠n+9→(H'.set (n+9) none).get j=H'.get j:=fun j hj=>by rw [ay,if_neg hj]
 obtain ⟨s',hs'⟩:∃ s',s'=idx.foldl (nD L e ask l) wn0:=⟨_,rfl⟩
 rw [← hs'] at h' hK
 have hol:(s'.o.map I).length=16:=by rw [List.length_map]; exact h'.ok.o
 have l1:ldA true 16 (H'.set (n+9) none) (.ptr (n+6) 0)=some (.agg (s'.o.map I)):=by
  rw [aL,gx _ (by omega),h'.go,aM,List.drop_zero,dg hol]
 have s1:stA 16 (H'.set (n+9) none) (.ptr (n+5) 0) (.agg (s'.o.map I))=some ((H'.set (n+9) none).set (n+5) (some (.cells (s'.o.map I) true))):=by
  rw [eV,gx _ (by omega),h'.gr,if_pos hol,de,if_pos ⟨by rw [hol]; simp,by rw [List.all_eq_true]; intro x hx; obtain ⟨v,_,rfl⟩:=List.mem_map.1 hx; rfl⟩,bj (by rw [hol]; simp)]
 have l2:ldA true 16 ((H'.set (n+9) none).set (n+5) (some (.cells (s'.o.map I) true))) (.ptr (n+5) 0)=some (.agg (s'.o.map I)):=by
  rw [aL,ay,if_pos rfl,aM,List.drop_zero,dg hol]
 simp only [l1,aa,s1,l2]
 refine hK _ (by have:=h'.up; simp; omega) fun j hj=>?_
 rw [ay,if_neg (by omega),gx _ (by omega),lo' j (by omega),g9 _ (by omega),lo8 j (by omega)]
def pZ (k:Nat):List Int:=(List.range k).map fun (i:Nat)=>(i:Int)
theorem rT (k:Nat):(pZ k).length=k:=by simp [pZ]
theorem tu (k:Nat):pZ (k+1)=pZ k++[(k:Int)]:=by simp [pZ,List.range_succ]
theorem zK {L:List Nd} {e:Int} {l:List RL}:∀ (k:Nat),k≤l.length→((pZ k).foldl (nD L e (fun _=>true) l) wn0)=(l.take k).foldl (iI L e) wn0:=by
 intro k
 induction k with
 | zero=>intro _; rfl
 | succ k ih =>
  intro hk
  have hkl:k<l.length:=by omega
  obtain ⟨r,hr⟩:=bp hkl
  rw [tu,List.foldl_append,ih (by omega),List.take_add_one,hr,List.foldl_append]
  show nD L e (fun _=>true) l _ (k:Int)=iI L e _ r
  unfold nD
  rw [if_neg (by omega),Int.toNat_natCast,hr]
  generalize List.foldl (iI L e) wn0 (List.take k l)=s
  show tJ L e (fun _=>true) s r=iI L e s r
  have ef:r.sels.filter (fun _=>true)=r.sels:=List.filter_eq_self.2 fun _ _=>rfl
  unfold tJ iI
  rw [ef]
section
attribute [local irreducible] cg.L0
theorem xu {L:List Nd} {d:List Nat} (M:McT σ L d) {l:List RL} (hl:∀ r ∈ l,o3 r.sels∧r.sets.length≤30) (hlen:l.length≤60) (e:Int) (H:Hp) :
  au Tryz.prog σ gw [cx L d,I e,rls l] H (.agg ((ln L e l).o.map I)) H:=by
 have hno:bt (.agg ((ln L e l).o.map I))=true:=by
  simp only [bt]
  generalize (ln L e l).o=o
  induction o with
  | nil=>rfl
  | cons a r ih=>simp only [List.map_cons,aK,bt,Bool.true_and]; exact ih
 refine qz (fun K hK=>cg.run ?_) (by simp [aK,bt,cU]) hno H
 simp only [bA,lU,aa]
 have e0:Hp.empty.n=0:=rfl
 rw [e0]
 have L0:∀ (f k:Nat) (H1:Hp) (y7:AV),l.length - k=f→k≤l.length→H1.get 0=some (.cells (List.replicate 16 (I 0)) true)→1≤H1.n→Gs 1 H1 y7 ((pZ k).map db)→(∀ j,own y7 j→1≤j) →
   cg.L0 σ K (cx L d) (I e) (rls l) (.ptr 0 0) y7 (I l.length) (I (k:Int)) H1:=by
  intro f
  induction f with
  | zero =>
   intro k H1 y7 hf hk h0 hn hgs how
   have:k=l.length:=by omega
   subst this
   refine cg.L0_step ?_
   simp only [a_,aa,Int.lt_irrefl,decide_false,ai,Bool.false_eq_true,if_false]
   refine Hz (xs:=[cx L d,I e,rls l,ek (pZ l.length),.fn fi []]) hgs (bC _ (fun _=>rfl) _) (fun Hd hz=>.same (.same (.same (.fz hz (.same .nil))))) fun H2 n2 g2 k2=>?_
   refine sC M hl (ask:=fun _=>true) rfl rfl (fun _=>True) trivial (fun _ _ _ _ _=>trivial) (fun r hr q hq H' K _ _ hk=>?_) (by rw [rT]; omega) fun H3 _ lo3=>?_
   ·rw [kF,List.append_nil]
    refine iY.run ?_
    simp only [cJ]
    refine hk _ (by simp) fun j hj=>?_
    have:j≠H'.n:=by omega
    simp [this]
   ·rw [zK _ (Nat.le_refl _),List.take_length]
    have h20:H2.get 0=some (.cells (List.replicate 16 (I 0)) true):=by rw [g2 0 fun ho=>by have:=how 0 ho; omega]; exact h0
    have h30:H3.get 0=some (.cells (List.replicate 16 (I 0)) true):=by rw [lo3 0 (by omega)]; exact h20
    have hwo:(ln L e l).o.length=16:=by
     have:∀ (l:List RL) (s:Wn),s.Ok→(l.foldl (iI L e) s).Ok:=by
      intro l
      induction l with
      | nil=>intro s h; exact h
      | cons r l ih =>
       intro s h
       refine ih _ ?_
       unfold iI
       split
       ·generalize (dx L e r.sels (0,false)).1=w
        generalize r.sets=qs
        revert h
        revert s
        induction qs with
        | nil=>intro s h; exact h
        | cons q qs ihq=>intro s h; exact ihq _ (pT h)
       ·exact h
     exact (this l wn0 HN).o
    have hol:(List.map I (ln L e l).o).length=16:=by rw [List.length_map]; exact hwo
    have s1:stA 16 H3 (.ptr 0 0) (.agg (List.map I (ln L e l).o))=some (H3.set 0 (some (.cells (List.map I (ln L e l).o) true))):=by
     rw [eV,h30,if_pos hol,de,if_pos ⟨by rw [hol]; simp,by rw [List.all_eq_true]; intro x hx; obtain ⟨v,_,rfl⟩:=List.mem_map.1 hx; rfl⟩,bj (by rw [hol]; simp)]
    have l2:ldA true 16 (H3.set 0 (some (.cells (List.map I (ln L e l).o) true))) (.ptr 0 0)=some (.agg (List.map I (ln L e l).o)):=by
     rw [aL,ay,if_pos rfl,aM,List.drop_zero,dg hol]
    show bnd (stA 16 H3 (.ptr 0 0) (.agg (List.map I (ln L e l).o))) _
    simp only [s1,aa,l2]
    exact hK _
  | succ f ih =>
   intro k H1 y7 hf hk h0 hn hgs how
   have hkl':(k:Int)<l.length:=by omega
   refine cg.L0_step ?_
   simp only [a_,aa,hkl',decide_true,ai,if_true]
   refine fY (y:=I (k:Int)) hgs rfl rfl rfl (by rw [List.length_map,rT]; omega) (by rw [List.length_map,rT]; omega) fun x' H' g' fr=>?_
   simp only [bF,aa,bq (show k<9000000000000000000 by omega)]
   have hup:=fr.grow
   refine ih (k+1) H' x' (by omega) (by omega) (by rw [fr.same 0 (by omega) fun ho=>by have:=how 0 ho; omega]; exact h0) (by omega) ?_ fun j hj=>?_
   ·rw [tu,List.map_append]
    exact g'
   ·rcases fr.mine j hj with h | h
    ·exact how j h
    ·omega
 refine L0 _ 0 _ _ rfl (Nat.zero_le _) (by simp [Hp.empty]) (by simp) (by simpa [pZ] using Gs.nil) fun j hj=>hj.elim
end
end Go.Proofs.YthdcghnjndhecaaGreat.Ev
