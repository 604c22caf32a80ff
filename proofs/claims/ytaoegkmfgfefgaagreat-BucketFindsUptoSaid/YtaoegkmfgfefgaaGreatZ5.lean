/- The walks, part 5: the evaluator, the functions, the laws. Conditions: none. -/
import Derived.Test.YtaoegkmfgfefgaaGreatZ4
namespace Go.Proofs.YtaoegkmfgfefgaaGreat.Ev
set_option linter.unusedVariables false
set_option linter.unusedSimpArgs false
inductive Sk where
 | same
 | sl (sz:Nat) (row:List Sk)
 | agg (row:List Sk)
 | ptr (row:List Sk)
def frzRows (sz:Nat) (g:List AV→Option (List AV)):Nat→List AV→Option (List (List AV))
 | 0,_=>some []
 | n+1,l=>match g (l.take sz) with
  | some r=>match frzRows sz g n (l.drop sz) with
   | some rs=>some (r::rs)
   | none=>none
  | none=>none
mutual
def frzS (H:Hp):Sk→AV→Option AV
 | .same,x=>bif noId x then some x else none
 | .sl sz row,x=>match x with
  | .lit (.slice none 0 0)=>some (.imm sz [])
  | .emp=>some (.imm sz [])
  | .se _ _ _=>some (.imm sz [])
  | .imm s rows=>bif noId (.imm s rows) then some (.imm s rows) else none
  | .sl id off s len _=>bif Nat.beq s sz then match H.get id with
    | some (.cells cs _)=>match frzRows sz (fun l=>frzR H row l) len (cs.drop off) with
     | some rows=>bif Nat.beq row.length sz then some (.imm sz rows) else none
     | none=>none
    | _=>none
   else none
  | _=>none
 | .agg row,x=>match x with
  | .agg xs=>match frzR H row xs with
   | some ys=>some (.agg ys)
   | none=>none
  | _=>none
 | .ptr row,x=>match x with
  | .ptr id off=>match H.get id with
   | some (.cells cs _)=>match frzR H row ((cs.drop off).take row.length) with
    | some ys=>some (.ip ys)
    | none=>none
   | _=>none
  | _=>none
def frzR (H:Hp):List Sk→List AV→Option (List AV)
 | [],xs=>match xs with
  | []=>some []
  | _=>none
 | k::ks,xs=>match xs with
  | x::xs=>match frzS H k x with
   | some y=>match frzR H ks xs with
    | some ys=>some (y::ys)
    | none=>none
   | none=>none
  | []=>none
end
theorem frzRows_ok {sz:Nat} {g:List AV→Option (List AV)} {H:Hp} (hg:∀ l r,g l=some r→FzL H l r):∀ (n:Nat) (l:List AV) (rows:List (List AV)),frzRows sz g n l=some rows→rows.length=n∧∀ (i:Nat) (row:List AV),rows[i]?=some row→FzL H ((l.drop (i*sz)).take sz) row
 | 0,l,rows,h=>by
  simp only [frzRows,Option.some.injEq] at h
  subst h
  exact ⟨rfl,fun i row h=>by simp at h⟩
 | n+1,l,rows,h=>by
  simp only [frzRows] at h
  split at h
  case h_2=>cases h
  rename_i r hr
  split at h
  case h_2=>cases h
  rename_i rs hrs
  simp only [Option.some.injEq] at h
  subst h
  obtain ⟨h1,h2⟩:=frzRows_ok hg n _ _ hrs
  refine ⟨by simp [h1],fun i row hi=>?_⟩
  cases i with
  | zero =>
   simp at hi
   subst hi
   simpa using hg _ _ hr
  | succ i =>
   simp at hi
   have:=h2 i row hi
   rw [List.drop_drop] at this
   rw [Nat.succ_mul,Nat.add_comm]
   exact this
theorem FzL.len {H:Hp} {xs ys:List AV} (h:FzL H xs ys):xs.length=ys.length:=h.get.1
mutual
theorem frzS_ok {H:Hp}:∀ (k:Sk) (x y:AV),frzS H k x=some y→Fz H x y
 | .same,x,y,h=>by
  simp only [frzS] at h
  cases hn:noId x with
  | false=>rw [hn] at h; cases h
  | true=>rw [hn] at h; cases h; exact .refl hn
 | .sl sz row,x,y,h=>by
  simp only [frzS] at h
  split at h
  ·cases h; exact .nil
  ·cases h; exact .emp
  ·cases h; exact .se
  ·rename_i s rows
   cases hn:noId (.imm s rows) with
   | false=>rw [hn] at h; cases h
   | true=>rw [hn] at h; cases h; exact .refl hn
  ·rename_i id off s len cap
   cases hs:Nat.beq s sz with
   | false=>rw [hs] at h; cases h
   | true =>
    rw [hs] at h
    have:=Nat.eq_of_beq_eq_true hs
    subst this
    simp only [cond_true] at h
    split at h
    case h_2=>cases h
    rename_i cs ex hg
    split at h
    case h_2=>cases h
    rename_i rows hr
    cases hl:Nat.beq row.length s with
    | false=>rw [hl] at h; cases h
    | true =>
     rw [hl] at h
     cases h
     have hlen:=Nat.eq_of_beq_eq_true hl
     obtain ⟨h1,h2⟩:=frzRows_ok (fun l r hh=>frzR_ok row l r hh) _ _ _ hr
     have hrow:∀ (i:Nat) (r:List AV),rows[i]?=some r→r.length=s:=by
      intro i r hi
      obtain ⟨_,hh⟩:=frzRows_ok (g:=fun l=>frzR H row l) (fun l r hh=>frzR_ok row l r hh) _ _ _ hr
      exact frzRows_len (fun l r hh=>by rw [← hlen]; exact frzR_len row l r hh) _ _ _ hr i r hi
     refine .sl (fun i j=>cs.getD (off+(i*s+j)) .any) hg h1 hrow (fun i r j y hi hy=>?_) (fun i r j y hi hy=>?_)
     ·obtain ⟨x,hx,_⟩:=(h2 i r hi).get.2 j y hy
      have hj:j<s:=by rw [← hrow i r hi]; exact (List.getElem?_eq_some_iff.1 hy).1
      rw [List.getElem?_take,if_pos hj,List.getElem?_drop,List.getElem?_drop] at hx
      simp [hx]
     ·obtain ⟨x,hx,hf⟩:=(h2 i r hi).get.2 j y hy
      have hj:j<s:=by rw [← hrow i r hi]; exact (List.getElem?_eq_some_iff.1 hy).1
      rw [List.getElem?_take,if_pos hj,List.getElem?_drop,List.getElem?_drop] at hx
      simp [hx]
      exact hf
  ·cases h
 | .agg row,x,y,h=>by
  simp only [frzS] at h
  split at h
  case h_2=>cases h
  split at h
  case h_2=>cases h
  rename_i hr
  cases h
  exact Fz.aggL (frzR_ok row _ _ hr)
 | .ptr row,x,y,h=>by
  simp only [frzS] at h
  split at h
  case h_2=>cases h
  rename_i id off
  split at h
  case h_2=>cases h
  rename_i cs ex hg
  split at h
  case h_2=>cases h
  rename_i ys hr
  cases h
  have hl:=(frzR_ok row _ _ hr).get
  refine .ptr (fun j=>cs.getD (off+j) .any) hg (fun j y hy=>?_) (fun j y hy=>?_)
  ·obtain ⟨x,hx,_⟩:=hl.2 j y hy
   rw [List.getElem?_take] at hx
   split at hx
   ·rw [List.getElem?_drop] at hx
    simp [hx]
   ·cases hx
  ·obtain ⟨x,hx,hf⟩:=hl.2 j y hy
   rw [List.getElem?_take] at hx
   split at hx
   ·rw [List.getElem?_drop] at hx
    simp [hx]
    exact hf
   ·cases hx
theorem frzR_ok {H:Hp}:∀ (ks:List Sk) (xs ys:List AV),frzR H ks xs=some ys→FzL H xs ys
 | [],xs,ys,h=>by
  simp only [frzR] at h
  split at h
  ·cases h; exact .nil
  ·cases h
 | k::ks,xs,ys,h=>by
  simp only [frzR] at h
  split at h
  case h_2=>cases h
  rename_i x xs
  split at h
  case h_2=>cases h
  rename_i y hy
  split at h
  case h_2=>cases h
  rename_i zs hz
  cases h
  exact .cons (frzS_ok k x y hy) (frzR_ok ks xs zs hz)
theorem frzR_len {H:Hp}:∀ (ks:List Sk) (xs ys:List AV),frzR H ks xs=some ys→ys.length=ks.length
 | [],xs,ys,h=>by
  simp only [frzR] at h
  split at h
  ·cases h; rfl
  ·cases h
 | k::ks,xs,ys,h=>by
  simp only [frzR] at h
  split at h
  case h_2=>cases h
  split at h
  case h_2=>cases h
  split at h
  case h_2=>cases h
  rename_i zs hz
  cases h
  simp [frzR_len ks _ _ hz]
theorem frzRows_len {sz:Nat} {g:List AV→Option (List AV)} (hg:∀ l r,g l=some r→r.length=sz):∀ (n:Nat) (l:List AV) (rows:List (List AV)),frzRows sz g n l=some rows→∀ (i:Nat) (r:List AV),rows[i]?=some r→r.length=sz
 | 0,l,rows,h,i,r,hi=>by
  simp only [frzRows,Option.some.injEq] at h
  subst h
  simp at hi
 | n+1,l,rows,h,i,r,hi=>by
  simp only [frzRows] at h
  split at h
  case h_2=>cases h
  rename_i r0 hr0
  split at h
  case h_2=>cases h
  rename_i rs hrs
  cases h
  cases i with
  | zero=>simp at hi; subst hi; exact hg _ _ hr0
  | succ i=>exact frzRows_len hg n _ _ hrs i r (by simpa using hi)
end
def skStrs:Sk:=.sl 1 [.same]
def skAts:Sk:=.sl 3 [.same,.same,.same]
def skCp (pss:Sk):List Sk:=[.same,skStrs,skStrs,skAts,pss]
def skPss:Nat→Sk
 | 0=>.same
 | n+1=>.sl 4 [.same,.same,.same,.sl 1 [.sl 6 (.same::skCp (skPss n))]]
def skPts (n:Nat):Sk:=.sl 6 (.same::skCp (skPss n))
def skSls (n:Nat):Sk:=.sl 1 [skPts n]
end Go.Proofs.YtaoegkmfgfefgaaGreat.Ev
namespace Go.Proofs.YtaoegkmfgfefgaaGreat.Ev
theorem Good.conv {P:Program} {σ:Sig} {f:Nat} {xs ys:List AV} {r:AV} {H H2 H3:Hp} (k:Wk σ ys H xs H2) (h:Good P σ f xs H2 r H3):Good P σ f ys H r H3:=by
 refine ⟨h.1,fun B w0 E w vs hσ hst hxs=>?_⟩
 obtain ⟨E2,h1,h2,h3⟩:=k hσ hst hxs
 refine (h.2 B w0 E2 w vs hσ h2 h3).mono fun e w' hh=>?_
 obtain ⟨E',v,rfl,hext,st2,hrel⟩:=hh
 exact ⟨E',v,rfl,h1.trans hext,st2,hrel⟩
def Hp.bare (n:Nat):Hp:=⟨n,.leaf⟩
@[simp] theorem Hp.bare_n (n:Nat):(Hp.bare n).n=n:=rfl
@[simp] theorem Hp.bare_get (n j:Nat):(Hp.bare n).get j=none:=by simp [Hp.bare,Hp.get,Tr.get]
theorem FzL.t {H:Hp} {xs ys:List AV} (h:FzL H xs ys):FzT H xs ys:=by
 induction h with
 | nil=>exact .nil
 | cons h hs ih=>exact .fz h ih
theorem Good.drop {P:Program} {σ:Sig} {f:Nat} {xs ys:List AV} {r:AV} {H:Hp} (h:∀ H,Good P σ f xs H r H) (hx:FzL H ys xs):Good P σ f ys H r (Hp.bare H.n) :=
 Good.conv (Wk.frz (H2:=Hp.bare H.n) (Hd:=H) rfl rfl (fun id k hk=>⟨hk,by simp⟩) (fun id k2 hk=>by simp at hk) hx.t) (h _)
theorem bnd_of {α:Type} {o:Option α} {x:α} {K:α→Prop} (h:o=some x) (k:K x):bnd o K:=by rw [h]; exact k
end Go.Proofs.YtaoegkmfgfefgaaGreat.Ev
namespace Go.Proofs.YtaoegkmfgfefgaaGreat.Ev
set_option linter.unusedVariables false
set_option linter.unusedSimpArgs false
inductive Gsc (sz:Nat) (H:Hp):AV→List (List AV)→Prop where
 | gs {x:AV} {rows:List (List AV)} (h:Gs sz H x rows):Gsc sz H x rows
 | full {id:Nat} {ex:Bool} {rows:List (List AV)} (hlt:id<H.n) (hg:H.get id=some (.cells rows.flatten ex)) (hsz:∀ row ∈ rows,row.length=sz) (h0:rows≠[]):Gsc sz H (.sl id 0 sz rows.length (some rows.length)) rows
theorem Gsc.lit {sz:Nat} {H:Hp} {row:List AV} (hl:row.length=sz):Gsc sz (H.new (.cells row true)) (.sl H.n 0 sz 1 (some 1)) [row]:=by
 refine .full (id:=H.n) (rows:=[row]) (by simp) (by simp; rfl) (by simp [hl]) (by simp)
theorem LoopP.drop {P:Program} {C:Ctx P} {c:Code} {T T2:List AV} {H:Hp} {Q:Exit→List AV→Hp→Prop} (hT:FzT H T T2) (h:LoopP C c T2 (Hp.bare H.n) Q):LoopP C c T H Q :=
 LoopP.conv (Wk.frz (H2:=Hp.bare H.n) (Hd:=H) rfl rfl (fun id k hk=>⟨hk,by simp⟩) (fun id k2 hk=>by simp at hk) hT) h
end Go.Proofs.YtaoegkmfgfefgaaGreat.Ev
namespace Go.Proofs.YtaoegkmfgfefgaaGreat.Ev
theorem FzTr {Hd:Hp}:∀ (T:List AV),FzT Hd T T
 | []=>.nil
 | x::T=>.same (FzTr T)
end Go.Proofs.YtaoegkmfgfefgaaGreat.Ev
namespace Go.Proofs.YtaoegkmfgfefgaaGreat.Ev
set_option linter.unusedVariables false
set_option linter.unusedSimpArgs false
variable {σ:Sig} {L:List Nd} {d:List Nat}
def TxL:Nat→List Sl→Prop
 | 0,_=>False
 | f+1,l=>∀ s ∈ l,∀ p ∈ s,(∀ a ∈ p.c.attrs,a.text.data.size<4294967281)∧∀ q ∈ p.c.pseudos,TxL f q.list
theorem TxL.one {f:Nat} {l:List Sl} (h:TxL f l) {s:Sl} (hs:s ∈ l):TxL f [s]:=by
 cases f with
 | zero=>exact h
 | succ f=>exact fun s' hs'=>by rw [List.mem_singleton.1 hs']; exact h s hs
theorem RcOk.of {c:Cp} (h:CpOk c) (ht:∀ a ∈ c.attrs,a.text.data.size<4294967281):RcOk c:=⟨h.ids,h.classes,h.attrs,h.ps,ht⟩
theorem rs_of:∀ (f:Nat) (l:List Sl) (dp:Nat),SlsOk f l→TxL f l→mayF f l dp=true→RsOk f l
 | 0,l,dp,h,_,_=>h
 | f+1,l,dp,h,ht,hm=>by
  refine ⟨Nat.le_trans h.1 (by decide),fun s hs=>?_⟩
  have h1:=h.2 s hs
  have h2:=List.all_eq_true.1 hm s hs
  unfold mayS at h2
  simp only [Bool.and_eq_true,decide_eq_true_eq] at h2
  refine ⟨h2.1,fun p hp=>?_⟩
  have h3:=h1.2 p hp
  have h4:=ht s hs p hp
  refine ⟨.of h3.1 h4.1,fun q hq=>⟨(h3.2.2 q hq).1,fun hk=>?_⟩⟩
  have h5:=List.all_eq_true.1 (List.all_eq_true.1 h2.2 p hp) q hq
  unfold mayQ at h5
  rw [if_pos hk] at h5
  simp only [Bool.and_eq_true] at h5
  exact rs_of f q.list (dp - 1) (h3.2.2 q hq).2 (h4.2 q hq) h5.2
theorem frB_AA {f:Nat} {s:Sl} (hn:Nest f [s]) (hf:f≤12) (e:Nat):AA L [s] e=frB L s e:=by
 rw [← AA_eq hn hf]
 simp [anyS,frB]
theorem mayF_one {f:Nat} {s:Sl} {dp:Nat}:mayF (f+1) [s] dp=mayS (mayF f) dp s:=by simp [mayF]
theorem rTopSel_ok (M:McT σ L d) {f:Nat} {s:Sl} (S:SelOk (f+1) [s]) (ht:TxL (f+1) [s]) (e:Int) (H:Hp):Good Tryz.prog σ n_ref9_Tree_Selector [refT L d,I e,.agg (encSl s)] H (Bo (selB L (f+1) s e)) H:=by
 refine good_by (fun K hK=>ref9_Tree_Selector.run ?_) (by simp [noIds,noId,noId_refT,noId_Sl]) rfl H
 have hwf:=S.wf.2 s (by simp)
 have hn:=S.nest
 simp only [boxK_agg]
 have hl:ldA true 1 (Hp.empty.new (.cells (encSl s) true)) (.ptr Hp.empty.n 0)=some (.agg (encSl s)):=by simp
 simp only [hl,bnd_some]
 refine callK_of (ds_ok f s 0 _ hwf (fun p hp q hq=>hn s (by simp) p hp q hq) (by decide)) ?_
 simp only [u_not,Bool.not_not,bnd_some,ifB_lit,Nat.sub_zero]
 unfold selB mayAny at hK
 simp only [List.any_cons,List.any_nil,Bool.or_false,mayF_one] at hK
 cases hm:mayS (mayF f) 8 s with
 | false=>rw [hm] at hK; simpa using hK _
 | true =>
  rw [hm] at hK
  simp only [if_true,hl,bnd_some]
  have hm':mayF (f+1) [s] 8=true:=by rw [mayF_one]; exact hm
  have hr:=rs_of (f+1) [s] 8 S.ok ht hm'
  have h1:=(rany_ok (σ:=σ) M.hB M.hN M.sm (f+1) [s] 0 S.hf hr hn (by have:=S.hf; omega)).1 s (by simp)
  refine callK_of (rsel_ok M.hB M.hN M.sm h1.1 (by decide) h1.2 _) ?_
  rw [frB_AA hn S.hf,Bool.true_and] at hK
  exact hK _
end Go.Proofs.YtaoegkmfgfefgaaGreat.Ev
namespace Go.Proofs.YtaoegkmfgfefgaaGreat.Ev
set_option linter.unusedVariables false
set_option linter.unusedSimpArgs false
theorem rows_map {α:Type} {f:α→List AV} {P:α→Prop}:∀ {rows:List (List AV)},(∀ row ∈ rows,∃ x,row=f x∧P x)→∃ l:List α,rows=l.map f∧∀ x ∈ l,P x
 | [],_=>⟨[],rfl,fun x hx=>by cases hx⟩
 | r::rs,h=>by
  obtain ⟨x,hx,px⟩:=h r (by simp)
  obtain ⟨l,hl,pl⟩:=rows_map (rows:=rs) fun row hr=>h row (by simp [hr])
  refine ⟨x::l,by rw [hx,hl]; rfl,fun y hy=>?_⟩
  rcases List.mem_cons.1 hy with rfl | hy
  ·exact px
  ·exact pl y hy
theorem d_int {ts:List Nat} {zs:List AV} (h:Sh tiT.get (T_int::ts) zs):∃ n ys,zs=I n::ys∧i64 n∧Sh tiT.get ts ys:=by
 obtain ⟨i,hi,hd,_⟩:=T_int_is
 obtain ⟨n,ys,e,hw,hs⟩:=sh_int hi hd h
 refine ⟨n,ys,e,?_,hs⟩
 simp [Lit.wf,IntKind.min,IntKind.max,IntKind.signed,IntKind.bits] at hw
 unfold i64
 omega
theorem d_str {ts:List Nat} {zs:List AV} (h:Sh tiT.get (T_string::ts) zs):∃ s ys,zs=Sx s::ys∧s.data.size≤Lmax∧Sh tiT.get ts ys:=by
 obtain ⟨i,hi,hd,_⟩:=T_string_is
 obtain ⟨s,ys,e,hw,hs⟩:=sh_str hi hd h
 exact ⟨s,ys,e,Nat.le_trans hw (by decide),hs⟩
theorem d_bool {ts:List Nat} {zs:List AV} (h:Sh tiT.get (T_bool::ts) zs):∃ b ys,zs=Bo b::ys∧Sh tiT.get ts ys:=by
 obtain ⟨i,hi,hd,_⟩:=T_bool_is
 exact sh_bool hi hd h
theorem d_slice {t e sz:Nat} (hT:∃ i,tiT.get t=some i∧i.d=.slice e∧i.size=1) (hE:∃ i,tiT.get e=some i∧i.size=sz) {ts:List Nat} {zs:List AV} (h:Sh tiT.get (t::ts) zs) :
  ∃ rows ys,zs=.imm sz rows::ys∧(∀ row ∈ rows,Sh tiT.get [e] row)∧rows.length≤Lmax∧Sh tiT.get ts ys:=by
 obtain ⟨i,hi,hd,_⟩:=hT
 obtain ⟨j',hj',hs'⟩:=hE
 rcases sh_slice hi hd h with ⟨ys,_,_⟩ | ⟨j,rows,ys,hj,e,hr,hl,hm,_,hs⟩
 ·cases h with
  | sl h' hd' he hc hl hm hb hs=>rw [hi] at h'; cases h'; rw [hd] at hd'; cases hd'; rw [hj'] at he; cases he; exact ⟨_,_,by rw [hs'],hc,hm,hs⟩
  | _=>simp_all
 ·rw [hj'] at hj
  cases hj
  rw [hs'] at e
  exact ⟨rows,ys,e,hr,hm,hs⟩
theorem d_struct {t:Nat} {fs:List (Nat × Nat)} {sz:Nat} (hT:∃ i,tiT.get t=some i∧i.d=.struct fs∧i.size=sz) {ts:List Nat} {zs:List AV} (h:Sh tiT.get (t::ts) zs):Sh tiT.get (fs.map (·.2)++ts) zs:=by
 obtain ⟨i,hi,hd,_⟩:=hT
 exact sh_struct hi hd h
theorem sz_of {t sz:Nat} {d:TD} (h:∃ i,tiT.get t=some i∧i.d=d∧i.size=sz):∃ i,tiT.get t=some i∧i.size=sz:=by
 obtain ⟨i,a,_,b⟩:=h
 exact ⟨i,a,b⟩
theorem d_strs {ts:List Nat} {zs:List AV} (h:Sh tiT.get (T_sl_string::ts) zs):∃ l ys,zs=strs l::ys∧strsWf Lmax l∧Sh tiT.get ts ys:=by
 obtain ⟨rows,ys,e,hr,hm,hs⟩:=d_slice T_sl_string_is (sz_of T_string_is) h
 obtain ⟨l,hl,hp⟩:=rows_map (f:=fun s=>[Sx s]) (P:=fun s=>s.data.size≤Lmax) fun row hrow=>by
  obtain ⟨s,ys,e,hw,hs⟩:=d_str (hr row hrow)
  rw [sh_nil hs] at e
  exact ⟨s,e,hw⟩
 exact ⟨l,ys,by rw [e,hl]; rfl,⟨by rw [hl] at hm; simpa using hm,hp⟩,hs⟩
theorem d_attrs {ts:List Nat} {zs:List AV} (h:Sh tiT.get (T_sl_api_Attr::ts) zs):∃ (l:List At) (ys:List AV),zs=.imm 3 (l.map encAt)::ys∧(l.length≤Lmax∧∀ x ∈ l,x.name.data.size≤Lmax∧i64 x.op∧x.text.data.size≤Lmax)∧Sh tiT.get ts ys:=by
 obtain ⟨rows,ys,e,hr,hm,hs⟩:=d_slice T_sl_api_Attr_is (sz_of T_api_Attr_is) h
 obtain ⟨l,hl,hp⟩:=rows_map (f:=encAt) (P:=fun x=>x.name.data.size≤Lmax∧i64 x.op∧x.text.data.size≤Lmax) fun row hrow=>by
  have h1:=d_struct T_api_Attr_is (hr row hrow)
  obtain ⟨a,y1,e1,w1,h2⟩:=d_str h1
  obtain ⟨b,y2,e2,w2,h3⟩:=d_int h2
  obtain ⟨c,y3,e3,w3,h4⟩:=d_str h3
  rw [sh_nil h4] at e3
  exact ⟨⟨a,b,c⟩,by rw [e1,e2,e3]; rfl,w1,w2,w3⟩
 exact ⟨l,ys,by rw [e,hl],⟨by rw [hl] at hm; simpa using hm,hp⟩,hs⟩
theorem d_parts:∀ (n:Nat) {ts:List Nat} {zs:List AV},SizeOf.sizeOf zs≤n→Sh tiT.get (T_sl_api_Part::ts) zs→∃ (l:List Pt) (ys:List AV),zs=.imm 6 (l.map encPt)::ys∧(l.length≤Lmax∧∀ p ∈ l,Pt.wf Lmax p)∧Sh tiT.get ts ys
 | 0,ts,zs,hn,h=>by cases zs<;>simp at hn
 | n+1,ts,zs,hn,h=>by
  obtain ⟨rows,ys,e,hr,hm,hs⟩:=d_slice T_sl_api_Part_is (sz_of T_api_Part_is) h
  obtain ⟨l,hl,hp⟩:=rows_map (f:=encPt) (P:=fun p=>Pt.wf Lmax p) fun row hrow=>by
   have hsz:SizeOf.sizeOf row<n:=by
    have h1:SizeOf.sizeOf row<SizeOf.sizeOf rows:=List.sizeOf_lt_of_mem hrow
    rw [e] at hn
    simp only [List.cons.sizeOf_spec,AV.imm.sizeOf_spec] at hn
    omega
   obtain ⟨k,y1,e1,w1,h1⟩:=d_int (d_struct T_api_Part_is (hr row hrow))
   have h1:=d_struct T_api_Compound_is h1
   obtain ⟨t,y2,e2,w2,h2⟩:=d_str h1
   obtain ⟨i,y3,e3,w3,h3⟩:=d_strs h2
   obtain ⟨c,y4,e4,w4,h4⟩:=d_strs h3
   obtain ⟨a,y5,e5,w5,h5⟩:=d_attrs h4
   obtain ⟨prows,y6,e6,hpr,hpm,h6⟩:=d_slice T_sl_api_Pseudo_is (sz_of T_api_Pseudo_is) h5
   rw [sh_nil h6] at e6
   subst e6 e5 e4 e3 e2 e1
   obtain ⟨ps,hps,hpp⟩:=rows_map (f:=encPs) (P:=fun p=>Ps.wf Lmax p) fun prow hprow=>by
    have hsz2:SizeOf.sizeOf prow<n:=by
     have h1:SizeOf.sizeOf prow<SizeOf.sizeOf prows:=List.sizeOf_lt_of_mem hprow
     simp only [List.cons.sizeOf_spec,AV.imm.sizeOf_spec] at hsz
     omega
    have g1:=d_struct T_api_Pseudo_is (hpr prow hprow)
    obtain ⟨k,y1,e1,w1,g2⟩:=d_int g1
    obtain ⟨a,y2,e2,w2,g3⟩:=d_int g2
    obtain ⟨b,y3,e3,w3,g4⟩:=d_int g3
    obtain ⟨srows,y4,e4,hsr,hsm,g5⟩:=d_slice T_sl_api_Selector_is (sz_of T_api_Selector_is) g4
    rw [sh_nil g5] at e4
    subst e4 e3 e2 e1
    obtain ⟨ss,hss,hsp⟩:=rows_map (f:=encSl) (P:=slWf Lmax) fun srow hsrow=>by
     have hsz3:SizeOf.sizeOf srow<n:=by
      have h1:SizeOf.sizeOf srow<SizeOf.sizeOf srows:=List.sizeOf_lt_of_mem hsrow
      simp only [List.cons.sizeOf_spec,AV.imm.sizeOf_spec] at hsz2
      omega
     obtain ⟨l,y1,e1,w1,q1⟩:=d_parts n (by omega) (d_struct T_api_Selector_is (hsr srow hsrow))
     rw [sh_nil q1] at e1
     exact ⟨l,e1,w1.1,w1.2⟩
    refine ⟨.mk k a b ss,by rw [encPs_eq,hss]; rfl,?_⟩
    rw [Ps.wf_iff]
    exact ⟨w1,w2,w3,by rw [hss,List.length_map] at hsm; exact hsm,hsp⟩
   refine ⟨.mk k (.mk t i c a ps),by rw [encPt_eq,encCp_eq,hps]; rfl,?_⟩
   rw [Pt.wf_iff]
   exact ⟨w1,w2,w3,w4,w5.1,w5.2,by rw [hps,List.length_map] at hpm; exact hpm,hpp⟩
  exact ⟨l,ys,by rw [e,hl],⟨by rw [hl] at hm; simpa using hm,hp⟩,hs⟩
theorem d_sel {ts:List Nat} {zs:List AV} (h:Sh tiT.get (T_api_Selector::ts) zs):∃ (s:Sl) (ys:List AV),zs=encSl s++ys∧slWf Lmax s∧Sh tiT.get ts ys:=by
 obtain ⟨l,ys,e,w,hs⟩:=d_parts _ (Nat.le_refl _) (d_struct T_api_Selector_is h)
 exact ⟨l,ys,e,w,hs⟩
theorem d_sels {ts:List Nat} {zs:List AV} (h:Sh tiT.get (T_sl_api_Selector::ts) zs):∃ l ys,zs=sls l::ys∧slsWf Lmax l∧Sh tiT.get ts ys:=by
 obtain ⟨rows,ys,e,hr,hm,hs⟩:=d_slice T_sl_api_Selector_is (sz_of T_api_Selector_is) h
 obtain ⟨l,hl,hp⟩:=rows_map (f:=encSl) (P:=slWf Lmax) fun row hrow=>by
  obtain ⟨s,y,e,w,hs⟩:=d_sel (hr row hrow)
  rw [sh_nil hs,List.append_nil] at e
  exact ⟨s,e,w⟩
 exact ⟨l,ys,by rw [e,hl]; rfl,⟨by rw [hl] at hm; simpa using hm,hp⟩,hs⟩
def readB:List Nat:=[T_int,T_string,T_bool,T_sl_string,T_sl_api_Attr,T_api_Attr,T_sl_api_Part,T_api_Part,T_api_Compound,T_sl_api_Pseudo,T_api_Pseudo,T_sl_api_Selector,T_api_Selector,T_sl_api_Node,T_api_Node,T_sl_api_Pair,T_api_Pair]
end Go.Proofs.YtaoegkmfgfefgaaGreat.Ev
namespace Go.Proofs.YtaoegkmfgfefgaaGreat.Ev
theorem v_one {t sz:Nat} {d:TD} (hT:∃ i,tiT.get t=some i∧i.d=d∧i.size=sz) (ha:d.agg=false) {x:AV} (h:ShV tiT.get t x):Sh tiT.get [t] [x]:=by
 obtain ⟨i,hi,hd,_⟩:=hT
 unfold ShV at h
 rw [hi] at h
 simp only [hd,ha] at h
 exact h
end Go.Proofs.YtaoegkmfgfefgaaGreat.Ev
namespace Go.Proofs.YtaoegkmfgfefgaaGreat.Ev
theorem d_strR {ts:List Nat} {zs:List AV} (h:Sh tiT.get (T_string::ts) zs):∃ s ys,zs=Sx s::ys∧s.data.size≤reachBytes∧Sh tiT.get ts ys:=by
 obtain ⟨i,hi,hd,_⟩:=T_string_is
 obtain ⟨s,ys,e,hw,hs⟩:=sh_str hi hd h
 exact ⟨s,ys,e,hw,hs⟩
theorem d_sliceB {t e sz B:Nat} (hT:∃ i,tiT.get t=some i∧i.d=.slice e∧i.size=1) (hE:∃ i,tiT.get e=some i∧i.size=sz) (hB:(tiT.get e).map (·.bytes)=some B) {ts:List Nat} {zs:List AV} (h:Sh tiT.get (t::ts) zs) :
  ∃ rows ys,zs=.imm sz rows::ys∧(∀ row ∈ rows,Sh tiT.get [e] row)∧rows.length*B≤reachBytes∧Sh tiT.get ts ys:=by
 obtain ⟨i,hi,hd,_⟩:=hT
 obtain ⟨j',hj',hs'⟩:=hE
 rw [hj'] at hB
 simp only [Option.map_some,Option.some.injEq] at hB
 cases h with
 | sl h' hd' he hc hl hm hb hs=>rw [hi] at h'; cases h'; rw [hd] at hd'; cases hd'; rw [hj'] at he; cases he; exact ⟨_,_,by rw [hs'],hc,by rw [← hB]; exact hb,hs⟩
 | _=>simp_all
theorem d_strsR {ts:List Nat} {zs:List AV} (h:Sh tiT.get (T_sl_string::ts) zs):∃ l ys,zs=strs l::ys∧l.length*16≤reachBytes∧Sh tiT.get ts ys:=by
 obtain ⟨rows,ys,e,hr,hm,hs⟩:=d_sliceB T_sl_string_is (sz_of T_string_is) (B:=16) (by kernel_rfl) h
 obtain ⟨l,hl,hp⟩:=rows_map (f:=fun s=>[Sx s]) (P:=fun s=>True) fun row hrow=>by
  obtain ⟨s,ys,e,hw,hs⟩:=d_str (hr row hrow)
  rw [sh_nil hs] at e
  exact ⟨s,e,trivial⟩
 exact ⟨l,ys,by rw [e,hl]; rfl,by rw [hl] at hm; simpa using hm,hs⟩
theorem d_pairs {ts:List Nat} {zs:List AV} (h:Sh tiT.get (T_sl_api_Pair::ts) zs):∃ (l:List (ByteArray × ByteArray)) (ys:List AV),zs=.imm 2 (l.map encPr)::ys∧(l.length*32≤reachBytes∧∀ x ∈ l,x.1.data.size≤reachBytes)∧Sh tiT.get ts ys:=by
 obtain ⟨rows,ys,e,hr,hm,hs⟩:=d_sliceB T_sl_api_Pair_is (sz_of T_api_Pair_is) (B:=32) (by kernel_rfl) h
 obtain ⟨l,hl,hp⟩:=rows_map (f:=encPr) (P:=fun x=>x.1.data.size≤reachBytes) fun row hrow=>by
  obtain ⟨a,y1,e1,w1,h2⟩:=d_strR (d_struct T_api_Pair_is (hr row hrow))
  obtain ⟨b,y2,e2,w2,h3⟩:=d_strR h2
  rw [sh_nil h3] at e2
  exact ⟨⟨a,b⟩,by rw [e1,e2]; rfl,w1⟩
 exact ⟨l,ys,by rw [e,hl],⟨by rw [hl] at hm; simpa using hm,hp⟩,hs⟩
theorem d_nodes {ts:List Nat} {zs:List AV} (h:Sh tiT.get (T_sl_api_Node::ts) zs):∃ (l:List Nd) (ys:List AV),zs=nds l::ys∧(∀ x ∈ l,NdWf x)∧l.length≤Lmax∧Sh tiT.get ts ys:=by
 obtain ⟨rows,ys,e,hr,hm,hs⟩:=d_slice T_sl_api_Node_is (sz_of T_api_Node_is) h
 obtain ⟨l,hl,hp⟩:=rows_map (f:=encNd) (P:=NdWf) fun row hrow=>by
  obtain ⟨p,y1,e1,w1,h2⟩:=d_int (d_struct T_api_Node_is (hr row hrow))
  obtain ⟨t,y2,e2,w2,h3⟩:=d_strR h2
  obtain ⟨i,y3,e3,w3,h4⟩:=d_strR h3
  obtain ⟨c,y4,e4,w4,h5⟩:=d_strsR h4
  obtain ⟨a,y5,e5,w5,h6⟩:=d_pairs h5
  rw [sh_nil h6] at e5
  exact ⟨⟨p,t,i,c,a⟩,by rw [e1,e2,e3,e4,e5]; rfl,w1,w2,w4,w5.1,w5.2⟩
 exact ⟨l,ys,by rw [e,hl]; rfl,hp,by rw [hl] at hm; simpa using hm,hs⟩
theorem v_nodes {x:AV} (h:ShV tiT.get T_sl_api_Node x):∃ l,x=nds l∧(∀ n ∈ l,NdWf n)∧l.length≤Lmax:=by
 obtain ⟨l,ys,e,w,hl,hn⟩:=d_nodes (v_one T_sl_api_Node_is rfl h)
 cases e
 exact ⟨l,rfl,w,hl⟩
end Go.Proofs.YtaoegkmfgfefgaaGreat.Ev
namespace Go.Proofs.YtaoegkmfgfefgaaGreat.Ev
set_option linter.unusedVariables false
set_option linter.unusedSimpArgs false
theorem sum_bk {α:Type} {f:α→List AV} {g:α→Nat}:∀ {l:List α},(∀ x ∈ l,g x≤bkL (f x))→(l.map g).sum≤bkLL (l.map f)
 | [],_=>by simp [bkLL]
 | x::r,h=>by
  have h1:=h x (by simp)
  have h2:=sum_bk (f:=f) (g:=g) (l:=r) fun y hy=>h y (by simp [hy])
  simp only [List.map_cons,List.sum_cons,bkLL]
  omega
theorem len_bk {α:Type} {f:α→List AV} {l:List α} (h:∀ x ∈ l,1≤bkL (f x)):l.length≤bkLL (l.map f):=by
 have h1:=sum_bk (f:=f) (g:=fun _=>1) (l:=l) h
 have h2:∀ l:List α,(l.map fun _=>1).sum=l.length:=by
  intro l
  induction l with
  | nil=>rfl
  | cons a r ih=>simp only [List.map_cons,List.sum_cons,List.length_cons,ih]; omega
 rw [h2] at h1
 exact h1
theorem mem_bk {α:Type} {f:α→List AV} {l:List α} {x:α} (h:x ∈ l):bkL (f x)≤bkLL (l.map f):=bkLL_mem (List.mem_map_of_mem h)
theorem bk_S (s:ByteArray):bk (Sx s)=s.data.size+1:=by simp [bk]
theorem bk_I (n:Int):bk (I n)=1:=by simp [bk]
theorem bk_imm (sz:Nat) (rows:List (List AV)):bk (.imm sz rows)=bkLL rows+1:=by simp [bk]
theorem bk_strs (l:List ByteArray):bk (strs l)=bkLL (l.map fun s=>[Sx s])+1:=by unfold strs; rw [bk_imm]
theorem bk_cp (c:Cp):bkL (encCp c)=(c.tag.data.size+1)+((bkLL (c.ids.map fun s=>[Sx s])+1)+((bkLL (c.classes.map fun s=>[Sx s])+1)+((bkLL (c.attrs.map encAt)+1)+(bkLL (c.pseudos.map encPs)+1)))):=by
 rw [encCp_eq]
 simp only [bkL,bk_S,bk_strs,bk_imm,Nat.add_zero]
theorem bk_pt (p:Pt):bkL (encPt p)=1+bkL (encCp p.c):=by rw [encPt_eq]; simp only [bkL,bk_I]
theorem bk_ps (q:Ps):bkL (encPs q)=1+(1+(1+(bkLL (q.list.map encSl)+1))):=by rw [encPs_eq]; simp only [bkL,bk_I,bk_imm,Nat.add_zero]
theorem bk_sl (s:Sl):bkL (encSl s)=bkLL (s.map encPt)+1:=by unfold encSl; simp only [bkL,bk_imm,Nat.add_zero]
theorem bk_at (a:At):bkL (encAt a)=(a.name.data.size+1)+(1+(a.text.data.size+1)):=by unfold encAt; simp only [bkL,bk_S,bk_I,Nat.add_zero]
structure PtB (f:Nat) (p:Pt):Prop where
 c:CpOk p.c
 ps:p.c.pseudos.length≤NB
 q:∀ q ∈ p.c.pseudos,(i64 q.a∧i64 q.b)∧SlsOk f q.list
 tx:∀ a ∈ p.c.attrs,a.text.data.size<4294967281
 tq:∀ q ∈ p.c.pseudos,TxL f q.list
 cnt:(p.c.pseudos.map fun q=>cntF f q.list).sum+6≤bkL (encPt p)
theorem pt_bulk {f:Nat} (ih:∀ l,slsWf Lmax l→FitL f l→bkLL (l.map encSl)≤NB→SlsOk f l∧TxL f l∧cntF f l≤bkLL (l.map encSl)) {p:Pt} (hw:CpWf Lmax p.c) (hf:FitP f p) (hb:bkL (encCp p.c)≤NB):PtB f p:=by
 have hN:NB=1048576:=rfl
 have r:reachBytes=140737488351232:=rfl
 rw [bk_cp,hN] at hb
 have l1:p.c.ids.length≤bkLL (p.c.ids.map fun s=>[Sx s]):=len_bk fun s _=>by simp only [bkL,bk_S]; omega
 have l2:p.c.classes.length≤bkLL (p.c.classes.map fun s=>[Sx s]):=len_bk fun s _=>by simp only [bkL,bk_S]; omega
 have l3:p.c.attrs.length≤bkLL (p.c.attrs.map encAt):=len_bk fun s _=>by rw [bk_at]; omega
 have l4:p.c.pseudos.length≤bkLL (p.c.pseudos.map encPs):=len_bk fun s _=>by rw [bk_ps]; omega
 have ht:∀ a ∈ p.c.attrs,a.text.data.size≤1048576:=fun a ha=>by
  have h1:=mem_bk (f:=encAt) ha
  rw [bk_at] at h1
  omega
 have hq:∀ q ∈ p.c.pseudos,SlsOk f q.list∧TxL f q.list∧cntF f q.list≤bkLL (q.list.map encSl):=fun q hq=>by
  have h1:=mem_bk (f:=encPs) hq
  rw [bk_ps] at h1
  exact ih q.list (Ps.wf_iff.1 (hw.ps q hq)).2.2.2 (hf.2 q hq) (by rw [hN]; omega)
 refine ⟨⟨by omega,by omega,by omega,fun a ha=>⟨by have:=ht a ha; omega⟩,by omega⟩,by omega,fun q h=>⟨⟨(Ps.wf_iff.1 (hw.ps q h)).2.1,(Ps.wf_iff.1 (hw.ps q h)).2.2.1⟩,(hq q h).1⟩,fun a ha=>by have:=ht a ha; omega,fun q h=>(hq q h).2.1,?_⟩
 have h5:(p.c.pseudos.map fun q=>cntF f q.list).sum≤bkLL (p.c.pseudos.map encPs):=sum_bk fun q h=>by
  have:=(hq q h).2.2
  rw [bk_ps]; omega
 rw [bk_pt,bk_cp]
 omega
theorem sls_bulk:∀ (f:Nat) (l:List Sl),slsWf Lmax l→FitL f l→bkLL (l.map encSl)≤NB→SlsOk f l∧TxL f l∧cntF f l≤bkLL (l.map encSl)
 | 0,l,_,h,_=>h.elim
 | f+1,l,hw,hf,hb=>by
  have hN:NB=1048576:=rfl
  have hl:l.length≤bkLL (l.map encSl):=len_bk fun s _=>by rw [bk_sl]; omega
  have hs:∀ s ∈ l,s.length≤NB∧∀ p ∈ s,PtB f p:=fun s h=>by
   have h1:=mem_bk (f:=encSl) h
   rw [bk_sl] at h1
   have h2:s.length≤bkLL (s.map encPt):=len_bk fun p _=>by rw [bk_pt]; omega
   refine ⟨by omega,fun p hp=>?_⟩
   have h3:=mem_bk (f:=encPt) hp
   rw [bk_pt] at h3
   exact pt_bulk (sls_bulk f) (Pt.wf_iff.1 ((hw.2 s h).2 p hp)).2 ((hf s h).2 p hp) (by omega)
  refine ⟨⟨by omega,fun s h=>⟨(hs s h).1,fun p hp=>⟨((hs s h).2 p hp).c,((hs s h).2 p hp).ps,((hs s h).2 p hp).q⟩⟩⟩,fun s h p hp=>⟨((hs s h).2 p hp).tx,((hs s h).2 p hp).tq⟩,?_⟩
  rw [cntF]
  refine sum_bk fun s h=>?_
  rw [bk_sl]
  have:(s.map fun p=>(p.c.pseudos.map fun q=>cntF f q.list).sum).sum≤bkLL (s.map encPt):=sum_bk fun p hp=>by
   have:=((hs s h).2 p hp).cnt
   omega
  omega
theorem sel_bulk {l:List Sl} (hw:slsWf Lmax l) (hf:FitL 11 l) (hb:bkLL (l.map encSl)≤NB):SelOk 11 l∧TxL 11 l:=by
 obtain ⟨h1,h2,h3⟩:=sls_bulk 11 l hw hf hb
 exact ⟨⟨hw,h1,hf.nest,by decide,by omega⟩,h2⟩
end Go.Proofs.YtaoegkmfgfefgaaGreat.Ev
namespace Go.Proofs.YtaoegkmfgfefgaaGreat.Ev
set_option linter.unusedVariables false
set_option linter.unusedSimpArgs false
variable {σ:Sig}
end Go.Proofs.YtaoegkmfgfefgaaGreat.Ev
namespace Go.Proofs.YtaoegkmfgfefgaaGreat.Ev
set_option linter.unusedVariables false
set_option linter.unusedSimpArgs false
variable {σ:Sig}
structure RlWf (r:RL):Prop where
 sels:slsWf Lmax r.sels
 setsL:r.sets.length≤Lmax
 sets:∀ s ∈ r.sets,i64 s.prop∧i64 s.kind∧i64 s.n
def rlsWf (l:List RL):Prop:=l.length≤Lmax∧∀ r ∈ l,RlWf r
theorem d_sets {ts:List Nat} {zs:List AV} (h:Sh tiT.get (T_sl_api_Set::ts) zs):∃ (l:List ST) (ys:List AV),zs=.imm 4 (l.map encST)::ys∧(l.length≤Lmax∧∀ s ∈ l,i64 s.prop∧i64 s.kind∧i64 s.n)∧Sh tiT.get ts ys:=by
 obtain ⟨rows,ys,e,hr,hm,hs⟩:=d_slice T_sl_api_Set_is (sz_of T_api_Set_is) h
 obtain ⟨l,hl,hp⟩:=rows_map (f:=encST) (P:=fun s=>i64 s.prop∧i64 s.kind∧i64 s.n) fun row hrow=>by
  obtain ⟨p,y1,e1,w1,h2⟩:=d_int (d_struct T_api_Set_is (hr row hrow))
  obtain ⟨k,y2,e2,w2,h3⟩:=d_int (d_struct T_api_Value_is h2)
  obtain ⟨n,y3,e3,w3,h4⟩:=d_int h3
  obtain ⟨b,y4,e4,h5⟩:=d_bool h4
  rw [sh_nil h5] at e4
  exact ⟨⟨p,k,n,b⟩,by rw [e1,e2,e3,e4]; rfl,w1,w2,w3⟩
 exact ⟨l,ys,by rw [e,hl],⟨by rw [hl] at hm; simpa using hm,hp⟩,hs⟩
theorem d_rules {ts:List Nat} {zs:List AV} (h:Sh tiT.get (T_sl_api_Rule::ts) zs):∃ (l:List RL) (ys:List AV),zs=rls l::ys∧rlsWf l∧Sh tiT.get ts ys:=by
 obtain ⟨rows,ys,e,hr,hm,hs⟩:=d_slice T_sl_api_Rule_is (sz_of T_api_Rule_is) h
 obtain ⟨l,hl,hp⟩:=rows_map (f:=encRL) (P:=RlWf) fun row hrow=>by
  obtain ⟨s,y1,e1,w1,h2⟩:=d_sels (d_struct T_api_Rule_is (hr row hrow))
  obtain ⟨t,y2,e2,w2,h3⟩:=d_sets h2
  rw [sh_nil h3] at e2
  exact ⟨⟨s,t⟩,by rw [e1,e2]; rfl,w1,w2.1,w2.2⟩
 exact ⟨l,ys,by rw [e,hl]; rfl,⟨by rw [hl] at hm; simpa using hm,hp⟩,hs⟩
def readR:List Nat:=readB++[T_sl_api_Rule,T_api_Rule,T_sl_api_Set,T_api_Set,T_api_Value]
theorem readR_closed:closedB tiT.get readR=true:=by kernel_rfl
theorem v_rules {x:AV} (h:ShV tiT.get T_sl_api_Rule x):∃ l,x=rls l∧rlsWf l:=by
 obtain ⟨l,ys,e,w,hn⟩:=d_rules (v_one T_sl_api_Rule_is rfl h)
 cases e
 exact ⟨l,rfl,w⟩
theorem bk_rl (r:RL):bkL (encRL r)=(bkLL (r.sels.map encSl)+1)+(bkLL (r.sets.map encST)+1):=by
 unfold encRL sls
 simp only [bkL,bk_imm,Nat.add_zero]
theorem bk_rls (l:List RL):bk (rls l)=bkLL (l.map encRL)+1:=by unfold rls; rw [bk_imm]
def allSels (l:List RL):List Sl:=l.flatMap (·.sels)
structure Fit12 (l:List RL):Prop where
 len:l.length≤30
 sels:∀ r ∈ l,r.sels.length≤8
 sets:∀ r ∈ l,r.sets.length≤30
 fit:∀ r ∈ l,∀ s ∈ r.sels,FitL 11 [s]
section
theorem dear12_drop {K:AV→Hp→Prop} {y0 y3 y3' y4 y5 y6:AV} {H:Hp} (hf:Fz H y3 y3') (h:law12_Dear.L1 σ K y0 y3' y4 y5 y6 (Hp.bare H.n)):law12_Dear.L1 σ K y0 y3 y4 y5 y6 H :=
 fun js=>LoopP.drop (.same (.same (.same (.fz hf (FzTr _))))) (h js)
end
theorem all_len {l:List RL} (h:∀ r ∈ l,r.sels.length≤8):(allSels l).length≤8*l.length:=by
 induction l with
 | nil=>simp [allSels]
 | cons r l ih =>
  have h1:=h r (by simp)
  have h2:=ih fun r hr=>h r (by simp [hr])
  unfold allSels at h2 ⊢
  rw [List.flatMap_cons,List.length_append,List.length_cons]
  omega
section
attribute [local irreducible] law12_Dear.L0 law12_Dear.L1
theorem Dear12_ok (l:List RL) (hl:rlsWf l):∃ b,(∀ H,Good Tryz.prog σ n_law12_Dear [rls l] H (Bo b) H)∧(b=false→Fit12 l):=by
 have run:∃ r H1,Good Tryz.prog σ n_law12_Dear [rls l] Hp.empty r H1∧∃ b,r=Bo b∧(b=false→Fit12 l):=by
  obtain ⟨K,hKd⟩:∃ K:AV→Hp→Prop,∀ r H1,K r H1 ↔ ∃ b,r=Bo b∧(b=false→Fit12 l):=⟨_,fun _ _=>Iff.rfl⟩
  have kt:∀ H,K (Bo true) H:=fun H=>(hKd _ _).2 ⟨true,rfl,fun h=>by cases h⟩
  suffices h:∃ r H1,Good Tryz.prog σ n_law12_Dear [rls l] Hp.empty r H1∧K r H1 by
   obtain ⟨r,H1,a,b⟩:=h
   exact ⟨r,H1,a,(hKd _ _).1 b⟩
  refine law12_Dear.run ?_
  simp only [len_rls,bnd_some,b_gtr,ifB_lit,decide_eq_true_eq]
  split
  ·exact kt _
  rename_i h30
  have L1:∀ (all:List Sl),all=allSels l→(∀ r ∈ l,r.sels.length≤8)→(∀ r ∈ l,r.sets.length≤30)→∀ (f j:Nat) (H:Hp) (n:Int) (y4:AV),all.length - j=f→j≤all.length→(∀ s ∈ all.take j,FitL 11 [s])→law12_Dear.L1 σ K (rls l) (sls all) y4 (I n) (I (j:Int)) H:=by
   intro all hall h8 hst f
   have hal:all.length≤240:=by
    have:=all_len h8
    rw [hall]; omega
   have hawf:∀ s ∈ all,slWf Lmax s:=by
    intro s hs
    rw [hall] at hs
    obtain ⟨r,hr,hs⟩:=List.mem_flatMap.1 hs
    exact (hl.2 r hr).sels.2 s hs
   induction f with
   | zero =>
    intro j H n y4 hf hj hfit
    have:j=all.length:=by omega
    subst this
    rw [List.take_length] at hfit
    refine law12_Dear.L1_step ?_
    simp only [len_sls,bnd_some,b_lss,Int.lt_irrefl,decide_false,ifB_lit,Bool.false_eq_true,if_false,b_gtr]
    rw [hKd]
    refine ⟨_,rfl,fun _=>⟨by omega,h8,hst,fun r hr s hs=>hfit s ?_⟩⟩
    rw [hall]
    exact List.mem_flatMap.2 ⟨r,hr,hs⟩
   | succ f ih =>
    intro j H n y4 hf hj hfit
    have hlt:j<all.length:=by omega
    have hlt':(j:Int)<all.length:=by omega
    obtain ⟨s,hs⟩:=get_lt hlt
    have hsm:=List.mem_of_getElem? hs
    obtain ⟨b,hd,hf1⟩:=Dear_ok (σ:=σ) [s] ⟨by show 1≤Lmax; decide,fun s' h=>by rw [List.mem_singleton.1 h]; exact hawf s hsm⟩
    refine law12_Dear.L1_step ?_
    have hix:ixaSl 1 (sls all) (I (j:Int))=some (.ip (encSl s)):=ix_map hs
    have hw:wr .i64 ((j:Int)+1)=((j+1:Nat):Int):=wr_succ (by omega)
    simp only [len_sls,bnd_some,b_lss,hlt',decide_true,ifB_lit,if_true,b_add,hw,sl_one hs]
    refine callK_of (hd _) ?_
    simp only [ifB_lit]
    cases hb:b with
    | true=>simp only [if_true]; exact kt _
    | false =>
     simp only [Bool.false_eq_true,if_false,hix,bnd_some,sh_ip,List.drop_zero,ld_ip,f_encSl0,len_imm,List.length_map,b_add]
     refine ih (j+1) H _ y4 (by omega) (by omega) fun s' hs'=>?_
     rw [List.take_add_one,hs] at hs'
     rcases List.mem_append.1 hs' with h | h
     ·exact hfit s' h
     ·simp at h; subst h; exact hf1 hb
  have L0:∀ (f m:Nat) (H:Hp) (y3 y5 y6:AV),l.length - m=f→m≤l.length→(∀ r ∈ l.take m,r.sels.length≤8)→(∀ r ∈ l.take m,r.sets.length≤30)→Gs 1 H y3 ((allSels (l.take m)).map encSl)→law12_Dear.L0 σ K (rls l) y3 (I (m:Int)) y5 y6 H:=by
   intro f
   induction f with
   | zero =>
    intro m H y3 y5 y6 hf hm h8 hst hg
    have:m=l.length:=by omega
    subst this
    rw [List.take_length] at h8 hst hg
    refine law12_Dear.L0_step ?_
    simp only [len_rls,bnd_some,b_lss,Int.lt_irrefl,decide_false,ifB_lit,Bool.false_eq_true,if_false]
    exact dear12_drop (hg.fz (noIds_map _ noId_Sl _)) (L1 _ rfl h8 hst _ 0 _ 0 _ rfl (Nat.zero_le _) (fun s h=>by simp at h))
   | succ f ih =>
    intro m H y3 y5 y6 hf hm h8 hst hg
    have hlt:m<l.length:=by omega
    have hlt':(m:Int)<l.length:=by omega
    obtain ⟨r,hr⟩:=get_lt hlt
    have hix:ixaSl 2 (rls l) (I (m:Int))=some (.ip (encRL r)):=ix_map hr
    have e1:ldA false 1 H (.ip (encRL r))=some (sls r.sels):=rfl
    have e2:ldA false 1 H (.ip ((encRL r).drop 1))=some (.imm 4 (r.sets.map encST)):=rfl
    refine law12_Dear.L0_step ?_
    simp only [len_rls,bnd_some,b_lss,hlt',decide_true,ifB_lit,if_true,hix,sh_ip,List.drop_zero,e1,e2,len_sls,len_imm,List.length_map,b_gtr,decide_eq_true_eq]
    split
    ·exact kt _
    split
    ·exact kt _
    rename_i q1 q2
    have hal:=all_len h8
    rw [List.length_take] at hal
    have hone:((r.sels.map encSl).flatten).all AV.one=true:=by
     rw [List.all_eq_true]; intro x hx
     obtain ⟨q,hq,hx⟩:=List.mem_flatten.1 hx
     obtain ⟨s,_,rfl⟩:=List.mem_map.1 hq
     exact List.all_eq_true.1 (one_Sl s) x hx
    refine bnd_app (y:=.imm 1 (r.sels.map encSl)) hg rfl src_imm (fun q hq=>by obtain ⟨s,_,rfl⟩:=List.mem_map.1 hq; rfl) hone (by simp only [List.length_map]; omega) (by simp only [List.length_map]; omega) fun x' H' g' _=>?_
    rw [b_add,bnd_some,wr_succ (by omega)]
    have htk:l.take (m+1)=l.take m++[r]:=by rw [List.take_add_one,hr]; rfl
    refine ih (m+1) H' x' _ _ (by omega) (by omega) ?_ ?_ ?_
    ·intro q hq
     rw [htk] at hq
     rcases List.mem_append.1 hq with h | h
     ·exact h8 q h
     ·simp at h; subst h; omega
    ·intro q hq
     rw [htk] at hq
     rcases List.mem_append.1 hq with h | h
     ·exact hst q h
     ·simp at h; subst h; omega
    ·rw [htk]
     have:allSels (l.take m++[r])=allSels (l.take m)++r.sels:=by unfold allSels; simp
     rw [this,List.map_append]
     exact g'
  exact L0 _ 0 _ _ _ _ rfl (Nat.zero_le _) (fun r h=>by simp at h) (fun r h=>by simp at h) (by simpa [allSels] using Gs.nil)
 obtain ⟨r,H1,hg,b,rfl,hb⟩:=run
 exact ⟨b,fun H=>hg.over (by simp [noIds]) rfl H,hb⟩
end
theorem rules_ok {l:List RL} (hl:rlsWf l) (hf:Fit12 l) (hb:bkLL (l.map encRL)≤NB):∀ r ∈ l,∀ s ∈ r.sels,slWf Lmax s∧s.length≤1048576∧SelOk 11 [s]∧TxL 11 [s]:=by
 intro r hr s hs
 have hN:NB=1048576:=rfl
 have h1:=mem_bk (f:=encRL) hr
 rw [bk_rl] at h1
 have h2:=mem_bk (f:=encSl) hs
 have hw:=(hl.2 r hr).sels.2 s hs
 have h3:s.length≤bkLL (s.map encPt):=len_bk fun p _=>by rw [bk_pt]; omega
 have h4:=h2
 rw [bk_sl] at h4
 refine ⟨hw,by omega,sel_bulk ⟨by show 1≤Lmax; decide,fun s' h=>by rw [List.mem_singleton.1 h]; exact hw⟩ (hf.fit r hr s hs) ?_⟩
 simp only [List.map_cons,List.map_nil,bkLL]
 omega
end Go.Proofs.YtaoegkmfgfefgaaGreat.Ev
namespace Go.Proofs.YtaoegkmfgfefgaaGreat.Ev
set_option linter.unusedVariables false
set_option linter.unusedSimpArgs false
variable {σ:Sig}
def bigS (s:ByteArray):Bool:=decide (60<(s.data.size:Int))
def bigP (p:ByteArray × ByteArray):Bool:=bigS p.1||decide (100<(p.2.data.size:Int))
def bigN (n:Nd):Bool:=decide (8<(n.classes.length:Int))||(decide (8<(n.attrs.length:Int))||(bigS n.tag||(bigS n.id||(n.classes.any bigS||n.attrs.any bigP))))
def bigT (L:List Nd):Bool:=if 40<L.length then (if L.length≤4096 then true else decide (4100<L.length)) else decide (4100<L.length)
def bigR (L:List Nd) (m:Nat):Bool:=((L.drop m).take (100 - m)).any bigN||bigT L
structure NdSm (n:Nd):Prop where
 classes:n.classes.length≤8
 attrs:n.attrs.length≤8
 tag:n.tag.data.size≤60
 id:n.id.data.size≤60
 cl:∀ s ∈ n.classes,s.data.size≤60
 at':∀ p ∈ n.attrs,p.1.data.size≤60∧p.2.data.size≤100
theorem NdSm.of {n:Nd} (h:bigN n=false):NdSm n:=by
 unfold bigN bigP bigS at h
 simp only [Bool.or_eq_false_iff,decide_eq_false_iff_not,List.any_eq_false,Bool.or_eq_true,decide_eq_true_eq,not_or] at h
 obtain ⟨h1,h2,h3,h4,h5,h6⟩:=h
 exact ⟨by omega,by omega,by omega,by omega,fun s hs=>by have:=h5 s hs; omega,fun p hp=>by have:=h6 p hp; omega⟩
theorem bigR_step {L:List Nd} {m:Nat} {n:Nd} (h:L[m]?=some n) (hm:m<100):bigR L m=(bigN n||bigR L (m+1)):=by
 unfold bigR
 obtain ⟨j,hj⟩:∃ j,100 - m=j+1:=⟨99 - m,by omega⟩
 rw [drop_get h,hj,List.take_succ_cons,List.any_cons,Bool.or_assoc,show 100 - (m+1)=j by omega]
section
attribute [local irreducible] law9_Big.L0 law9_Big.L1 law9_Big.L2
theorem big_L2 {L:List Nd} {m:Nat} {n:Nd} (hn:L[m]?=some n) (hm:m<100) {K:AV→Hp→Prop} {y4:AV} (hl:n.attrs.length≤8)
  (h0:∀ H y4 y5,(∀ H,K (Bo (bigR L (m+1))) H)→law9_Big.L0 σ K (nds L) (I ((m+1:Nat):Int)) y4 y5 H):∀ (f k:Nat) (H:Hp),n.attrs.length - k=f→k≤n.attrs.length→(∀ H,K (Bo ((n.attrs.drop k).any bigP||bigR L (m+1))) H) →
  law9_Big.L2 σ K (nds L) (I (m:Int)) y4 (I (k:Int)) H:=by
 have hix:ixaSl 5 (nds L) (I (m:Int))=some (.ip (encNd n)):=ix_map hn
 intro f
 induction f with
 | zero =>
  intro k H hf hk hK
  have:k=n.attrs.length:=by omega
  subst this
  refine law9_Big.L2_step ?_
  have hw:wr .i64 ((m:Int)+1)=((m+1:Nat):Int):=wr_succ (by omega)
  simp only [hix,bnd_some,sh_ip,ld_ip,f_encNd4,len_imm,List.length_map,b_lss,Int.lt_irrefl,decide_false,ifB_lit,Bool.false_eq_true,if_false,b_add,hw]
  refine h0 _ _ _ ?_
  simpa using hK
 | succ f ih =>
  intro k H hf hk hK
  have hlt:k<n.attrs.length:=by omega
  obtain ⟨p,hp⟩:=get_lt hlt
  rw [drop_get hp,List.any_cons] at hK
  have hlt':(k:Int)<n.attrs.length:=by omega
  have hixp:ixaSl 2 (.imm 2 (n.attrs.map encPr)) (I (k:Int))=some (.ip (encPr p)):=ix_map hp
  have hw:wr .i64 ((k:Int)+1)=((k+1:Nat):Int):=wr_succ (by omega)
  refine law9_Big.L2_step ?_
  simp only [hix,bnd_some,sh_ip,ld_ip,f_encNd4,len_imm,List.length_map,b_lss,hlt',decide_true,ifB_lit,if_true,hixp,List.drop_zero,f_encPr0,f_encPr1',len_str,b_gtr,decide_eq_true_eq,b_add,hw]
  split
  ·rename_i h
   have:bigP p=true:=by unfold bigP bigS; rw [decide_eq_true h,Bool.true_or]
   rw [this] at hK
   simpa using hK H
  rename_i h1
  split
  ·rename_i h
   have:bigP p=true:=by unfold bigP; rw [decide_eq_true h,Bool.or_true]
   rw [this] at hK
   simpa using hK H
  ·rename_i h
   have:bigP p=false:=by unfold bigP bigS; rw [decide_eq_false h,decide_eq_false h1]; rfl
   rw [this] at hK
   exact ih (k+1) H (by omega) (by omega) (by simpa using hK)
theorem big_L1 {L:List Nd} {m:Nat} {n:Nd} (hn:L[m]?=some n) (hm:m<100) {K:AV→Hp→Prop} {y5:AV} (hl:n.attrs.length≤8) (hl2:n.classes.length≤8)
  (h0:∀ H y4 y5,(∀ H,K (Bo (bigR L (m+1))) H)→law9_Big.L0 σ K (nds L) (I ((m+1:Nat):Int)) y4 y5 H):∀ (f k:Nat) (H:Hp),n.classes.length - k=f→k≤n.classes.length→(∀ H,K (Bo ((n.classes.drop k).any bigS||(n.attrs.any bigP||bigR L (m+1)))) H) →
  law9_Big.L1 σ K (nds L) (I (m:Int)) (I (k:Int)) y5 H:=by
 have hix:ixaSl 5 (nds L) (I (m:Int))=some (.ip (encNd n)):=ix_map hn
 intro f
 induction f with
 | zero =>
  intro k H hf hk hK
  have:k=n.classes.length:=by omega
  subst this
  refine law9_Big.L1_step ?_
  simp only [hix,bnd_some,sh_ip,ld_ip,f_encNd3,len_strs,b_lss,Int.lt_irrefl,decide_false,ifB_lit,Bool.false_eq_true,if_false]
  exact big_L2 hn hm hl h0 _ 0 H rfl (Nat.zero_le _) (by simpa using hK)
 | succ f ih =>
  intro k H hf hk hK
  have hlt:k<n.classes.length:=by omega
  obtain ⟨p,hp⟩:=get_lt hlt
  rw [drop_get hp,List.any_cons] at hK
  have hlt':(k:Int)<n.classes.length:=by omega
  have hixp:ixaSl 1 (strs n.classes) (I (k:Int))=some (.ip [Sx p]):=ix_map hp
  have lx:∀ H,ldA false 1 H (.ip [Sx p])=some (Sx p):=fun _=>rfl
  have hw:wr .i64 ((k:Int)+1)=((k+1:Nat):Int):=wr_succ (by omega)
  refine law9_Big.L1_step ?_
  simp only [hix,bnd_some,sh_ip,ld_ip,f_encNd3,len_strs,b_lss,hlt',decide_true,ifB_lit,if_true,hixp,ldL_one,len_str,b_gtr,decide_eq_true_eq,b_add,hw]
  split
  ·rename_i h
   have:bigS p=true:=decide_eq_true h
   rw [this] at hK
   simpa using hK H
  ·rename_i h
   have:bigS p=false:=decide_eq_false h
   rw [this] at hK
   exact ih (k+1) H (by omega) (by omega) (by simpa using hK)
theorem big_end {L:List Nd} {K:AV→Hp→Prop} {H:Hp} (hK:∀ H,K (Bo (bigT L)) H):bnd (lenSl (nds L)) fun x24=>bnd (binR .gtr x24 (I 40)) fun x25=>ifB x25 (bnd (lenSl (nds L)) fun x26=>bnd (binR .leq x26 (I 4096)) fun x27=>ifB x27 (K (Bo true) H) (bnd (lenSl (nds L)) fun x28=>bnd (binR .gtr x28 (I 4100)) fun x29=>K x29 H)) (bnd (lenSl (nds L)) fun x30=>bnd (binR .gtr x30 (I 4100)) fun x31=>K x31 H):=by
 simp only [len_nds,bnd_some,b_gtr,b_leq,ifB_lit,decide_eq_true_eq]
 have e:decide ((4100:Int)<(L.length:Int))=decide (4100<L.length):=by rw [decide_eq_decide]; omega
 rw [e]
 unfold bigT at hK
 by_cases h1:40<L.length
 ·have h1':(40:Int)<(L.length:Int):=by omega
  rw [if_pos h1] at hK
  rw [if_pos h1']
  by_cases h2:L.length≤4096
  ·have h2':(L.length:Int)≤4096:=by omega
   rw [if_pos h2] at hK
   rw [if_pos h2']
   exact hK H
  ·have h2':¬ (L.length:Int)≤4096:=by omega
   rw [if_neg h2] at hK
   rw [if_neg h2']
   exact hK H
 ·have h1':¬ (40:Int)<(L.length:Int):=by omega
  rw [if_neg h1] at hK
  rw [if_neg h1']
  exact hK H
theorem Big_ok (L:List Nd) (H:Hp):Good Tryz.prog σ n_law9_Big [nds L] H (Bo (bigR L 0)) H:=by
 refine good_by (fun K hK=>law9_Big.run ?_) (by simp [noIds,noId]) rfl H
 have L0:∀ (f m:Nat) (H:Hp) (y4 y5:AV),100 - m=f→m≤L.length→m≤100→(∀ H,K (Bo (bigR L m)) H)→law9_Big.L0 σ K (nds L) (I (m:Int)) y4 y5 H:=by
  intro f
  induction f with
  | zero =>
   intro m H y4 y5 hf hm hm2 hK
   obtain rfl:m=100:=by omega
   have hK:∀ H,K (Bo (bigT L)) H:=by simpa [bigR] using hK
   refine law9_Big.L0_step ?_
   have e0:¬ (((100:Nat):Int)<100):=by decide
   by_cases h:((100:Nat):Int)<L.length
   ·simp only [len_nds,bnd_some,b_lss,h,decide_true,ifB_lit,if_true,e0,decide_false,Bool.false_eq_true,if_false]
    have hE:=big_end (H:=H) hK
    simp only [len_nds,bnd_some,b_gtr,b_leq] at hE ⊢
    exact hE
   ·simp only [len_nds,bnd_some,b_lss,h,decide_false,ifB_lit,Bool.false_eq_true,if_false]
    have hE:=big_end (H:=H) hK
    simp only [len_nds,bnd_some,b_gtr,b_leq] at hE ⊢
    exact hE
  | succ f ih =>
   intro m H y4 y5 hf hm hm2 hK
   refine law9_Big.L0_step ?_
   have e0:((m:Nat):Int)<100:=by omega
   by_cases h:m<L.length
   ·have h':(m:Int)<L.length:=by omega
    obtain ⟨n,hn⟩:=get_lt h
    rw [bigR_step hn (by omega)] at hK
    have hix:ixaSl 5 (nds L) (I (m:Int))=some (.ip (encNd n)):=ix_map hn
    simp only [len_nds,bnd_some,b_lss,h',decide_true,ifB_lit,if_true,e0,hix,sh_ip,ld_ip,f_encNd3,f_encNd4,f_encNd1',f_encNd2,len_strs,len_imm,List.length_map,len_str,b_gtr,decide_eq_true_eq]
    unfold bigN at hK
    split
    ·rename_i h1; simp only [h1,decide_true,Bool.true_or] at hK; exact hK H
    rename_i h1
    split
    ·rename_i h2; simp only [h2,decide_true,Bool.true_or,Bool.or_true] at hK; exact hK H
    rename_i h2
    split
    ·rename_i h3
     have:bigS n.tag=true:=decide_eq_true h3
     simp only [this,Bool.true_or,Bool.or_true] at hK; exact hK H
    rename_i h3
    split
    ·rename_i h4
     have:bigS n.id=true:=decide_eq_true h4
     simp only [this,Bool.true_or,Bool.or_true] at hK; exact hK H
    rename_i h4
    have t3:bigS n.tag=false:=decide_eq_false h3
    have t4:bigS n.id=false:=decide_eq_false h4
    simp only [h1,h2,t3,t4,decide_false,Bool.false_or,Bool.or_assoc] at hK
    exact big_L1 hn (by omega) (by omega) (by omega) (fun H y4 y5 hK'=>ih (m+1) H y4 y5 (by omega) (by omega) (by omega) hK') _ 0 H rfl (Nat.zero_le _) (by simpa using hK)
   ·have h':¬ (m:Int)<L.length:=by omega
    have:m=L.length:=by omega
    subst this
    have hK:∀ H,K (Bo (bigT L)) H:=by simpa [bigR] using hK
    simp only [len_nds,bnd_some,b_lss,h',decide_false,ifB_lit,Bool.false_eq_true,if_false]
    have hE:=big_end (H:=H) hK
    simp only [len_nds,bnd_some,b_gtr,b_leq] at hE ⊢
    exact hE
 exact L0 _ 0 _ _ _ rfl (Nat.zero_le _) (by decide) hK
end
theorem good_byI {P:Program} {σ:Sig} {f:Nat} {xs:List AV} {r:AV} (h:∀ K:AV→Hp→Prop,(∀ H,K r H)→∃ r' H1,Good P σ f xs Hp.empty r' H1∧K r' H1) (hx:noIds xs=true) (hr:noId r=true) (H:Hp):Good P σ f xs H r H:=by
 obtain ⟨r',H1,hg,e⟩:=h (fun r' _=>r'=r) (fun _=>rfl)
 subst e
 exact hg.frzR hx (.refl hr) H
structure TreeOk (L:List Nd) (d:List Nat):Prop where
 len:L.length≤40
 hB:Built L L.length d
 sm:∀ n ∈ L,NdSm n
end Go.Proofs.YtaoegkmfgfefgaaGreat.Ev
namespace Go.Proofs.YtaoegkmfgfefgaaGreat.Ev
set_option linter.unusedVariables false
set_option linter.unusedSimpArgs false
variable {σ:Sig}
theorem rNode_ok (L:List Nd) (d:List Nat) {e:Nat} (he:e<L.length) (H:Hp):Good Tryz.prog σ n_ref9_Tree_Node [refT L d,I (e:Int)] H (.agg (encNd (lowN (ndAt L e)))) H:=by
 refine good_byI (fun K hK=>ref9_Tree_Node.run ?_) (by simp [noIds,noId,noId_refT]) (by simp [noId,noId_Nd]) H
 rw [allocK_eq]
 refine callK_of (ris_t L d he _) ?_
 simp only [u_not,bnd_some,ifB_lit,Bool.not_true,Bool.false_eq_true,if_false,rnilp,rsh,rld,rix he,ld_ip,ldL_nd]
 refine bnd_of (x:=(Hp.empty.new (.cells [I 0,Sx emp,Sx emp,.lit (.slice none 0 0),.lit (.slice none 0 0)] true)).set Hp.empty.n (some (.cells (encNd (lowN (ndAt L e))) true))) ?_ ?_
 ·rw [st_agg]
  simp only [hp_get_new,if_true]
  rfl
 refine bnd_of (x:=.agg (encNd (lowN (ndAt L e)))) ?_ (hK _)
 simp only [ld_ptr,hp_get_set,if_true,ldO_cells,List.drop_zero,ldL_nd]
section
end
section
end
end Go.Proofs.YtaoegkmfgfefgaaGreat.Ev
