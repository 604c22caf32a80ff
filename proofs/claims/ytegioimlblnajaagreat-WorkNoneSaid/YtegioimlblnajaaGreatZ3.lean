/- The walks, part 3: the evaluator, the functions, the laws. Conditions: none. -/
import Derived.Lib.Index
import Derived.Lib.Strings
import Derived.Test.YtegioimlblnajaaGreatProg
import Derived.Test.YtegioimlblnajaaGreatZ2
namespace Go.Proofs.YtegioimlblnajaaGreat.Ev
set_option linter.unusedVariables false
set_option linter.unusedSimpArgs false
structure At where
 name:ByteArray
 op:Int
 text:ByteArray
mutual
inductive Pt where
 | mk (comb:Int) (c:Cp)
inductive Cp where
 | mk (tag:ByteArray) (ids classes:List ByteArray) (attrs:List At) (pseudos:List Ps)
inductive Ps where
 | mk (kind a b:Int) (list:List (List Pt))
end
def Pt.comb:Pt→Int | .mk k _=>k
def Pt.c:Pt→Cp | .mk _ c=>c
def Cp.tag:Cp→ByteArray | .mk t _ _ _ _=>t
def Cp.ids:Cp→List ByteArray | .mk _ i _ _ _=>i
def Cp.classes:Cp→List ByteArray | .mk _ _ c _ _=>c
def Cp.attrs:Cp→List At | .mk _ _ _ a _=>a
def Cp.pseudos:Cp→List Ps | .mk _ _ _ _ p=>p
def Ps.kind:Ps→Int | .mk k _ _ _=>k
def Ps.a:Ps→Int | .mk _ a _ _=>a
def Ps.b:Ps→Int | .mk _ _ b _=>b
def Ps.list:Ps→List (List Pt) | .mk _ _ _ l=>l
abbrev Sl:=List Pt
structure ST where
 prop:Int
 kind:Int
 n:Int
 imp:Bool
structure RL where
 sels:List Sl
 sets:List ST
structure Nd where
 parent:Int
 tag:ByteArray
 id:ByteArray
 classes:List ByteArray
 attrs:List (ByteArray × ByteArray)
def jL (a:At):List AV:=[Sx a.name,I a.op,Sx a.text]
def eW (l:List ByteArray):AV:=.imm 1 (l.map fun s=>[Sx s])
mutual
def i4:Pt→List AV
 | .mk k c=>I k::g8 c
def g8:Cp→List AV
 | .mk t i c a p=>[Sx t,eW i,eW c,.imm 3 (a.map jL),.imm 4 (mM p)]
def g7:Ps→List AV
 | .mk k a b l=>[I k,I a,I b,.imm 1 (mO l)]
def mC:List Pt→List (List AV)
 | []=>[]
 | p::r=>i4 p::mC r
def mM:List Ps→List (List AV)
 | []=>[]
 | p::r=>g7 p::mM r
def mO:List (List Pt)→List (List AV)
 | []=>[]
 | s::r=>[.imm 6 (mC s)]::mO r
end
theorem kU:∀ (l:List Pt),mC l=l.map i4
 | []=>rfl
 | p::r=>by rw [mC,kU r]; rfl
theorem pt:∀ (l:List Ps),mM l=l.map g7
 | []=>rfl
 | p::r=>by rw [mM,pt r]; rfl
def i6 (s:Sl):List AV:=[.imm 6 (s.map i4)]
theorem oA:∀ (l:List Sl),mO l=l.map i6
 | []=>rfl
 | s::r=>by rw [mO,oA r,kU]; rfl
theorem lW (p:Pt):i4 p=I p.comb::g8 p.c:=by cases p; rfl
theorem gO (c:Cp):g8 c=[Sx c.tag,eW c.ids,eW c.classes,.imm 3 (c.attrs.map jL),.imm 4 (c.pseudos.map g7)]:=by
 cases c; rw [g8,pt]; rfl
theorem i9 (p:Ps):g7 p=[I p.kind,I p.a,I p.b,.imm 1 (p.list.map i6)]:=by
 cases p; rw [g7,oA]; rfl
@[simp] theorem vG (p:Pt):(i4 p).length=6:=by rw [lW,gO]; rfl
@[simp] theorem vB (p:Cp):(g8 p).length=5:=by rw [gO]; rfl
@[simp] theorem vC (p:Ps):(g7 p).length=4:=by rw [i9]; rfl
@[simp] theorem OC (p:Sl):(i6 p).length=1:=rfl
@[simp] theorem OH (p:At):(jL p).length=3:=rfl
def sls (l:List Sl):AV:=.imm 1 (l.map i6)
def kg (s:ST):List AV:=[I s.prop,I s.kind,I s.n,Bo s.imp]
def lD (r:RL):List AV:=[sls r.sels,.imm 4 (r.sets.map kg)]
def rls (l:List RL):AV:=.imm 2 (l.map lD)
def cD (p:ByteArray × ByteArray):List AV:=[Sx p.1,Sx p.2]
def bD (n:Nd):List AV:=[I n.parent,Sx n.tag,Sx n.id,eW n.classes,.imm 2 (n.attrs.map cD)]
def nds (l:List Nd):AV:=.imm 5 (l.map bD)
theorem bZ {α:Type} (f:α→List AV) (hf:∀ x,bG (f x)=true):∀ l:List α,dX (l.map f)=true
 | []=>rfl
 | x::r=>by simp only [List.map_cons,dX,hf,bZ f hf r,Bool.and_self]
@[simp] theorem ky (l:List ByteArray):cX (eW l)=true:=by
 unfold eW; simp only [cX]; exact bZ _ (fun _=>rfl) l
theorem JV (a:At):bG (jL a)=true:=rfl
mutual
theorem KB:∀ (p:Pt),bG (i4 p)=true
 | .mk k c=>by rw [i4]; simp only [bG,cX,JC c,Bool.and_self]
theorem JC:∀ (c:Cp),bG (g8 c)=true
 | .mk t i c a p=>by rw [g8]; simp only [bG,cX,ky,bZ _ JV,rC p,Bool.and_self]
theorem Kw:∀ (p:Ps),bG (g7 p)=true
 | .mk k a b l=>by rw [g7]; simp only [bG,cX,sG l,Bool.and_self]
theorem n7:∀ (l:List Pt),dX (mC l)=true
 | []=>rfl
 | p::r=>by rw [mC]; simp only [dX,KB p,n7 r,Bool.and_self]
theorem rC:∀ (l:List Ps),dX (mM l)=true
 | []=>rfl
 | p::r=>by rw [mM]; simp only [dX,Kw p,rC r,Bool.and_self]
theorem sG:∀ (l:List (List Pt)),dX (mO l)=true
 | []=>rfl
 | s::r=>by rw [mO]; simp only [dX,bG,cX,n7 s,sG r,Bool.and_self]
end
theorem KJ (s:Sl):bG (i6 s)=true:=by
 unfold i6; rw [← kU]; simp only [bG,cX,n7,Bool.and_self]
@[simp] theorem zF (l:List Sl):cX (sls l)=true:=by unfold sls; simp only [cX]; exact bZ _ KJ l
theorem Kl (s:ST):bG (kg s)=true:=rfl
theorem IG (r:RL):bG (lD r)=true:=by unfold lD; simp only [bG,cX,zF,bZ _ Kl,Bool.and_self]
@[simp] theorem OV (l:List RL):cX (rls l)=true:=by unfold rls; simp only [cX]; exact bZ _ IG l
theorem lY (n:Nd):bG (bD n)=true:=by unfold bD; simp only [bG,cX,ky,bZ cD (fun _=>rfl),Bool.and_self]
@[simp] theorem O_ (l:List Nd):cX (nds l)=true:=by unfold nds; simp only [cX]; exact bZ _ lY l
end Go.Proofs.YtegioimlblnajaaGreat.Ev
namespace Go.Proofs.YtegioimlblnajaaGreat.Ev
@[simp] theorem OU (l:List ByteArray):AV.one (eW l)=true:=rfl
@[simp] theorem MV (c:Cp):(g8 c).all AV.one=true:=by rw [gO]; rfl
@[simp] theorem P9 (p:Pt):(i4 p).all AV.one=true:=by rw [lW,List.all_cons,MV]; rfl
@[simp] theorem Qc (p:Ps):(g7 p).all AV.one=true:=by rw [i9]; rfl
@[simp] theorem Qt (p:Sl):(i6 p).all AV.one=true:=rfl
@[simp] theorem P_ (p:At):(jL p).all AV.one=true:=rfl
@[simp] theorem Qg (p:RL):(lD p).all AV.one=true:=rfl
@[simp] theorem P5 (p:Nd):(bD p).all AV.one=true:=rfl
@[simp] theorem Qr (p:ST):(kg p).all AV.one=true:=rfl
@[simp] theorem Ov (p:RL):(lD p).length=2:=rfl
@[simp] theorem Ol (p:Nd):(bD p).length=5:=rfl
@[simp] theorem Oz (p:ST):(kg p).length=4:=rfl
theorem ig {α:Type} {l:List α} {k:Nat} {x:α} (h:l[k]?=some x):l.drop k=x::l.drop (k+1):=by
 obtain ⟨hlt,rfl⟩:=List.getElem?_eq_some_iff.1 h
 exact List.drop_eq_getElem_cons hlt
theorem k_ {α:Type} {l:List α} {k:Nat} (h:k<l.length):∃ x,l[k]?=some x:=⟨l[k],List.getElem?_eq_getElem h⟩
end Go.Proofs.YtegioimlblnajaaGreat.Ev
namespace Go.Proofs.YtegioimlblnajaaGreat.Ev
def i64 (n:Int):Prop:=-9223372036854775808≤n∧n≤9223372036854775807
def zr (N:Nat) (l:List ByteArray):Prop:=l.length≤N∧∀ s ∈ l,s.data.size≤N
mutual
def Pt.wf (N:Nat):Pt→Prop
 | .mk k c=>i64 k∧Cp.wf N c
def Cp.wf (N:Nat):Cp→Prop
 | .mk t i c a p=>t.data.size≤N∧zr N i∧zr N c∧(a.length≤N∧∀ x ∈ a,x.name.data.size≤N∧i64 x.op∧x.text.data.size≤N)∧p.length≤N∧Lx N p
def Ps.wf (N:Nat):Ps→Prop
 | .mk k a b l=>i64 k∧i64 a∧i64 b∧l.length≤N∧Lw N l
def LB (N:Nat):List Pt→Prop
 | []=>True
 | p::r=>Pt.wf N p∧LB N r
def Lx (N:Nat):List Ps→Prop
 | []=>True
 | p::r=>Ps.wf N p∧Lx N r
def Lw (N:Nat):List (List Pt)→Prop
 | []=>True
 | s::r=>(s.length≤N∧LB N s)∧Lw N r
end
abbrev KL:Nat:=9223372036854775807
end Go.Proofs.YtegioimlblnajaaGreat.Ev
namespace Go.Proofs.YtegioimlblnajaaGreat.Ev
@[simp] theorem nV (l:List ByteArray):az (eW l)=some (.lit (.int .i64 l.length)):=by simp [eW]
@[simp] theorem PT (l:List Sl):az (sls l)=some (.lit (.int .i64 l.length)):=by simp [sls]
@[simp] theorem PZ (l:List RL):az (rls l)=some (.lit (.int .i64 l.length)):=by simp [rls]
@[simp] theorem iB (l:List Nd):az (nds l)=some (.lit (.int .i64 l.length)):=by simp [nds]
end Go.Proofs.YtegioimlblnajaaGreat.Ev
namespace Go.Proofs.YtegioimlblnajaaGreat.Ev
@[simp] theorem P7 (s:Sl):ldL true 1 (i6 s)=some (.agg (i6 s)):=rfl
@[simp] theorem Qj (s:Pt):ldL true 6 (i4 s)=some (.agg (i4 s)):=dZ (vG s)
@[simp] theorem Qq (s:Cp):ldL true 5 (g8 s)=some (.agg (g8 s)):=dZ (vB s)
@[simp] theorem Qx (s:Ps):ldL true 4 (g7 s)=some (.agg (g7 s)):=dZ (vC s)
@[simp] theorem QD (s:At):ldL true 3 (jL s)=some (.agg (jL s)):=rfl
@[simp] theorem Qa (s:Nd):ldL true 5 (bD s)=some (.agg (bD s)):=rfl
@[simp] theorem Qp (s:RL):ldL true 2 (lD s)=some (.agg (lD s)):=rfl
@[simp] theorem Qd (s:ST):ldL true 4 (kg s)=some (.agg (kg s)):=rfl
@[simp] theorem Qn (s:ByteArray × ByteArray):ldL true 2 (cD s)=some (.agg (cD s)):=rfl
@[simp] theorem QY (c:AV) (s:Sl):aD [c] 0 (i6 s)=i6 s:=rfl
end Go.Proofs.YtegioimlblnajaaGreat.Ev
namespace Go.Proofs.YtegioimlblnajaaGreat.Ev
@[simp] theorem Nb (p:Pt):(i4 p).tail=g8 p.c:=by rw [lW]; rfl
end Go.Proofs.YtegioimlblnajaaGreat.Ev
namespace Go.Proofs.YtegioimlblnajaaGreat.Ev
@[simp] theorem Pz (x:Ps):ldL false 1 (g7 x)=some (I x.kind):=by rw [i9]; rfl
@[simp] theorem PA (x:Ps):ldL false 1 (g7 x).tail=some (I x.a):=by rw [i9]; rfl
@[simp] theorem Pr (x:Ps):ldL false 1 ((g7 x).drop 2)=some (I x.b):=by rw [i9]; rfl
@[simp] theorem OS (x:Ps):ldL false 1 ((g7 x).drop 3)=some (.imm 1 (x.list.map i6)):=by rw [i9]; rfl
@[simp] theorem Pc (x:Cp):ldL false 1 (g8 x)=some (Sx x.tag):=by rw [gO]; rfl
@[simp] theorem Pe (x:Cp):ldL false 1 (g8 x).tail=some (eW x.ids):=by rw [gO]; rfl
@[simp] theorem Py (x:Cp):ldL false 1 ((g8 x).drop 2)=some (eW x.classes):=by rw [gO]; rfl
@[simp] theorem Pg (x:Cp):ldL false 1 ((g8 x).drop 3)=some (.imm 3 (x.attrs.map jL)):=by rw [gO]; rfl
@[simp] theorem Pd (x:Cp):ldL false 1 ((g8 x).drop 4)=some (.imm 4 (x.pseudos.map g7)):=by rw [gO]; rfl
@[simp] theorem Pl (x:Pt):ldL false 1 (i4 x)=some (I x.comb):=by rw [lW]; rfl
@[simp] theorem OY (x:Sl):ldL false 1 (i6 x)=some (.imm 6 (x.map i4)):=rfl
@[simp] theorem O2 (x:At):ldL false 1 (jL x)=some (Sx x.name):=rfl
@[simp] theorem Pi (x:At):ldL false 1 (jL x).tail=some (I x.op):=rfl
@[simp] theorem PG (x:At):ldL false 1 ((jL x).drop 2)=some (Sx x.text):=rfl
@[simp] theorem OJ (x:Nd):ldL false 1 (bD x)=some (I x.parent):=rfl
@[simp] theorem Po (x:Nd):ldL false 1 (bD x).tail=some (Sx x.tag):=rfl
theorem vQ (x:Nd):ldL false 1 ((bD x).drop 1)=some (Sx x.tag):=rfl
@[simp] theorem Aw (x:Nd):ldL false 1 ((bD x).drop 2)=some (Sx x.id):=rfl
@[simp] theorem n0 (x:Nd):ldL false 1 ((bD x).drop 3)=some (eW x.classes):=rfl
@[simp] theorem oN (x:Nd):ldL false 1 ((bD x).drop 4)=some (.imm 2 (x.attrs.map cD)):=rfl
@[simp] theorem O5 (x:RL):ldL false 1 (lD x)=some (sls x.sels):=rfl
@[simp] theorem O3 (x:RL):ldL false 1 (lD x).tail=some (.imm 4 (x.sets.map kg)):=rfl
@[simp] theorem Pj (x:ST):ldL false 1 (kg x)=some (I x.prop):=rfl
@[simp] theorem O8 (x:ST):ldL false 1 (kg x).tail=some (I x.kind):=rfl
@[simp] theorem PH (x:ST):ldL false 1 ((kg x).drop 2)=some (I x.n):=rfl
@[simp] theorem PL (x:ST):ldL false 1 ((kg x).drop 3)=some (Bo x.imp):=rfl
@[simp] theorem Gn (x:ByteArray × ByteArray):ldL false 1 (cD x)=some (Sx x.1):=rfl
@[simp] theorem ON (x:ByteArray × ByteArray):ldL false 1 (cD x).tail=some (Sx x.2):=rfl
theorem vj (x:ByteArray × ByteArray):ldL false 1 ((cD x).drop 1)=some (Sx x.2):=rfl
end Go.Proofs.YtegioimlblnajaaGreat.Ev
namespace Go.Proofs.YtegioimlblnajaaGreat.Ev
set_option linter.unusedVariables false
set_option linter.unusedSimpArgs false
theorem i7 {sz:Nat}:∀ {rows:List (List AV)} {w:Nat} (hs:∀ r ∈ rows,r.length=sz) (h:w<rows.length),rows.flatten.drop (w*sz)=rows[w]++(rows.drop (w+1)).flatten
 | r::rs,0,hs,h=>by simp
 | r::rs,w+1,hs,h=>by
  have hr:r.length=sz:=hs r (by simp)
  have e:(w+1)*sz=sz+w*sz:=by rw [Nat.succ_mul,Nat.add_comm]
  have e1:(r++rs.flatten).drop sz=rs.flatten:=by rw [← hr]; simp
  rw [List.flatten_cons,e,← List.drop_drop,e1]
  exact i7 (fun r hr=>hs r (by simp [hr])) (by simpa using h)
theorem lM {a b:List AV} {k:Nat} {xs:List AV}:aD (a++b) (a.length+k) xs=a++aD b k xs:=by
 unfold aD
 rw [Nat.add_assoc,List.take_append,List.drop_append,List.take_of_length_le (by omega),List.drop_eq_nil_of_le (by omega)]
 simp
theorem mY {a b:List AV} {k:Nat} {xs:List AV} (h:k+xs.length≤a.length):aD (a++b) k xs=aD a k xs++b:=by
 unfold aD
 rw [List.take_append_of_le_length (by omega),List.drop_append_of_le_length h]
 simp
theorem g_ {sz:Nat} {xs:List AV} {k:Nat} (hk:k+xs.length≤sz):∀ {rows:List (List AV)} {w:Nat} (hs:∀ r ∈ rows,r.length=sz) (h:w<rows.length),aD rows.flatten (w*sz+k) xs=(rows.set w (aD rows[w] k xs)).flatten
 | r::rs,0,hs,h=>by
  have hr:r.length=sz:=hs r (by simp)
  simp only [Nat.zero_mul,Nat.zero_add,List.flatten_cons,List.getElem_cons_zero,List.set_cons_zero]
  exact mY (by omega)
 | r::rs,w+1,hs,h=>by
  have hr:r.length=sz:=hs r (by simp)
  have e:(w+1)*sz+k=r.length+(w*sz+k):=by rw [Nat.succ_mul,hr]; omega
  simp only [List.flatten_cons,List.getElem_cons_succ,List.set_cons_succ]
  rw [e,lM,g_ hk (fun r hr=>hs r (by simp [hr])) (by simpa using h)]
end Go.Proofs.YtegioimlblnajaaGreat.Ev
namespace Go.Proofs.YtegioimlblnajaaGreat.Ev
set_option linter.unusedVariables false
set_option linter.unusedSimpArgs false
def Nd.none:Nd:=⟨0,⟨#[]⟩,⟨#[]⟩,[],[]⟩
def dI (L:List Nd) (i:Nat):Nd:=L.getD i Nd.none
def par (L:List Nd) (i:Nat):Int:=(dI L i).parent
def ic (L:List Nd) (m e:Nat):List Nat:=(List.range m).filter fun j=>decide (0<j)&&decide (par L j=e)
def vN (L:List Nd) (e:Nat):List Nat:=(List.range e).filter fun j=>decide (0<j)&&decide (par L j=par L e)
def uG (l:List Nat):Int:=match l.getLast? with | some j=>j | none=>-1
def dL (L:List Nd) (e:Nat):Int:=(vN L e).length+1
def mU (L:List Nd) (e:Nat):Int:=uG (vN L e)
structure c6 (L:List Nd) (m:Nat) (d:List Nat):Prop where
 len:d.length=m
 le:m≤L.length
 root:0<m→par L 0=-1∧d[0]?=some 0
 step:∀ i,0<i→i<m→∃ p x:Nat,par L i=p∧p<i∧d[p]?=some x∧d[i]?=some (x+1)∧x+1≤256
theorem c6.nil (L:List Nd):c6 L 0 []:=⟨rfl,Nat.zero_le _,fun h=>absurd h (Nat.lt_irrefl 0),fun i h0 h=>absurd h (Nat.not_lt_zero i)⟩
theorem c6.first {L:List Nd} (hl:0<L.length) (h:par L 0=-1):c6 L 1 [0]:=⟨rfl,hl,fun _=>⟨h,rfl⟩,fun i h0 h=>by omega⟩
theorem c6.next {L:List Nd} {m p x:Nat} {d:List Nat} (h:c6 L m d) (hm:0<m) (hl:m<L.length) (hp:par L m=p) (hlt:p<m) (hx:d[p]?=some x) (h256:x+1≤256):c6 L (m+1) (d++[x+1]):=by
 have hlen:=h.len
 refine ⟨by simp [hlen],hl,fun _=>⟨(h.root hm).1,?_⟩,fun i h0 hi=>?_⟩
 ·rw [List.getElem?_append_left (by omega)]; exact (h.root hm).2
 ·by_cases him:i<m
  ·obtain ⟨p',x',e1,e2,e3,e4,e5⟩:=h.step i h0 him
   exact ⟨p',x',e1,e2,by rw [List.getElem?_append_left (by omega)]; exact e3,by rw [List.getElem?_append_left (by omega)]; exact e4,e5⟩
  ·have:i=m:=by omega
   subst this
   exact ⟨p,x,hp,hlt,by rw [List.getElem?_append_left (by omega)]; exact hx,by rw [List.getElem?_append_right (by omega),hlen]; simp,h256⟩
theorem mV (L:List Nd) (m e:Nat):ic L (m+1) e=ic L m e++if 0<m∧par L m=e then [m] else []:=by
 unfold ic
 rw [List.range_succ,List.filter_append]
 congr 1
 by_cases h:0<m∧par L m=(e:Int)
 ·simp [h]
 ·rw [if_neg h]
  simp only [List.filter_cons,List.filter_nil]
  rw [if_neg (by simpa using h)]
theorem pQ {L:List Nd} {m p:Nat} (hp:par L m=p):ic L m p=vN L m:=by unfold ic vN; rw [hp]
theorem I5 {L:List Nd} {N:Nat} {d:List Nat} (hB:c6 L N d) {m:Nat} (hm:m≤N) {e:Nat} (he:m≤e+1):ic L m e=[]:=by
 unfold ic
 rw [List.filter_eq_nil_iff]
 intro j hj
 simp only [List.mem_range] at hj
 simp only [Bool.and_eq_true,decide_eq_true_eq,not_and]
 intro h0 h1
 obtain ⟨p,x,e1,e2,_⟩:=hB.step j h0 (by omega)
 rw [e1] at h1
 omega
def gS (L:List Nd) (d:List Nat) (i:Nat) (c:AV) (low:Nd→Nd):List AV:=bD (low (dI L i))++[c,I (d.getD i 0),I (dL L i),I (mU L i)]
@[simp] theorem EQ (L:List Nd) (d:List Nat) (i:Nat) (c:AV) (low:Nd→Nd):(gS L d i c low).length=9:=rfl
def de (L:List Nd) (d:List Nat) (ch:List AV) (low:Nd→Nd):List (List AV):=ch.mapIdx fun i c=>gS L d i c low
theorem d7 (L:List Nd) (d:List Nat) (ch:List AV) (low:Nd→Nd):(de L d ch low).length=ch.length:=by simp [de]
theorem mh {L:List Nd} {d:List Nat} {ch:List AV} {low:Nd→Nd}:∀ row ∈ de L d ch low,row.length=9:=by
 intro row h
 unfold de at h
 obtain ⟨i,hi,rfl⟩:=List.mem_mapIdx.1 h
 rfl
theorem mm {L:List Nd} {d:List Nat} {ch:List AV} {low:Nd→Nd} {k:Nat} {c:AV} (h:ch[k]?=some c):(de L d ch low)[k]?=some (gS L d k c low):=by
 unfold de
 rw [List.getElem?_mapIdx,h]; rfl
theorem vr {L:List Nd} {d:List Nat} {ch:List AV} {low:Nd→Nd} {k:Nat} {c':AV}:de L d (ch.set k c') low=(de L d ch low).set k (gS L d k c' low):=by
 apply List.ext_getElem?
 intro i
 unfold de
 rw [List.getElem?_mapIdx,List.getElem?_set,List.getElem?_set,List.getElem?_mapIdx]
 by_cases hi:k=i
 ·subst hi
  simp only [if_true,List.length_mapIdx]
  by_cases hk:k<ch.length
  ·simp [hk]
  ·simp [hk]
 ·simp [hi]
theorem vL {L:List Nd} {d:List Nat} {ch:List AV} {low:Nd→Nd} {c:AV}:de L d (ch++[c]) low=de L d ch low++[gS L d ch.length c low]:=by
 simp [de,List.mapIdx_append]
theorem tq {L:List Nd} {d:List Nat} {ch:List AV} {low:Nd→Nd} {k:Nat} {c:AV} (h:ch[k]?=some c):∃ r,(de L d ch low).flatten.drop (k*9)=gS L d k c low++r:=by
 have hk:=(List.getElem?_eq_some_iff.1 h).1
 have e:=mm (L:=L) (d:=d) (low:=low) h
 have hk':k<(de L d ch low).length:=by rw [d7]; exact hk
 refine ⟨((de L d ch low).drop (k+1)).flatten,?_⟩
 rw [i7 mh hk']
 congr 1
 rw [List.getElem?_eq_getElem hk'] at e
 exact Option.some.inj e
theorem j4 {L:List Nd} {d:List Nat} {ch:List AV} {low:Nd→Nd} {k:Nat} {c:AV} (h:ch[k]?=some c) (j:Nat) (hj:j≤9):∃ r,(de L d ch low).flatten.drop (k*9+j)=(gS L d k c low).drop j++r:=by
 obtain ⟨r,e⟩:=tq (L:=L) (d:=d) (low:=low) h
 refine ⟨r,?_⟩
 rw [← List.drop_drop,e,List.drop_append_of_le_length (by simpa using hj)]
theorem v8 {L:List Nd} {d:List Nat} {ch:List AV} {low:Nd→Nd} {k:Nat} {c c':AV} (h:ch[k]?=some c):aD (de L d ch low).flatten (k*9+5) [c']=(de L d (ch.set k c') low).flatten:=by
 have hk:=(List.getElem?_eq_some_iff.1 h).1
 have hk':k<(de L d ch low).length:=by rw [d7]; exact hk
 rw [g_ (sz:=9) (by simp) mh hk',vr]
 congr 2
 have e:=mm (L:=L) (d:=d) (low:=low) h
 rw [List.getElem?_eq_getElem hk'] at e
 rw [Option.some.inj e]
 rfl
end Go.Proofs.YtegioimlblnajaaGreat.Ev
namespace Go.Proofs.YtegioimlblnajaaGreat.Ev
set_option linter.unusedVariables false
set_option linter.unusedSimpArgs false
abbrev tl (s:ByteArray):List UInt8:=s.data.toList
def mk (l:List UInt8):ByteArray:=⟨l.toArray⟩
@[simp] theorem QT (l:List UInt8):tl (mk l)=l:=by simp [tl,mk]
@[simp] theorem Q8 (s:ByteArray):mk (tl s)=s:=by simp [tl,mk]
def wht (c:UInt8):Bool:=c.toNat == 9||(c.toNat == 10||(c.toNat == 12||(c.toNat == 13||c.toNat == 32)))
def nw (c:UInt8):Bool:=!wht c
end Go.Proofs.YtegioimlblnajaaGreat.Ev
namespace Go.Proofs.YtegioimlblnajaaGreat.Ev
set_option linter.unusedVariables false
set_option linter.unusedSimpArgs false
inductive Sk where
 | same
 | sl (sz:Nat) (row:List Sk)
 | agg (row:List Sk)
 | ptr (row:List Sk)
def iF (sz:Nat) (g:List AV→Option (List AV)):Nat→List AV→Option (List (List AV))
 | 0,_=>some []
 | n+1,l=>match g (l.take sz) with
  | some r=>match iF sz g n (l.drop sz) with
   | some rs=>some (r::rs)
   | none=>none
  | none=>none
mutual
def vP (H:Hp):Sk→AV→Option AV
 | .same,x=>bif cX x then some x else none
 | .sl sz row,x=>match x with
  | .lit (.slice none 0 0)=>some (.imm sz [])
  | .emp=>some (.imm sz [])
  | .se _ _ _=>some (.imm sz [])
  | .imm s rows=>bif cX (.imm s rows) then some (.imm s rows) else none
  | .sl id off s len _=>bif Nat.beq s sz then match H.get id with
    | some (.cells cs _)=>match iF sz (fun l=>frzR H row l) len (cs.drop off) with
     | some rows=>bif Nat.beq row.length sz then some (.imm sz rows) else none
     | none=>none
    | _=>none
   else none
  | _=>none
 | .agg row,x=>match x with
  | .agg xs=>match frzR H row xs with
   | some ys=>some (.agg ys)
   | none=>none
  | _=>none
 | .ptr row,x=>match x with
  | .ptr id off=>match H.get id with
   | some (.cells cs _)=>match frzR H row ((cs.drop off).take row.length) with
    | some ys=>some (.ip ys)
    | none=>none
   | _=>none
  | _=>none
def frzR (H:Hp):List Sk→List AV→Option (List AV)
 | [],xs=>match xs with
  | []=>some []
  | _=>none
 | k::ks,xs=>match xs with
  | x::xs=>match vP H k x with
   | some y=>match frzR H ks xs with
    | some ys=>some (y::ys)
    | none=>none
   | none=>none
  | []=>none
end
theorem kR {sz:Nat} {g:List AV→Option (List AV)} {H:Hp} (hg:∀ l r,g l=some r→FzL H l r):∀ (n:Nat) (l:List AV) (rows:List (List AV)),iF sz g n l=some rows→rows.length=n∧∀ (i:Nat) (row:List AV),rows[i]?=some row→FzL H ((l.drop (i*sz)).take sz) row
 | 0,l,rows,h=>by
  simp only [iF,Option.some.injEq] at h
  subst h
  exact ⟨rfl,fun i row h=>by simp at h⟩
 | n+1,l,rows,h=>by
  simp only [iF] at h
  split at h
  case h_2=>cases h
  rename_i r hr
  split at h
  case h_2=>cases h
  rename_i rs hrs
  simp only [Option.some.injEq] at h
  subst h
  obtain ⟨h1,h2⟩:=kR hg n _ _ hrs
  refine ⟨by simp [h1],fun i row hi=>?_⟩
  cases i with
  | zero =>
   simp at hi
   subst hi
   simpa using hg _ _ hr
  | succ i =>
   simp at hi
   have:=h2 i row hi
   rw [List.drop_drop] at this
   rw [Nat.succ_mul,Nat.add_comm]
   exact this
theorem FzL.len {H:Hp} {xs ys:List AV} (h:FzL H xs ys):xs.length=ys.length:=h.get.1
mutual
theorem uS {H:Hp}:∀ (k:Sk) (x y:AV),vP H k x=some y→Fz H x y
 | .same,x,y,h=>by
  simp only [vP] at h
  cases hn:cX x with
  | false=>rw [hn] at h; cases h
  | true=>rw [hn] at h; cases h; exact .refl hn
 | .sl sz row,x,y,h=>by
  simp only [vP] at h
  split at h
  ·cases h; exact .nil
  ·cases h; exact .emp
  ·cases h; exact .se
  ·rename_i s rows
   cases hn:cX (.imm s rows) with
   | false=>rw [hn] at h; cases h
   | true=>rw [hn] at h; cases h; exact .refl hn
  ·rename_i id off s len cap
   cases hs:Nat.beq s sz with
   | false=>rw [hs] at h; cases h
   | true =>
    rw [hs] at h
    have:=Nat.eq_of_beq_eq_true hs
    subst this
    simp only [cond_true] at h
    split at h
    case h_2=>cases h
    rename_i cs ex hg
    split at h
    case h_2=>cases h
    rename_i rows hr
    cases hl:Nat.beq row.length s with
    | false=>rw [hl] at h; cases h
    | true =>
     rw [hl] at h
     cases h
     have hlen:=Nat.eq_of_beq_eq_true hl
     obtain ⟨h1,h2⟩:=kR (fun l r hh=>lu row l r hh) _ _ _ hr
     have hrow:∀ (i:Nat) (r:List AV),rows[i]?=some r→r.length=s:=by
      intro i r hi
      obtain ⟨_,hh⟩:=kR (g:=fun l=>frzR H row l) (fun l r hh=>lu row l r hh) _ _ _ hr
      exact ny (fun l r hh=>by rw [← hlen]; exact sE row l r hh) _ _ _ hr i r hi
     refine .sl (fun i j=>cs.getD (off+(i*s+j)) .any) hg h1 hrow (fun i r j y hi hy=>?_) (fun i r j y hi hy=>?_)
     ·obtain ⟨x,hx,_⟩:=(h2 i r hi).get.2 j y hy
      have hj:j<s:=by rw [← hrow i r hi]; exact (List.getElem?_eq_some_iff.1 hy).1
      rw [List.getElem?_take,if_pos hj,List.getElem?_drop,List.getElem?_drop] at hx
      simp [hx]
     ·obtain ⟨x,hx,hf⟩:=(h2 i r hi).get.2 j y hy
      have hj:j<s:=by rw [← hrow i r hi]; exact (List.getElem?_eq_some_iff.1 hy).1
      rw [List.getElem?_take,if_pos hj,List.getElem?_drop,List.getElem?_drop] at hx
      simp [hx]
      exact hf
  ·cases h
 | .agg row,x,y,h=>by
  simp only [vP] at h
  split at h
  case h_2=>cases h
  split at h
  case h_2=>cases h
  rename_i hr
  cases h
  exact Fz.aggL (lu row _ _ hr)
 | .ptr row,x,y,h=>by
  simp only [vP] at h
  split at h
  case h_2=>cases h
  rename_i id off
  split at h
  case h_2=>cases h
  rename_i cs ex hg
  split at h
  case h_2=>cases h
  rename_i ys hr
  cases h
  have hl:=(lu row _ _ hr).get
  refine .ptr (fun j=>cs.getD (off+j) .any) hg (fun j y hy=>?_) (fun j y hy=>?_)
  ·obtain ⟨x,hx,_⟩:=hl.2 j y hy
   rw [List.getElem?_take] at hx
   split at hx
   ·rw [List.getElem?_drop] at hx
    simp [hx]
   ·cases hx
  ·obtain ⟨x,hx,hf⟩:=hl.2 j y hy
   rw [List.getElem?_take] at hx
   split at hx
   ·rw [List.getElem?_drop] at hx
    simp [hx]
    exact hf
   ·cases hx
theorem lu {H:Hp}:∀ (ks:List Sk) (xs ys:List AV),frzR H ks xs=some ys→FzL H xs ys
 | [],xs,ys,h=>by
  simp only [frzR] at h
  split at h
  ·cases h; exact .nil
  ·cases h
 | k::ks,xs,ys,h=>by
  simp only [frzR] at h
  split at h
  case h_2=>cases h
  rename_i x xs
  split at h
  case h_2=>cases h
  rename_i y hy
  split at h
  case h_2=>cases h
  rename_i zs hz
  cases h
  exact .cons (uS k x y hy) (lu ks xs zs hz)
theorem sE {H:Hp}:∀ (ks:List Sk) (xs ys:List AV),frzR H ks xs=some ys→ys.length=ks.length
 | [],xs,ys,h=>by
  simp only [frzR] at h
  split at h
  ·cases h; rfl
  ·cases h
 | k::ks,xs,ys,h=>by
  simp only [frzR] at h
  split at h
  case h_2=>cases h
  split at h
  case h_2=>cases h
  split at h
  case h_2=>cases h
  rename_i zs hz
  cases h
  simp [sE ks _ _ hz]
theorem ny {sz:Nat} {g:List AV→Option (List AV)} (hg:∀ l r,g l=some r→r.length=sz):∀ (n:Nat) (l:List AV) (rows:List (List AV)),iF sz g n l=some rows→∀ (i:Nat) (r:List AV),rows[i]?=some r→r.length=sz
 | 0,l,rows,h,i,r,hi=>by
  simp only [iF,Option.some.injEq] at h
  subst h
  simp at hi
 | n+1,l,rows,h,i,r,hi=>by
  simp only [iF] at h
  split at h
  case h_2=>cases h
  rename_i r0 hr0
  split at h
  case h_2=>cases h
  rename_i rs hrs
  cases h
  cases i with
  | zero=>simp at hi; subst hi; exact hg _ _ hr0
  | succ i=>exact ny hg n _ _ hrs i r (by simpa using hi)
end
def Nj:Sk:=.sl 1 [.same]
def OT:Sk:=.sl 2 [.same,.same]
def Qu:List Sk:=[.same,.same,.same,Nj,OT]
def Pk:Sk:=.sl 5 Qu
end Go.Proofs.YtegioimlblnajaaGreat.Ev
namespace Go.Proofs.YtegioimlblnajaaGreat.Ev
theorem aq.conv {P:Program} {σ:Sig} {f:Nat} {xs ys:List AV} {r:AV} {H H2 H3:Hp} (k:Wk σ ys H xs H2) (h:aq P σ f xs H2 r H3):aq P σ f ys H r H3:=by
 refine ⟨h.1,fun B w0 E w vs hσ hst hxs=>?_⟩
 obtain ⟨E2,h1,h2,h3⟩:=k hσ hst hxs
 refine (h.2 B w0 E2 w vs hσ h2 h3).mono fun e w' hh=>?_
 obtain ⟨E',v,rfl,hext,st2,hrel⟩:=hh
 exact ⟨E',v,rfl,h1.trans hext,st2,hrel⟩
def Hp.bare (n:Nat):Hp:=⟨n,.leaf⟩
@[simp] theorem Hp.bare_n (n:Nat):(Hp.bare n).n=n:=rfl
@[simp] theorem Hp.bare_get (n j:Nat):(Hp.bare n).get j=none:=by simp [Hp.bare,Hp.get,Tr.get]
theorem FzL.t {H:Hp} {xs ys:List AV} (h:FzL H xs ys):FzT H xs ys:=by
 induction h with
 | nil=>exact .nil
 | cons h hs ih=>exact .fz h ih
theorem aq.drop {P:Program} {σ:Sig} {f:Nat} {xs ys:List AV} {r:AV} {H:Hp} (h:∀ H,aq P σ f xs H r H) (hx:FzL H ys xs):aq P σ f ys H r (Hp.bare H.n) :=
 aq.conv (Wk.frz (H2:=Hp.bare H.n) (Hd:=H) rfl rfl (fun id k hk=>⟨hk,by simp⟩) (fun id k2 hk=>by simp at hk) hx.t) (h _)
theorem aa {α:Type} {o:Option α} {x:α} {K:α→Prop} (h:o=some x) (k:K x):bnd o K:=by rw [h]; exact k
end Go.Proofs.YtegioimlblnajaaGreat.Ev
namespace Go.Proofs.YtegioimlblnajaaGreat.Ev
set_option maxRecDepth 100000
set_option maxHeartbeats 4000000
noncomputable def ti1:TI:=⟨.func,1,8,[.nilFunc]⟩
theorem NL:ah Tryz.prog 1=some ti1:=by kernel_rfl
noncomputable def ti2:TI:=⟨.int .i64,1,8,[.int .i64 0]⟩
theorem Mb:ah Tryz.prog 2=some ti2:=by kernel_rfl
noncomputable def ti3:TI:=⟨.int .i64,1,8,[.int .i64 0]⟩
theorem N3:ah Tryz.prog 3=some ti3:=by kernel_rfl
noncomputable def ti4:TI:=⟨.bool,1,1,[.bool false]⟩
theorem MD:ah Tryz.prog 4=some ti4:=by kernel_rfl
noncomputable def ti5:TI:=⟨.int .u8,1,1,[.int .u8 0]⟩
theorem NR:ah Tryz.prog 5=some ti5:=by kernel_rfl
noncomputable def ti6:TI:=⟨.int .u8,1,1,[.int .u8 0]⟩
theorem Oi:ah Tryz.prog 6=some ti6:=by kernel_rfl
noncomputable def ti7:TI:=⟨.struct [(0,2),(1,3),(2,4),(3,6)],4,24,[.int .i64 0,.int .i64 0,.bool false,.int .u8 0]⟩
theorem Ms:ah Tryz.prog 7=some ti7:=by kernel_rfl
noncomputable def ti8:TI:=⟨.struct [(0,2),(1,3),(2,4),(3,6)],4,24,[.int .i64 0,.int .i64 0,.bool false,.int .u8 0]⟩
theorem Mf:ah Tryz.prog 8=some ti8:=by kernel_rfl
noncomputable def ti9:TI:=⟨.string,1,16,[.string ⟨#[]⟩]⟩
theorem Mm:ah Tryz.prog 9=some ti9:=by kernel_rfl
noncomputable def MT:TI:=⟨.string,1,16,[.string ⟨#[]⟩]⟩
theorem IW:ah Tryz.prog 10=some MT:=by kernel_rfl
noncomputable def NO:TI:=⟨.string,1,16,[.string ⟨#[]⟩]⟩
theorem KZ:ah Tryz.prog 11=some NO:=by kernel_rfl
noncomputable def Mx:TI:=⟨.int .u64,1,8,[.int .u64 0]⟩
theorem Lh:ah Tryz.prog 12=some Mx:=by kernel_rfl
noncomputable def Oj:TI:=⟨.struct [(0,9),(1,12)],2,24,[.string ⟨#[]⟩,.int .u64 0]⟩
theorem JH:ah Tryz.prog 13=some Oj:=by kernel_rfl
noncomputable def NH:TI:=⟨.struct [(0,9),(1,12)],2,24,[.string ⟨#[]⟩,.int .u64 0]⟩
theorem IP:ah Tryz.prog 14=some NH:=by kernel_rfl
noncomputable def Nf:TI:=⟨.ptr 343,1,8,[.pointer none]⟩
theorem Jm:ah Tryz.prog 15=some Nf:=by kernel_rfl
noncomputable def LV:TI:=⟨.ptr 346,1,8,[.pointer none]⟩
theorem IT:ah Tryz.prog 16=some LV:=by kernel_rfl
noncomputable def L6:TI:=⟨.ptr 354,1,8,[.pointer none]⟩
theorem Jw:ah Tryz.prog 17=some L6:=by kernel_rfl
noncomputable def Ob:TI:=⟨.struct [(0,17)],1,8,[.pointer none]⟩
theorem II:ah Tryz.prog 18=some Ob:=by kernel_rfl
noncomputable def MF:TI:=⟨.struct [(0,17)],1,8,[.pointer none]⟩
theorem JI:ah Tryz.prog 19=some MF:=by kernel_rfl
noncomputable def NU:TI:=⟨.int .i32,1,4,[.int .i32 0]⟩
theorem I9:ah Tryz.prog 21=some NU:=by kernel_rfl
noncomputable def JK:TI:=⟨.slice 56,1,24,[.slice none 0 0]⟩
theorem JU:ah Tryz.prog 22=some JK:=by kernel_rfl
noncomputable def NG:TI:=⟨.slice 152,1,24,[.slice none 0 0]⟩
theorem IJ:ah Tryz.prog 23=some NG:=by kernel_rfl
noncomputable def N7:TI:=⟨.slice 33,1,24,[.slice none 0 0]⟩
theorem Jf:ah Tryz.prog 24=some N7:=by kernel_rfl
noncomputable def N1:TI:=⟨.func,1,8,[.nilFunc]⟩
theorem KX:ah Tryz.prog 25=some N1:=by kernel_rfl
noncomputable def L7:TI:=⟨.func,1,8,[.nilFunc]⟩
theorem Ja:ah Tryz.prog 26=some L7:=by kernel_rfl
noncomputable def Na:TI:=⟨.ptr 97,1,8,[.pointer none]⟩
theorem JR:ah Tryz.prog 27=some Na:=by kernel_rfl
noncomputable def NZ:TI:=⟨.ptr 81,1,8,[.pointer none]⟩
theorem Je:ah Tryz.prog 28=some NZ:=by kernel_rfl
noncomputable def Mw:TI:=⟨.func,1,8,[.nilFunc]⟩
theorem KY:ah Tryz.prog 30=some Mw:=by kernel_rfl
noncomputable def Mz:TI:=⟨.func,1,8,[.nilFunc]⟩
theorem IF:ah Tryz.prog 31=some Mz:=by kernel_rfl
noncomputable def Nl:TI:=⟨.struct [(0,3),(1,3)],2,16,[.int .i64 0,.int .i64 0]⟩
theorem Kg:ah Tryz.prog 32=some Nl:=by kernel_rfl
noncomputable def L5:TI:=⟨.struct [(0,3),(1,3)],2,16,[.int .i64 0,.int .i64 0]⟩
theorem Lo:ah Tryz.prog 33=some L5:=by kernel_rfl
noncomputable def Np:TI:=⟨.func,1,8,[.nilFunc]⟩
theorem Ke:ah Tryz.prog 34=some Np:=by kernel_rfl
noncomputable def ND:TI:=⟨.func,1,8,[.nilFunc]⟩
theorem KR:ah Tryz.prog 35=some ND:=by kernel_rfl
noncomputable def Me:TI:=⟨.ptr 109,1,8,[.pointer none]⟩
theorem I4:ah Tryz.prog 36=some Me:=by kernel_rfl
noncomputable def N9:TI:=⟨.func,1,8,[.nilFunc]⟩
theorem K9:ah Tryz.prog 38=some N9:=by kernel_rfl
noncomputable def MO:TI:=⟨.slice 42,1,24,[.slice none 0 0]⟩
theorem Kv:ah Tryz.prog 39=some MO:=by kernel_rfl
noncomputable def MN:TI:=⟨.func,1,8,[.nilFunc]⟩
theorem Jk:ah Tryz.prog 40=some MN:=by kernel_rfl
noncomputable def NF:TI:=⟨.array 8 3,8,64,[.int .i64 0,.int .i64 0,.int .i64 0,.int .i64 0,.int .i64 0,.int .i64 0,.int .i64 0,.int .i64 0]⟩
theorem K7:ah Tryz.prog 41=some NF:=by kernel_rfl
noncomputable def MZ:TI:=⟨.array 8 3,8,64,[.int .i64 0,.int .i64 0,.int .i64 0,.int .i64 0,.int .i64 0,.int .i64 0,.int .i64 0,.int .i64 0]⟩
theorem Lc:ah Tryz.prog 42=some MZ:=by kernel_rfl
noncomputable def Mq:TI:=⟨.int .i64,1,8,[.int .i64 0]⟩
theorem Ld:ah Tryz.prog 43=some Mq:=by kernel_rfl
noncomputable def L8:TI:=⟨.func,1,8,[.nilFunc]⟩
theorem JB:ah Tryz.prog 45=some L8:=by kernel_rfl
noncomputable def MY:TI:=⟨.func,1,8,[.nilFunc]⟩
theorem Kd:ah Tryz.prog 46=some MY:=by kernel_rfl
noncomputable def N6:TI:=⟨.func,1,8,[.nilFunc]⟩
theorem IR:ah Tryz.prog 47=some N6:=by kernel_rfl
noncomputable def N_:TI:=⟨.slice 3,1,24,[.slice none 0 0]⟩
theorem I0:ah Tryz.prog 48=some N_:=by kernel_rfl
noncomputable def Mo:TI:=⟨.func,1,8,[.nilFunc]⟩
theorem J6:ah Tryz.prog 49=some Mo:=by kernel_rfl
noncomputable def NQ:TI:=⟨.func,1,8,[.nilFunc]⟩
theorem KV:ah Tryz.prog 50=some NQ:=by kernel_rfl
noncomputable def MP:TI:=⟨.slice 4,1,24,[.slice none 0 0]⟩
theorem JE:ah Tryz.prog 51=some MP:=by kernel_rfl
noncomputable def Og:TI:=⟨.func,1,8,[.nilFunc]⟩
theorem Ls:ah Tryz.prog 52=some Og:=by kernel_rfl
noncomputable def JG:TI:=⟨.slice 9,1,24,[.slice none 0 0]⟩
theorem IL:ah Tryz.prog 53=some JG:=by kernel_rfl
noncomputable def Kk:TI:=⟨.slice 127,1,24,[.slice none 0 0]⟩
theorem Jq:ah Tryz.prog 54=some Kk:=by kernel_rfl
noncomputable def Ma:TI:=⟨.struct [(0,3),(1,9),(2,9),(3,53),(4,54)],5,88,[.int .i64 0,.string ⟨#[]⟩,.string ⟨#[]⟩,.slice none 0 0,.slice none 0 0]⟩
theorem I6:ah Tryz.prog 55=some Ma:=by kernel_rfl
noncomputable def Jr:TI:=⟨.struct [(0,3),(1,9),(2,9),(3,53),(4,54)],5,88,[.int .i64 0,.string ⟨#[]⟩,.string ⟨#[]⟩,.slice none 0 0,.slice none 0 0]⟩
theorem JA:ah Tryz.prog 56=some Jr:=by kernel_rfl
noncomputable def Md:TI:=⟨.func,1,8,[.nilFunc]⟩
theorem IK:ah Tryz.prog 57=some Md:=by kernel_rfl
noncomputable def MH:TI:=⟨.func,1,8,[.nilFunc]⟩
theorem KG:ah Tryz.prog 58=some MH:=by kernel_rfl
noncomputable def Ng:TI:=⟨.func,1,8,[.nilFunc]⟩
theorem Kz:ah Tryz.prog 59=some Ng:=by kernel_rfl
noncomputable def NE:TI:=⟨.ptr 130,1,8,[.pointer none]⟩
theorem Jx:ah Tryz.prog 60=some NE:=by kernel_rfl
noncomputable def NK:TI:=⟨.func,1,8,[.nilFunc]⟩
theorem Kq:ah Tryz.prog 62=some NK:=by kernel_rfl
noncomputable def NC:TI:=⟨.func,1,8,[.nilFunc]⟩
theorem Js:ah Tryz.prog 64=some NC:=by kernel_rfl
noncomputable def MX:TI:=⟨.slice 90,1,24,[.slice none 0 0]⟩
theorem IU:ah Tryz.prog 65=some MX:=by kernel_rfl
noncomputable def MR:TI:=⟨.func,1,8,[.nilFunc]⟩
theorem IX:ah Tryz.prog 66=some MR:=by kernel_rfl
noncomputable def MK:TI:=⟨.func,1,8,[.nilFunc]⟩
theorem JX:ah Tryz.prog 67=some MK:=by kernel_rfl
noncomputable def Mu:TI:=⟨.func,1,8,[.nilFunc]⟩
theorem Lg:ah Tryz.prog 68=some Mu:=by kernel_rfl
noncomputable def Mt:TI:=⟨.func,1,8,[.nilFunc]⟩
theorem I7:ah Tryz.prog 69=some Mt:=by kernel_rfl
noncomputable def LX:TI:=⟨.func,1,8,[.nilFunc]⟩
theorem K6:ah Tryz.prog 71=some LX:=by kernel_rfl
noncomputable def NJ:TI:=⟨.func,1,8,[.nilFunc]⟩
theorem Lj:ah Tryz.prog 72=some NJ:=by kernel_rfl
noncomputable def NW:TI:=⟨.func,1,8,[.nilFunc]⟩
theorem KH:ah Tryz.prog 73=some NW:=by kernel_rfl
noncomputable def MI:TI:=⟨.func,1,8,[.nilFunc]⟩
theorem Lp:ah Tryz.prog 74=some MI:=by kernel_rfl
noncomputable def NV:TI:=⟨.slice 156,1,24,[.slice none 0 0]⟩
theorem Ln:ah Tryz.prog 75=some NV:=by kernel_rfl
noncomputable def Nh:TI:=⟨.slice 121,1,24,[.slice none 0 0]⟩
theorem KI:ah Tryz.prog 76=some Nh:=by kernel_rfl
noncomputable def Mi:TI:=⟨.slice 228,1,24,[.slice none 0 0]⟩
theorem Jb:ah Tryz.prog 77=some Mi:=by kernel_rfl
noncomputable def NM:TI:=⟨.struct [(0,77)],1,24,[.slice none 0 0]⟩
theorem Lk:ah Tryz.prog 78=some NM:=by kernel_rfl
noncomputable def MC:TI:=⟨.struct [(0,77)],1,24,[.slice none 0 0]⟩
theorem Ko:ah Tryz.prog 79=some MC:=by kernel_rfl
noncomputable def NX:TI:=⟨.struct [(0,36),(1,23),(2,75),(3,76),(4,3),(5,79),(6,48),(7,51),(8,65)],9,184,[.pointer none,.slice none 0 0,.slice none 0 0,.slice none 0 0,.int .i64 0,.slice none 0 0,.slice none 0 0,.slice none 0 0,.slice none 0 0]⟩
theorem KT:ah Tryz.prog 80=some NX:=by kernel_rfl
noncomputable def N8:TI:=⟨.struct [(0,36),(1,23),(2,75),(3,76),(4,3),(5,79),(6,48),(7,51),(8,65)],9,184,[.pointer none,.slice none 0 0,.slice none 0 0,.slice none 0 0,.int .i64 0,.slice none 0 0,.slice none 0 0,.slice none 0 0,.slice none 0 0]⟩
theorem IN:ah Tryz.prog 81=some N8:=by kernel_rfl
noncomputable def ML:TI:=⟨.func,1,8,[.nilFunc]⟩
theorem JD:ah Tryz.prog 82=some ML:=by kernel_rfl
noncomputable def My:TI:=⟨.ptr 158,1,8,[.pointer none]⟩
theorem Ju:ah Tryz.prog 83=some My:=by kernel_rfl
noncomputable def MA:TI:=⟨.func,1,8,[.nilFunc]⟩
theorem IM:ah Tryz.prog 84=some MA:=by kernel_rfl
noncomputable def MM:TI:=⟨.array 64 4,64,64,[.bool false,.bool false,.bool false,.bool false,.bool false,.bool false,.bool false,.bool false,.bool false,.bool false,.bool false,.bool false,.bool false,.bool false,.bool false,.bool false,.bool false,.bool false,.bool false,.bool false,.bool false,.bool false,.bool false,.bool false,.bool false,.bool false,.bool false,.bool false,.bool false,.bool false,.bool false,.bool false,.bool false,.bool false,.bool false,.bool false,.bool false,.bool false,.bool false,.bool false,.bool false,.bool false,.bool false,.bool false,.bool false,.bool false,.bool false,.bool false,.bool false,.bool false,.bool false,.bool false,.bool false,.bool false,.bool false,.bool false,.bool false,.bool false,.bool false,.bool false,.bool false,.bool false,.bool false,.bool false]⟩
theorem Le:ah Tryz.prog 85=some MM:=by kernel_rfl
noncomputable def Nq:TI:=⟨.func,1,8,[.nilFunc]⟩
theorem J_:ah Tryz.prog 86=some Nq:=by kernel_rfl
noncomputable def MQ:TI:=⟨.ptr 164,1,8,[.pointer none]⟩
theorem I_:ah Tryz.prog 87=some MQ:=by kernel_rfl
noncomputable def Nm:TI:=⟨.func,1,8,[.nilFunc]⟩
theorem Km:ah Tryz.prog 88=some Nm:=by kernel_rfl
noncomputable def MU:TI:=⟨.struct [(0,3),(1,3),(2,4),(3,4)],4,24,[.int .i64 0,.int .i64 0,.bool false,.bool false]⟩
theorem JF:ah Tryz.prog 89=some MU:=by kernel_rfl
noncomputable def MB:TI:=⟨.struct [(0,3),(1,3),(2,4),(3,4)],4,24,[.int .i64 0,.int .i64 0,.bool false,.bool false]⟩
theorem JP:ah Tryz.prog 90=some MB:=by kernel_rfl
noncomputable def Mr:TI:=⟨.func,1,8,[.nilFunc]⟩
theorem Li:ah Tryz.prog 91=some Mr:=by kernel_rfl
noncomputable def NT:TI:=⟨.slice 190,1,24,[.slice none 0 0]⟩
theorem Ku:ah Tryz.prog 92=some NT:=by kernel_rfl
noncomputable def Nu:TI:=⟨.struct [(0,92),(1,3)],2,32,[.slice none 0 0,.int .i64 0]⟩
theorem Jc:ah Tryz.prog 93=some Nu:=by kernel_rfl
noncomputable def Mg:TI:=⟨.struct [(0,92),(1,3)],2,32,[.slice none 0 0,.int .i64 0]⟩
theorem Ll:ah Tryz.prog 94=some Mg:=by kernel_rfl
noncomputable def Nt:TI:=⟨.slice 107,1,24,[.slice none 0 0]⟩
theorem JW:ah Tryz.prog 95=some Nt:=by kernel_rfl
noncomputable def LW:TI:=⟨.struct [(0,60),(1,23),(2,75),(3,94),(5,95),(6,3),(7,48),(8,51),(9,65)],10,192,[.pointer none,.slice none 0 0,.slice none 0 0,.slice none 0 0,.int .i64 0,.slice none 0 0,.int .i64 0,.slice none 0 0,.slice none 0 0,.slice none 0 0]⟩
theorem JN:ah Tryz.prog 96=some LW:=by kernel_rfl
noncomputable def MW:TI:=⟨.struct [(0,60),(1,23),(2,75),(3,94),(5,95),(6,3),(7,48),(8,51),(9,65)],10,192,[.pointer none,.slice none 0 0,.slice none 0 0,.slice none 0 0,.int .i64 0,.slice none 0 0,.int .i64 0,.slice none 0 0,.slice none 0 0,.slice none 0 0]⟩
theorem Kp:ah Tryz.prog 97=some MW:=by kernel_rfl
noncomputable def MJ:TI:=⟨.func,1,8,[.nilFunc]⟩
theorem IY:ah Tryz.prog 98=some MJ:=by kernel_rfl
noncomputable def Nw:TI:=⟨.array 5 98,5,40,[.nilFunc,.nilFunc,.nilFunc,.nilFunc,.nilFunc]⟩
theorem I8:ah Tryz.prog 99=some Nw:=by kernel_rfl
noncomputable def HZ:TI:=⟨.func,1,8,[.nilFunc]⟩
theorem CJ:ah Tryz.prog 100=some HZ:=by kernel_rfl
noncomputable def Bb:TI:=⟨.ptr 210,1,8,[.pointer none]⟩
theorem Gv:ah Tryz.prog 101=some Bb:=by kernel_rfl
noncomputable def Be:TI:=⟨.ptr 203,1,8,[.pointer none]⟩
theorem Fi:ah Tryz.prog 102=some Be:=by kernel_rfl
noncomputable def Aj:TI:=⟨.struct [(0,48)],1,24,[.slice none 0 0]⟩
theorem Ir:ah Tryz.prog 103=some Aj:=by kernel_rfl
noncomputable def xC:TI:=⟨.struct [(0,48)],1,24,[.slice none 0 0]⟩
theorem E5:ah Tryz.prog 104=some xC:=by kernel_rfl
noncomputable def Fw:TI:=⟨.struct [(0,3),(1,101),(2,102),(3,104),(4,3),(5,3),(6,3)],7,72,[.int .i64 0,.pointer none,.pointer none,.slice none 0 0,.int .i64 0,.int .i64 0,.int .i64 0]⟩
theorem zL:ah Tryz.prog 105=some Fw:=by kernel_rfl
noncomputable def xN:TI:=⟨.struct [(0,3),(1,101),(2,102),(3,104),(4,3),(5,3),(6,3)],7,72,[.int .i64 0,.pointer none,.pointer none,.slice none 0 0,.int .i64 0,.int .i64 0,.int .i64 0]⟩
theorem D6:ah Tryz.prog 106=some xN:=by kernel_rfl
noncomputable def yw:TI:=⟨.ptr 106,1,8,[.pointer none]⟩
theorem xD:ah Tryz.prog 107=some yw:=by kernel_rfl
noncomputable def DG:TI:=⟨.struct [(0,22),(1,48)],2,48,[.slice none 0 0,.slice none 0 0]⟩
theorem z_:ah Tryz.prog 108=some DG:=by kernel_rfl
noncomputable def Aa:TI:=⟨.struct [(0,22),(1,48)],2,48,[.slice none 0 0,.slice none 0 0]⟩
theorem Ez:ah Tryz.prog 109=some Aa:=by kernel_rfl
noncomputable def Ci:TI:=⟨.func,1,8,[.nilFunc]⟩
theorem BF:ah Tryz.prog 110=some Ci:=by kernel_rfl
noncomputable def wU:TI:=⟨.struct [(0,3),(1,3)],2,16,[.int .i64 0,.int .i64 0]⟩
theorem DO:ah Tryz.prog 111=some wU:=by kernel_rfl
noncomputable def HI:TI:=⟨.struct [(0,3),(1,3)],2,16,[.int .i64 0,.int .i64 0]⟩
theorem De:ah Tryz.prog 112=some HI:=by kernel_rfl
noncomputable def GS:TI:=⟨.array 8 112,16,128,[.int .i64 0,.int .i64 0,.int .i64 0,.int .i64 0,.int .i64 0,.int .i64 0,.int .i64 0,.int .i64 0,.int .i64 0,.int .i64 0,.int .i64 0,.int .i64 0,.int .i64 0,.int .i64 0,.int .i64 0,.int .i64 0]⟩
theorem DQ:ah Tryz.prog 113=some GS:=by kernel_rfl
noncomputable def BW:TI:=⟨.func,1,8,[.nilFunc]⟩
theorem zg:ah Tryz.prog 114=some BW:=by kernel_rfl
noncomputable def yL:TI:=⟨.func,1,8,[.nilFunc]⟩
theorem CF:ah Tryz.prog 115=some yL:=by kernel_rfl
noncomputable def wW:TI:=⟨.ptr 42,1,8,[.pointer none]⟩
theorem FP:ah Tryz.prog 116=some wW:=by kernel_rfl
noncomputable def zC:TI:=⟨.ptr 121,1,8,[.pointer none]⟩
theorem Gx:ah Tryz.prog 117=some zC:=by kernel_rfl
noncomputable def Gc:TI:=⟨.ptr 145,1,8,[.pointer none]⟩
theorem Gz:ah Tryz.prog 118=some Gc:=by kernel_rfl
noncomputable def Dy:TI:=⟨.ptr 225,1,8,[.pointer none]⟩
theorem xE:ah Tryz.prog 119=some Dy:=by kernel_rfl
noncomputable def xK:TI:=⟨.struct [(0,3),(1,3),(2,3),(3,3),(4,118),(5,119),(6,48),(7,48)],8,96,[.int .i64 0,.int .i64 0,.int .i64 0,.int .i64 0,.pointer none,.pointer none,.slice none 0 0,.slice none 0 0]⟩
theorem AW:ah Tryz.prog 120=some xK:=by kernel_rfl
noncomputable def GR:TI:=⟨.struct [(0,3),(1,3),(2,3),(3,3),(4,118),(5,119),(6,48),(7,48)],8,96,[.int .i64 0,.int .i64 0,.int .i64 0,.int .i64 0,.pointer none,.pointer none,.slice none 0 0,.slice none 0 0]⟩
theorem Hs:ah Tryz.prog 121=some GR:=by kernel_rfl
noncomputable def Hr:TI:=⟨.func,1,8,[.nilFunc]⟩
theorem yQ:ah Tryz.prog 122=some Hr:=by kernel_rfl
noncomputable def Ab:TI:=⟨.func,1,8,[.nilFunc]⟩
theorem GV:ah Tryz.prog 123=some Ab:=by kernel_rfl
noncomputable def GY:TI:=⟨.func,1,8,[.nilFunc]⟩
theorem xp:ah Tryz.prog 124=some GY:=by kernel_rfl
noncomputable def GO:TI:=⟨.func,1,8,[.nilFunc]⟩
theorem D7:ah Tryz.prog 125=some GO:=by kernel_rfl
noncomputable def xQ:TI:=⟨.struct [(0,9),(1,9)],2,32,[.string ⟨#[]⟩,.string ⟨#[]⟩]⟩
theorem C_:ah Tryz.prog 126=some xQ:=by kernel_rfl
noncomputable def uW:TI:=⟨.struct [(0,9),(1,9)],2,32,[.string ⟨#[]⟩,.string ⟨#[]⟩]⟩
theorem EE:ah Tryz.prog 127=some uW:=by kernel_rfl
noncomputable def Co:TI:=⟨.slice 212,1,24,[.slice none 0 0]⟩
theorem Bz:ah Tryz.prog 128=some Co:=by kernel_rfl
noncomputable def F_:TI:=⟨.struct [(0,128)],1,24,[.slice none 0 0]⟩
theorem F8:ah Tryz.prog 129=some F_:=by kernel_rfl
noncomputable def wQ:TI:=⟨.struct [(0,128)],1,24,[.slice none 0 0]⟩
theorem wh:ah Tryz.prog 130=some wQ:=by kernel_rfl
noncomputable def BM:TI:=⟨.func,1,8,[.nilFunc]⟩
theorem CH:ah Tryz.prog 131=some BM:=by kernel_rfl
noncomputable def BC:TI:=⟨.func,1,8,[.nilFunc]⟩
theorem FS:ah Tryz.prog 132=some BC:=by kernel_rfl
noncomputable def AA:TI:=⟨.func,1,8,[.nilFunc]⟩
theorem yz:ah Tryz.prog 133=some AA:=by kernel_rfl
noncomputable def Hn:TI:=⟨.func,1,8,[.nilFunc]⟩
theorem EP:ah Tryz.prog 134=some Hn:=by kernel_rfl
noncomputable def z0:TI:=⟨.func,1,8,[.nilFunc]⟩
theorem GH:ah Tryz.prog 135=some z0:=by kernel_rfl
noncomputable def Hg:TI:=⟨.func,1,8,[.nilFunc]⟩
theorem C9:ah Tryz.prog 136=some Hg:=by kernel_rfl
noncomputable def Dc:TI:=⟨.func,1,8,[.nilFunc]⟩
theorem CQ:ah Tryz.prog 138=some Dc:=by kernel_rfl
noncomputable def Iy:TI:=⟨.func,1,8,[.nilFunc]⟩
theorem Bh:ah Tryz.prog 139=some Iy:=by kernel_rfl
noncomputable def wd:TI:=⟨.func,1,8,[.nilFunc]⟩
theorem yp:ah Tryz.prog 140=some wd:=by kernel_rfl
noncomputable def zl:TI:=⟨.struct [(0,3),(1,3),(2,3),(3,3),(4,3),(5,4)],6,48,[.int .i64 0,.int .i64 0,.int .i64 0,.int .i64 0,.int .i64 0,.bool false]⟩
theorem wT:ah Tryz.prog 141=some zl:=by kernel_rfl
noncomputable def Ax:TI:=⟨.struct [(0,3),(1,3),(2,3),(3,3),(4,3),(5,4)],6,48,[.int .i64 0,.int .i64 0,.int .i64 0,.int .i64 0,.int .i64 0,.bool false]⟩
theorem xt:ah Tryz.prog 142=some Ax:=by kernel_rfl
noncomputable def Cr:TI:=⟨.array 65 142,390,3120,[.int .i64 0,.int .i64 0,.int .i64 0,.int .i64 0,.int .i64 0,.bool false,.int .i64 0,.int .i64 0,.int .i64 0,.int .i64 0,.int .i64 0,.bool false,.int .i64 0,.int .i64 0,.int .i64 0,.int .i64 0,.int .i64 0,.bool false,.int .i64 0,.int .i64 0,.int .i64 0,.int .i64 0,.int .i64 0,.bool false,.int .i64 0,.int .i64 0,.int .i64 0,.int .i64 0,.int .i64 0,.bool false,.int .i64 0,.int .i64 0,.int .i64 0,.int .i64 0,.int .i64 0,.bool false,.int .i64 0,.int .i64 0,.int .i64 0,.int .i64 0,.int .i64 0,.bool false,.int .i64 0,.int .i64 0,.int .i64 0,.int .i64 0,.int .i64 0,.bool false,.int .i64 0,.int .i64 0,.int .i64 0,.int .i64 0,.int .i64 0,.bool false,.int .i64 0,.int .i64 0,.int .i64 0,.int .i64 0,.int .i64 0,.bool false,.int .i64 0,.int .i64 0,.int .i64 0,.int .i64 0,.int .i64 0,.bool false,.int .i64 0,.int .i64 0,.int .i64 0,.int .i64 0,.int .i64 0,.bool false,.int .i64 0,.int .i64 0,.int .i64 0,.int .i64 0,.int .i64 0,.bool false,.int .i64 0,.int .i64 0,.int .i64 0,.int .i64 0,.int .i64 0,.bool false,.int .i64 0,.int .i64 0,.int .i64 0,.int .i64 0,.int .i64 0,.bool false,.int .i64 0,.int .i64 0,.int .i64 0,.int .i64 0,.int .i64 0,.bool false,.int .i64 0,.int .i64 0,.int .i64 0,.int .i64 0,.int .i64 0,.bool false,.int .i64 0,.int .i64 0,.int .i64 0,.int .i64 0,.int .i64 0,.bool false,.int .i64 0,.int .i64 0,.int .i64 0,.int .i64 0,.int .i64 0,.bool false,.int .i64 0,.int .i64 0,.int .i64 0,.int .i64 0,.int .i64 0,.bool false,.int .i64 0,.int .i64 0,.int .i64 0,.int .i64 0,.int .i64 0,.bool false,.int .i64 0,.int .i64 0,.int .i64 0,.int .i64 0,.int .i64 0,.bool false,.int .i64 0,.int .i64 0,.int .i64 0,.int .i64 0,.int .i64 0,.bool false,.int .i64 0,.int .i64 0,.int .i64 0,.int .i64 0,.int .i64 0,.bool false,.int .i64 0,.int .i64 0,.int .i64 0,.int .i64 0,.int .i64 0,.bool false,.int .i64 0,.int .i64 0,.int .i64 0,.int .i64 0,.int .i64 0,.bool false,.int .i64 0,.int .i64 0,.int .i64 0,.int .i64 0,.int .i64 0,.bool false,.int .i64 0,.int .i64 0,.int .i64 0,.int .i64 0,.int .i64 0,.bool false,.int .i64 0,.int .i64 0,.int .i64 0,.int .i64 0,.int .i64 0,.bool false,.int .i64 0,.int .i64 0,.int .i64 0,.int .i64 0,.int .i64 0,.bool false,.int .i64 0,.int .i64 0,.int .i64 0,.int .i64 0,.int .i64 0,.bool false,.int .i64 0,.int .i64 0,.int .i64 0,.int .i64 0,.int .i64 0,.bool false,.int .i64 0,.int .i64 0,.int .i64 0,.int .i64 0,.int .i64 0,.bool false,.int .i64 0,.int .i64 0,.int .i64 0,.int .i64 0,.int .i64 0,.bool false,.int .i64 0,.int .i64 0,.int .i64 0,.int .i64 0,.int .i64 0,.bool false,.int .i64 0,.int .i64 0,.int .i64 0,.int .i64 0,.int .i64 0,.bool false,.int .i64 0,.int .i64 0,.int .i64 0,.int .i64 0,.int .i64 0,.bool false,.int .i64 0,.int .i64 0,.int .i64 0,.int .i64 0,.int .i64 0,.bool false,.int .i64 0,.int .i64 0,.int .i64 0,.int .i64 0,.int .i64 0,.bool false,.int .i64 0,.int .i64 0,.int .i64 0,.int .i64 0,.int .i64 0,.bool false,.int .i64 0,.int .i64 0,.int .i64 0,.int .i64 0,.int .i64 0,.bool false,.int .i64 0,.int .i64 0,.int .i64 0,.int .i64 0,.int .i64 0,.bool false,.int .i64 0,.int .i64 0,.int .i64 0,.int .i64 0,.int .i64 0,.bool false,.int .i64 0,.int .i64 0,.int .i64 0,.int .i64 0,.int .i64 0,.bool false,.int .i64 0,.int .i64 0,.int .i64 0,.int .i64 0,.int .i64 0,.bool false,.int .i64 0,.int .i64 0,.int .i64 0,.int .i64 0,.int .i64 0,.bool false,.int .i64 0,.int .i64 0,.int .i64 0,.int .i64 0,.int .i64 0,.bool false,.int .i64 0,.int .i64 0,.int .i64 0,.int .i64 0,.int .i64 0,.bool false,.int .i64 0,.int .i64 0,.int .i64 0,.int .i64 0,.int .i64 0,.bool false,.int .i64 0,.int .i64 0,.int .i64 0,.int .i64 0,.int .i64 0,.bool false,.int .i64 0,.int .i64 0,.int .i64 0,.int .i64 0,.int .i64 0,.bool false,.int .i64 0,.int .i64 0,.int .i64 0,.int .i64 0,.int .i64 0,.bool false,.int .i64 0,.int .i64 0,.int .i64 0,.int .i64 0,.int .i64 0,.bool false,.int .i64 0,.int .i64 0,.int .i64 0,.int .i64 0,.int .i64 0,.bool false,.int .i64 0,.int .i64 0,.int .i64 0,.int .i64 0,.int .i64 0,.bool false,.int .i64 0,.int .i64 0,.int .i64 0,.int .i64 0,.int .i64 0,.bool false,.int .i64 0,.int .i64 0,.int .i64 0,.int .i64 0,.int .i64 0,.bool false,.int .i64 0,.int .i64 0,.int .i64 0,.int .i64 0,.int .i64 0,.bool false,.int .i64 0,.int .i64 0,.int .i64 0,.int .i64 0,.int .i64 0,.bool false,.int .i64 0,.int .i64 0,.int .i64 0,.int .i64 0,.int .i64 0,.bool false,.int .i64 0,.int .i64 0,.int .i64 0,.int .i64 0,.int .i64 0,.bool false,.int .i64 0,.int .i64 0,.int .i64 0,.int .i64 0,.int .i64 0,.bool false,.int .i64 0,.int .i64 0,.int .i64 0,.int .i64 0,.int .i64 0,.bool false,.int .i64 0,.int .i64 0,.int .i64 0,.int .i64 0,.int .i64 0,.bool false,.int .i64 0,.int .i64 0,.int .i64 0,.int .i64 0,.int .i64 0,.bool false]⟩
theorem DA:ah Tryz.prog 143=some Cr:=by kernel_rfl
noncomputable def yn:TI:=⟨.struct [(0,3),(1,3),(2,3),(3,48),(4,143),(394,90)],398,3192,[.int .i64 0,.int .i64 0,.int .i64 0,.slice none 0 0,.int .i64 0,.int .i64 0,.int .i64 0,.int .i64 0,.int .i64 0,.bool false,.int .i64 0,.int .i64 0,.int .i64 0,.int .i64 0,.int .i64 0,.bool false,.int .i64 0,.int .i64 0,.int .i64 0,.int .i64 0,.int .i64 0,.bool false,.int .i64 0,.int .i64 0,.int .i64 0,.int .i64 0,.int .i64 0,.bool false,.int .i64 0,.int .i64 0,.int .i64 0,.int .i64 0,.int .i64 0,.bool false,.int .i64 0,.int .i64 0,.int .i64 0,.int .i64 0,.int .i64 0,.bool false,.int .i64 0,.int .i64 0,.int .i64 0,.int .i64 0,.int .i64 0,.bool false,.int .i64 0,.int .i64 0,.int .i64 0,.int .i64 0,.int .i64 0,.bool false,.int .i64 0,.int .i64 0,.int .i64 0,.int .i64 0,.int .i64 0,.bool false,.int .i64 0,.int .i64 0,.int .i64 0,.int .i64 0,.int .i64 0,.bool false,.int .i64 0,.int .i64 0,.int .i64 0,.int .i64 0,.int .i64 0,.bool false,.int .i64 0,.int .i64 0,.int .i64 0,.int .i64 0,.int .i64 0,.bool false,.int .i64 0,.int .i64 0,.int .i64 0,.int .i64 0,.int .i64 0,.bool false,.int .i64 0,.int .i64 0,.int .i64 0,.int .i64 0,.int .i64 0,.bool false,.int .i64 0,.int .i64 0,.int .i64 0,.int .i64 0,.int .i64 0,.bool false,.int .i64 0,.int .i64 0,.int .i64 0,.int .i64 0,.int .i64 0,.bool false,.int .i64 0,.int .i64 0,.int .i64 0,.int .i64 0,.int .i64 0,.bool false,.int .i64 0,.int .i64 0,.int .i64 0,.int .i64 0,.int .i64 0,.bool false,.int .i64 0,.int .i64 0,.int .i64 0,.int .i64 0,.int .i64 0,.bool false,.int .i64 0,.int .i64 0,.int .i64 0,.int .i64 0,.int .i64 0,.bool false,.int .i64 0,.int .i64 0,.int .i64 0,.int .i64 0,.int .i64 0,.bool false,.int .i64 0,.int .i64 0,.int .i64 0,.int .i64 0,.int .i64 0,.bool false,.int .i64 0,.int .i64 0,.int .i64 0,.int .i64 0,.int .i64 0,.bool false,.int .i64 0,.int .i64 0,.int .i64 0,.int .i64 0,.int .i64 0,.bool false,.int .i64 0,.int .i64 0,.int .i64 0,.int .i64 0,.int .i64 0,.bool false,.int .i64 0,.int .i64 0,.int .i64 0,.int .i64 0,.int .i64 0,.bool false,.int .i64 0,.int .i64 0,.int .i64 0,.int .i64 0,.int .i64 0,.bool false,.int .i64 0,.int .i64 0,.int .i64 0,.int .i64 0,.int .i64 0,.bool false,.int .i64 0,.int .i64 0,.int .i64 0,.int .i64 0,.int .i64 0,.bool false,.int .i64 0,.int .i64 0,.int .i64 0,.int .i64 0,.int .i64 0,.bool false,.int .i64 0,.int .i64 0,.int .i64 0,.int .i64 0,.int .i64 0,.bool false,.int .i64 0,.int .i64 0,.int .i64 0,.int .i64 0,.int .i64 0,.bool false,.int .i64 0,.int .i64 0,.int .i64 0,.int .i64 0,.int .i64 0,.bool false,.int .i64 0,.int .i64 0,.int .i64 0,.int .i64 0,.int .i64 0,.bool false,.int .i64 0,.int .i64 0,.int .i64 0,.int .i64 0,.int .i64 0,.bool false,.int .i64 0,.int .i64 0,.int .i64 0,.int .i64 0,.int .i64 0,.bool false,.int .i64 0,.int .i64 0,.int .i64 0,.int .i64 0,.int .i64 0,.bool false,.int .i64 0,.int .i64 0,.int .i64 0,.int .i64 0,.int .i64 0,.bool false,.int .i64 0,.int .i64 0,.int .i64 0,.int .i64 0,.int .i64 0,.bool false,.int .i64 0,.int .i64 0,.int .i64 0,.int .i64 0,.int .i64 0,.bool false,.int .i64 0,.int .i64 0,.int .i64 0,.int .i64 0,.int .i64 0,.bool false,.int .i64 0,.int .i64 0,.int .i64 0,.int .i64 0,.int .i64 0,.bool false,.int .i64 0,.int .i64 0,.int .i64 0,.int .i64 0,.int .i64 0,.bool false,.int .i64 0,.int .i64 0,.int .i64 0,.int .i64 0,.int .i64 0,.bool false,.int .i64 0,.int .i64 0,.int .i64 0,.int .i64 0,.int .i64 0,.bool false,.int .i64 0,.int .i64 0,.int .i64 0,.int .i64 0,.int .i64 0,.bool false,.int .i64 0,.int .i64 0,.int .i64 0,.int .i64 0,.int .i64 0,.bool false,.int .i64 0,.int .i64 0,.int .i64 0,.int .i64 0,.int .i64 0,.bool false,.int .i64 0,.int .i64 0,.int .i64 0,.int .i64 0,.int .i64 0,.bool false,.int .i64 0,.int .i64 0,.int .i64 0,.int .i64 0,.int .i64 0,.bool false,.int .i64 0,.int .i64 0,.int .i64 0,.int .i64 0,.int .i64 0,.bool false,.int .i64 0,.int .i64 0,.int .i64 0,.int .i64 0,.int .i64 0,.bool false,.int .i64 0,.int .i64 0,.int .i64 0,.int .i64 0,.int .i64 0,.bool false,.int .i64 0,.int .i64 0,.int .i64 0,.int .i64 0,.int .i64 0,.bool false,.int .i64 0,.int .i64 0,.int .i64 0,.int .i64 0,.int .i64 0,.bool false,.int .i64 0,.int .i64 0,.int .i64 0,.int .i64 0,.int .i64 0,.bool false,.int .i64 0,.int .i64 0,.int .i64 0,.int .i64 0,.int .i64 0,.bool false,.int .i64 0,.int .i64 0,.int .i64 0,.int .i64 0,.int .i64 0,.bool false,.int .i64 0,.int .i64 0,.int .i64 0,.int .i64 0,.int .i64 0,.bool false,.int .i64 0,.int .i64 0,.int .i64 0,.int .i64 0,.int .i64 0,.bool false,.int .i64 0,.int .i64 0,.int .i64 0,.int .i64 0,.int .i64 0,.bool false,.int .i64 0,.int .i64 0,.int .i64 0,.int .i64 0,.int .i64 0,.bool false,.int .i64 0,.int .i64 0,.int .i64 0,.int .i64 0,.int .i64 0,.bool false,.int .i64 0,.int .i64 0,.int .i64 0,.int .i64 0,.int .i64 0,.bool false,.int .i64 0,.int .i64 0,.int .i64 0,.int .i64 0,.int .i64 0,.bool false,.int .i64 0,.int .i64 0,.bool false,.bool false]⟩
theorem Bm:ah Tryz.prog 144=some yn:=by kernel_rfl
noncomputable def w7:TI:=⟨.struct [(0,3),(1,3),(2,3),(3,48),(4,143),(394,90)],398,3192,[.int .i64 0,.int .i64 0,.int .i64 0,.slice none 0 0,.int .i64 0,.int .i64 0,.int .i64 0,.int .i64 0,.int .i64 0,.bool false,.int .i64 0,.int .i64 0,.int .i64 0,.int .i64 0,.int .i64 0,.bool false,.int .i64 0,.int .i64 0,.int .i64 0,.int .i64 0,.int .i64 0,.bool false,.int .i64 0,.int .i64 0,.int .i64 0,.int .i64 0,.int .i64 0,.bool false,.int .i64 0,.int .i64 0,.int .i64 0,.int .i64 0,.int .i64 0,.bool false,.int .i64 0,.int .i64 0,.int .i64 0,.int .i64 0,.int .i64 0,.bool false,.int .i64 0,.int .i64 0,.int .i64 0,.int .i64 0,.int .i64 0,.bool false,.int .i64 0,.int .i64 0,.int .i64 0,.int .i64 0,.int .i64 0,.bool false,.int .i64 0,.int .i64 0,.int .i64 0,.int .i64 0,.int .i64 0,.bool false,.int .i64 0,.int .i64 0,.int .i64 0,.int .i64 0,.int .i64 0,.bool false,.int .i64 0,.int .i64 0,.int .i64 0,.int .i64 0,.int .i64 0,.bool false,.int .i64 0,.int .i64 0,.int .i64 0,.int .i64 0,.int .i64 0,.bool false,.int .i64 0,.int .i64 0,.int .i64 0,.int .i64 0,.int .i64 0,.bool false,.int .i64 0,.int .i64 0,.int .i64 0,.int .i64 0,.int .i64 0,.bool false,.int .i64 0,.int .i64 0,.int .i64 0,.int .i64 0,.int .i64 0,.bool false,.int .i64 0,.int .i64 0,.int .i64 0,.int .i64 0,.int .i64 0,.bool false,.int .i64 0,.int .i64 0,.int .i64 0,.int .i64 0,.int .i64 0,.bool false,.int .i64 0,.int .i64 0,.int .i64 0,.int .i64 0,.int .i64 0,.bool false,.int .i64 0,.int .i64 0,.int .i64 0,.int .i64 0,.int .i64 0,.bool false,.int .i64 0,.int .i64 0,.int .i64 0,.int .i64 0,.int .i64 0,.bool false,.int .i64 0,.int .i64 0,.int .i64 0,.int .i64 0,.int .i64 0,.bool false,.int .i64 0,.int .i64 0,.int .i64 0,.int .i64 0,.int .i64 0,.bool false,.int .i64 0,.int .i64 0,.int .i64 0,.int .i64 0,.int .i64 0,.bool false,.int .i64 0,.int .i64 0,.int .i64 0,.int .i64 0,.int .i64 0,.bool false,.int .i64 0,.int .i64 0,.int .i64 0,.int .i64 0,.int .i64 0,.bool false,.int .i64 0,.int .i64 0,.int .i64 0,.int .i64 0,.int .i64 0,.bool false,.int .i64 0,.int .i64 0,.int .i64 0,.int .i64 0,.int .i64 0,.bool false,.int .i64 0,.int .i64 0,.int .i64 0,.int .i64 0,.int .i64 0,.bool false,.int .i64 0,.int .i64 0,.int .i64 0,.int .i64 0,.int .i64 0,.bool false,.int .i64 0,.int .i64 0,.int .i64 0,.int .i64 0,.int .i64 0,.bool false,.int .i64 0,.int .i64 0,.int .i64 0,.int .i64 0,.int .i64 0,.bool false,.int .i64 0,.int .i64 0,.int .i64 0,.int .i64 0,.int .i64 0,.bool false,.int .i64 0,.int .i64 0,.int .i64 0,.int .i64 0,.int .i64 0,.bool false,.int .i64 0,.int .i64 0,.int .i64 0,.int .i64 0,.int .i64 0,.bool false,.int .i64 0,.int .i64 0,.int .i64 0,.int .i64 0,.int .i64 0,.bool false,.int .i64 0,.int .i64 0,.int .i64 0,.int .i64 0,.int .i64 0,.bool false,.int .i64 0,.int .i64 0,.int .i64 0,.int .i64 0,.int .i64 0,.bool false,.int .i64 0,.int .i64 0,.int .i64 0,.int .i64 0,.int .i64 0,.bool false,.int .i64 0,.int .i64 0,.int .i64 0,.int .i64 0,.int .i64 0,.bool false,.int .i64 0,.int .i64 0,.int .i64 0,.int .i64 0,.int .i64 0,.bool false,.int .i64 0,.int .i64 0,.int .i64 0,.int .i64 0,.int .i64 0,.bool false,.int .i64 0,.int .i64 0,.int .i64 0,.int .i64 0,.int .i64 0,.bool false,.int .i64 0,.int .i64 0,.int .i64 0,.int .i64 0,.int .i64 0,.bool false,.int .i64 0,.int .i64 0,.int .i64 0,.int .i64 0,.int .i64 0,.bool false,.int .i64 0,.int .i64 0,.int .i64 0,.int .i64 0,.int .i64 0,.bool false,.int .i64 0,.int .i64 0,.int .i64 0,.int .i64 0,.int .i64 0,.bool false,.int .i64 0,.int .i64 0,.int .i64 0,.int .i64 0,.int .i64 0,.bool false,.int .i64 0,.int .i64 0,.int .i64 0,.int .i64 0,.int .i64 0,.bool false,.int .i64 0,.int .i64 0,.int .i64 0,.int .i64 0,.int .i64 0,.bool false,.int .i64 0,.int .i64 0,.int .i64 0,.int .i64 0,.int .i64 0,.bool false,.int .i64 0,.int .i64 0,.int .i64 0,.int .i64 0,.int .i64 0,.bool false,.int .i64 0,.int .i64 0,.int .i64 0,.int .i64 0,.int .i64 0,.bool false,.int .i64 0,.int .i64 0,.int .i64 0,.int .i64 0,.int .i64 0,.bool false,.int .i64 0,.int .i64 0,.int .i64 0,.int .i64 0,.int .i64 0,.bool false,.int .i64 0,.int .i64 0,.int .i64 0,.int .i64 0,.int .i64 0,.bool false,.int .i64 0,.int .i64 0,.int .i64 0,.int .i64 0,.int .i64 0,.bool false,.int .i64 0,.int .i64 0,.int .i64 0,.int .i64 0,.int .i64 0,.bool false,.int .i64 0,.int .i64 0,.int .i64 0,.int .i64 0,.int .i64 0,.bool false,.int .i64 0,.int .i64 0,.int .i64 0,.int .i64 0,.int .i64 0,.bool false,.int .i64 0,.int .i64 0,.int .i64 0,.int .i64 0,.int .i64 0,.bool false,.int .i64 0,.int .i64 0,.int .i64 0,.int .i64 0,.int .i64 0,.bool false,.int .i64 0,.int .i64 0,.int .i64 0,.int .i64 0,.int .i64 0,.bool false,.int .i64 0,.int .i64 0,.int .i64 0,.int .i64 0,.int .i64 0,.bool false,.int .i64 0,.int .i64 0,.int .i64 0,.int .i64 0,.int .i64 0,.bool false,.int .i64 0,.int .i64 0,.int .i64 0,.int .i64 0,.int .i64 0,.bool false,.int .i64 0,.int .i64 0,.bool false,.bool false]⟩
theorem CA:ah Tryz.prog 145=some w7:=by kernel_rfl
noncomputable def D5:TI:=⟨.func,1,8,[.nilFunc]⟩
theorem EV:ah Tryz.prog 147=some D5:=by kernel_rfl
noncomputable def xl:TI:=⟨.func,1,8,[.nilFunc]⟩
theorem wA:ah Tryz.prog 148=some xl:=by kernel_rfl
noncomputable def Fe:TI:=⟨.func,1,8,[.nilFunc]⟩
theorem BO:ah Tryz.prog 149=some Fe:=by kernel_rfl
noncomputable def w_:TI:=⟨.slice 185,1,24,[.slice none 0 0]⟩
theorem CR:ah Tryz.prog 150=some w_:=by kernel_rfl
noncomputable def yB:TI:=⟨.struct [(0,75),(1,150)],2,48,[.slice none 0 0,.slice none 0 0]⟩
theorem zj:ah Tryz.prog 151=some yB:=by kernel_rfl
noncomputable def wc:TI:=⟨.struct [(0,75),(1,150)],2,48,[.slice none 0 0,.slice none 0 0]⟩
theorem yD:ah Tryz.prog 152=some wc:=by kernel_rfl
noncomputable def wG:TI:=⟨.func,1,8,[.nilFunc]⟩
theorem zz:ah Tryz.prog 153=some wG:=by kernel_rfl
noncomputable def xT:TI:=⟨.slice 259,1,24,[.slice none 0 0]⟩
theorem Fh:ah Tryz.prog 154=some xT:=by kernel_rfl
noncomputable def Eh:TI:=⟨.struct [(0,154)],1,24,[.slice none 0 0]⟩
theorem DT:ah Tryz.prog 155=some Eh:=by kernel_rfl
noncomputable def DM:TI:=⟨.struct [(0,154)],1,24,[.slice none 0 0]⟩
theorem BL:ah Tryz.prog 156=some DM:=by kernel_rfl
noncomputable def Iz:TI:=⟨.struct [(0,3)],1,8,[.int .i64 0]⟩
theorem HJ:ah Tryz.prog 157=some Iz:=by kernel_rfl
noncomputable def BH:TI:=⟨.struct [(0,3)],1,8,[.int .i64 0]⟩
theorem wm:ah Tryz.prog 158=some BH:=by kernel_rfl
noncomputable def zt:TI:=⟨.int .u64,1,8,[.int .u64 0]⟩
theorem CW:ah Tryz.prog 159=some zt:=by kernel_rfl
noncomputable def yu:TI:=⟨.map 3 166,1,8,[.map none]⟩
theorem wt:ah Tryz.prog 160=some yu:=by kernel_rfl
noncomputable def ym:TI:=⟨.slice 165,1,24,[.slice none 0 0]⟩
theorem A3:ah Tryz.prog 161=some ym:=by kernel_rfl
noncomputable def xF:TI:=⟨.slice 178,1,24,[.slice none 0 0]⟩
theorem AU:ah Tryz.prog 162=some xF:=by kernel_rfl
noncomputable def Hy:TI:=⟨.struct [(0,3),(1,161),(2,161),(3,160),(4,162)],5,88,[.int .i64 0,.slice none 0 0,.slice none 0 0,.map none,.slice none 0 0]⟩
theorem B9:ah Tryz.prog 163=some Hy:=by kernel_rfl
noncomputable def xf:TI:=⟨.struct [(0,3),(1,161),(2,161),(3,160),(4,162)],5,88,[.int .i64 0,.slice none 0 0,.slice none 0 0,.map none,.slice none 0 0]⟩
theorem C4:ah Tryz.prog 164=some xf:=by kernel_rfl
noncomputable def Es:TI:=⟨.slice 3,1,24,[.slice none 0 0]⟩
theorem Ck:ah Tryz.prog 165=some Es:=by kernel_rfl
noncomputable def AG:TI:=⟨.ptr 172,1,8,[.pointer none]⟩
theorem Cn:ah Tryz.prog 166=some AG:=by kernel_rfl
noncomputable def Io:TI:=⟨.func,1,8,[.nilFunc]⟩
theorem D9:ah Tryz.prog 167=some Io:=by kernel_rfl
noncomputable def Il:TI:=⟨.func,1,8,[.nilFunc]⟩
theorem GG:ah Tryz.prog 168=some Il:=by kernel_rfl
noncomputable def BT:TI:=⟨.array 4 48,4,96,[.slice none 0 0,.slice none 0 0,.slice none 0 0,.slice none 0 0]⟩
theorem xY:ah Tryz.prog 169=some BT:=by kernel_rfl
noncomputable def AH:TI:=⟨.array 4 48,4,96,[.slice none 0 0,.slice none 0 0,.slice none 0 0,.slice none 0 0]⟩
theorem zK:ah Tryz.prog 170=some AH:=by kernel_rfl
noncomputable def Bf:TI:=⟨.struct [(0,165),(1,170)],5,120,[.slice none 0 0,.slice none 0 0,.slice none 0 0,.slice none 0 0,.slice none 0 0]⟩
theorem AS:ah Tryz.prog 171=some Bf:=by kernel_rfl
noncomputable def Em:TI:=⟨.struct [(0,165),(1,170)],5,120,[.slice none 0 0,.slice none 0 0,.slice none 0 0,.slice none 0 0,.slice none 0 0]⟩
theorem HO:ah Tryz.prog 172=some Em:=by kernel_rfl
noncomputable def yc:TI:=⟨.func,1,8,[.nilFunc]⟩
theorem wg:ah Tryz.prog 173=some yc:=by kernel_rfl
noncomputable def BS:TI:=⟨.func,1,8,[.nilFunc]⟩
theorem HH:ah Tryz.prog 174=some BS:=by kernel_rfl
noncomputable def Iq:TI:=⟨.func,1,8,[.nilFunc]⟩
theorem wM:ah Tryz.prog 175=some Iq:=by kernel_rfl
noncomputable def ER:TI:=⟨.func,1,8,[.nilFunc]⟩
theorem Bx:ah Tryz.prog 176=some ER:=by kernel_rfl
noncomputable def B6:TI:=⟨.struct [(0,3),(1,3),(2,165)],3,40,[.int .i64 0,.int .i64 0,.slice none 0 0]⟩
theorem Gk:ah Tryz.prog 177=some B6:=by kernel_rfl
noncomputable def B8:TI:=⟨.struct [(0,3),(1,3),(2,165)],3,40,[.int .i64 0,.int .i64 0,.slice none 0 0]⟩
theorem BX:ah Tryz.prog 178=some B8:=by kernel_rfl
noncomputable def zw:TI:=⟨.func,1,8,[.nilFunc]⟩
theorem E6:ah Tryz.prog 179=some zw:=by kernel_rfl
noncomputable def GJ:TI:=⟨.func,1,8,[.nilFunc]⟩
theorem F6:ah Tryz.prog 180=some GJ:=by kernel_rfl
noncomputable def A5:TI:=⟨.array 8 4,8,8,[.bool false,.bool false,.bool false,.bool false,.bool false,.bool false,.bool false,.bool false]⟩
theorem B3:ah Tryz.prog 181=some A5:=by kernel_rfl
noncomputable def Cb:TI:=⟨.func,1,8,[.nilFunc]⟩
theorem Dr:ah Tryz.prog 183=some Cb:=by kernel_rfl
noncomputable def HP:TI:=⟨.struct [(0,3),(1,112),(3,4)],4,32,[.int .i64 0,.int .i64 0,.int .i64 0,.bool false]⟩
theorem wN:ah Tryz.prog 184=some HP:=by kernel_rfl
noncomputable def Ef:TI:=⟨.struct [(0,3),(1,112),(3,4)],4,32,[.int .i64 0,.int .i64 0,.int .i64 0,.bool false]⟩
theorem DX:ah Tryz.prog 185=some Ef:=by kernel_rfl
noncomputable def B1:TI:=⟨.func,1,8,[.nilFunc]⟩
theorem AF:ah Tryz.prog 186=some B1:=by kernel_rfl
noncomputable def HQ:TI:=⟨.func,1,8,[.nilFunc]⟩
theorem Ge:ah Tryz.prog 187=some HQ:=by kernel_rfl
noncomputable def AK:TI:=⟨.ptr 94,1,8,[.pointer none]⟩
theorem yq:ah Tryz.prog 188=some AK:=by kernel_rfl
noncomputable def Cc:TI:=⟨.struct [(0,42),(8,3)],9,72,[.int .i64 0,.int .i64 0,.int .i64 0,.int .i64 0,.int .i64 0,.int .i64 0,.int .i64 0,.int .i64 0,.int .i64 0]⟩
theorem DL:ah Tryz.prog 189=some Cc:=by kernel_rfl
noncomputable def Bg:TI:=⟨.struct [(0,42),(8,3)],9,72,[.int .i64 0,.int .i64 0,.int .i64 0,.int .i64 0,.int .i64 0,.int .i64 0,.int .i64 0,.int .i64 0,.int .i64 0]⟩
theorem Gt:ah Tryz.prog 190=some Bg:=by kernel_rfl
noncomputable def BI:TI:=⟨.func,1,8,[.nilFunc]⟩
theorem zS:ah Tryz.prog 191=some BI:=by kernel_rfl
noncomputable def CB:TI:=⟨.func,1,8,[.nilFunc]⟩
theorem Gl:ah Tryz.prog 192=some CB:=by kernel_rfl
noncomputable def Hh:TI:=⟨.func,1,8,[.nilFunc]⟩
theorem G0:ah Tryz.prog 193=some Hh:=by kernel_rfl
noncomputable def Fc:TI:=⟨.func,1,8,[.nilFunc]⟩
theorem zW:ah Tryz.prog 194=some Fc:=by kernel_rfl
noncomputable def Dm:TI:=⟨.func,1,8,[.nilFunc]⟩
theorem HV:ah Tryz.prog 195=some Dm:=by kernel_rfl
noncomputable def xM:TI:=⟨.func,1,8,[.nilFunc]⟩
theorem DY:ah Tryz.prog 196=some xM:=by kernel_rfl
noncomputable def E8:TI:=⟨.func,1,8,[.nilFunc]⟩
theorem Ho:ah Tryz.prog 197=some E8:=by kernel_rfl
noncomputable def A1:TI:=⟨.func,1,8,[.nilFunc]⟩
theorem C1:ah Tryz.prog 198=some A1:=by kernel_rfl
noncomputable def ID:TI:=⟨.slice 206,1,24,[.slice none 0 0]⟩
theorem FF:ah Tryz.prog 199=some ID:=by kernel_rfl
noncomputable def yh:TI:=⟨.struct [(0,199)],1,24,[.slice none 0 0]⟩
theorem wv:ah Tryz.prog 200=some yh:=by kernel_rfl
noncomputable def FX:TI:=⟨.struct [(0,199)],1,24,[.slice none 0 0]⟩
theorem xu:ah Tryz.prog 201=some FX:=by kernel_rfl
noncomputable def FJ:TI:=⟨.struct [(0,3),(1,201)],2,32,[.int .i64 0,.slice none 0 0]⟩
theorem Is:ah Tryz.prog 202=some FJ:=by kernel_rfl
noncomputable def DP:TI:=⟨.struct [(0,3),(1,201)],2,32,[.int .i64 0,.slice none 0 0]⟩
theorem FI:ah Tryz.prog 203=some DP:=by kernel_rfl
noncomputable def Af:TI:=⟨.func,1,8,[.nilFunc]⟩
theorem HX:ah Tryz.prog 204=some Af:=by kernel_rfl
noncomputable def yd:TI:=⟨.struct [(0,3),(1,3)],2,16,[.int .i64 0,.int .i64 0]⟩
theorem EB:ah Tryz.prog 205=some yd:=by kernel_rfl
noncomputable def Cm:TI:=⟨.struct [(0,3),(1,3)],2,16,[.int .i64 0,.int .i64 0]⟩
theorem FB:ah Tryz.prog 206=some Cm:=by kernel_rfl
noncomputable def C2:TI:=⟨.ptr 222,1,8,[.pointer none]⟩
theorem xG:ah Tryz.prog 207=some C2:=by kernel_rfl
noncomputable def yG:TI:=⟨.array 65 207,65,520,[.pointer none,.pointer none,.pointer none,.pointer none,.pointer none,.pointer none,.pointer none,.pointer none,.pointer none,.pointer none,.pointer none,.pointer none,.pointer none,.pointer none,.pointer none,.pointer none,.pointer none,.pointer none,.pointer none,.pointer none,.pointer none,.pointer none,.pointer none,.pointer none,.pointer none,.pointer none,.pointer none,.pointer none,.pointer none,.pointer none,.pointer none,.pointer none,.pointer none,.pointer none,.pointer none,.pointer none,.pointer none,.pointer none,.pointer none,.pointer none,.pointer none,.pointer none,.pointer none,.pointer none,.pointer none,.pointer none,.pointer none,.pointer none,.pointer none,.pointer none,.pointer none,.pointer none,.pointer none,.pointer none,.pointer none,.pointer none,.pointer none,.pointer none,.pointer none,.pointer none,.pointer none,.pointer none,.pointer none,.pointer none,.pointer none]⟩
theorem Do:ah Tryz.prog 208=some yG:=by kernel_rfl
noncomputable def wJ:TI:=⟨.struct [(0,48),(1,3),(2,3),(3,208),(68,90)],72,584,[.slice none 0 0,.int .i64 0,.int .i64 0,.pointer none,.pointer none,.pointer none,.pointer none,.pointer none,.pointer none,.pointer none,.pointer none,.pointer none,.pointer none,.pointer none,.pointer none,.pointer none,.pointer none,.pointer none,.pointer none,.pointer none,.pointer none,.pointer none,.pointer none,.pointer none,.pointer none,.pointer none,.pointer none,.pointer none,.pointer none,.pointer none,.pointer none,.pointer none,.pointer none,.pointer none,.pointer none,.pointer none,.pointer none,.pointer none,.pointer none,.pointer none,.pointer none,.pointer none,.pointer none,.pointer none,.pointer none,.pointer none,.pointer none,.pointer none,.pointer none,.pointer none,.pointer none,.pointer none,.pointer none,.pointer none,.pointer none,.pointer none,.pointer none,.pointer none,.pointer none,.pointer none,.pointer none,.pointer none,.pointer none,.pointer none,.pointer none,.pointer none,.pointer none,.pointer none,.int .i64 0,.int .i64 0,.bool false,.bool false]⟩
theorem F4:ah Tryz.prog 209=some wJ:=by kernel_rfl
noncomputable def Ek:TI:=⟨.struct [(0,48),(1,3),(2,3),(3,208),(68,90)],72,584,[.slice none 0 0,.int .i64 0,.int .i64 0,.pointer none,.pointer none,.pointer none,.pointer none,.pointer none,.pointer none,.pointer none,.pointer none,.pointer none,.pointer none,.pointer none,.pointer none,.pointer none,.pointer none,.pointer none,.pointer none,.pointer none,.pointer none,.pointer none,.pointer none,.pointer none,.pointer none,.pointer none,.pointer none,.pointer none,.pointer none,.pointer none,.pointer none,.pointer none,.pointer none,.pointer none,.pointer none,.pointer none,.pointer none,.pointer none,.pointer none,.pointer none,.pointer none,.pointer none,.pointer none,.pointer none,.pointer none,.pointer none,.pointer none,.pointer none,.pointer none,.pointer none,.pointer none,.pointer none,.pointer none,.pointer none,.pointer none,.pointer none,.pointer none,.pointer none,.pointer none,.pointer none,.pointer none,.pointer none,.pointer none,.pointer none,.pointer none,.pointer none,.pointer none,.pointer none,.int .i64 0,.int .i64 0,.bool false,.bool false]⟩
theorem F7:ah Tryz.prog 210=some Ek:=by kernel_rfl
noncomputable def GT:TI:=⟨.struct [(0,56),(5,48),(6,3),(7,3),(8,3)],9,136,[.int .i64 0,.string ⟨#[]⟩,.string ⟨#[]⟩,.slice none 0 0,.slice none 0 0,.slice none 0 0,.int .i64 0,.int .i64 0,.int .i64 0]⟩
theorem EJ:ah Tryz.prog 211=some GT:=by kernel_rfl
noncomputable def Bc:TI:=⟨.struct [(0,56),(5,48),(6,3),(7,3),(8,3)],9,136,[.int .i64 0,.string ⟨#[]⟩,.string ⟨#[]⟩,.slice none 0 0,.slice none 0 0,.slice none 0 0,.int .i64 0,.int .i64 0,.int .i64 0]⟩
theorem wR:ah Tryz.prog 212=some Bc:=by kernel_rfl
noncomputable def AT:TI:=⟨.ptr 212,1,8,[.pointer none]⟩
theorem Dl:ah Tryz.prog 213=some AT:=by kernel_rfl
noncomputable def Gr:TI:=⟨.func,1,8,[.nilFunc]⟩
theorem zc:ah Tryz.prog 214=some Gr:=by kernel_rfl
noncomputable def Et:TI:=⟨.func,1,8,[.nilFunc]⟩
theorem DW:ah Tryz.prog 215=some Et:=by kernel_rfl
noncomputable def AZ:TI:=⟨.func,1,8,[.nilFunc]⟩
theorem HM:ah Tryz.prog 216=some AZ:=by kernel_rfl
noncomputable def Bp:TI:=⟨.func,1,8,[.nilFunc]⟩
theorem yU:ah Tryz.prog 217=some Bp:=by kernel_rfl
noncomputable def DE:TI:=⟨.func,1,8,[.nilFunc]⟩
theorem Gb:ah Tryz.prog 218=some DE:=by kernel_rfl
noncomputable def DV:TI:=⟨.func,1,8,[.nilFunc]⟩
theorem Hl:ah Tryz.prog 219=some DV:=by kernel_rfl
noncomputable def B5:TI:=⟨.func,1,8,[.nilFunc]⟩
theorem CE:ah Tryz.prog 220=some B5:=by kernel_rfl
noncomputable def IA:TI:=⟨.struct [(0,101),(1,3),(2,3),(3,3),(4,3),(5,4),(6,219)],7,56,[.pointer none,.int .i64 0,.int .i64 0,.int .i64 0,.int .i64 0,.bool false,.nilFunc]⟩
theorem yX:ah Tryz.prog 221=some IA:=by kernel_rfl
noncomputable def DF:TI:=⟨.struct [(0,101),(1,3),(2,3),(3,3),(4,3),(5,4),(6,219)],7,56,[.pointer none,.int .i64 0,.int .i64 0,.int .i64 0,.int .i64 0,.bool false,.nilFunc]⟩
theorem Fs:ah Tryz.prog 222=some DF:=by kernel_rfl
noncomputable def Fj:TI:=⟨.slice 247,1,24,[.slice none 0 0]⟩
theorem EK:ah Tryz.prog 223=some Fj:=by kernel_rfl
noncomputable def EO:TI:=⟨.struct [(0,3),(1,223)],2,32,[.int .i64 0,.slice none 0 0]⟩
theorem HT:ah Tryz.prog 224=some EO:=by kernel_rfl
noncomputable def Fk:TI:=⟨.struct [(0,3),(1,223)],2,32,[.int .i64 0,.slice none 0 0]⟩
theorem It:ah Tryz.prog 225=some Fk:=by kernel_rfl
noncomputable def FH:TI:=⟨.ptr 79,1,8,[.pointer none]⟩
theorem wI:ah Tryz.prog 226=some FH:=by kernel_rfl
noncomputable def yf:TI:=⟨.struct [(0,42),(8,3)],9,72,[.int .i64 0,.int .i64 0,.int .i64 0,.int .i64 0,.int .i64 0,.int .i64 0,.int .i64 0,.int .i64 0,.int .i64 0]⟩
theorem FA:ah Tryz.prog 227=some yf:=by kernel_rfl
noncomputable def Hi:TI:=⟨.struct [(0,42),(8,3)],9,72,[.int .i64 0,.int .i64 0,.int .i64 0,.int .i64 0,.int .i64 0,.int .i64 0,.int .i64 0,.int .i64 0,.int .i64 0]⟩
theorem Dt:ah Tryz.prog 228=some Hi:=by kernel_rfl
noncomputable def FV:TI:=⟨.func,1,8,[.nilFunc]⟩
theorem ya:ah Tryz.prog 229=some FV:=by kernel_rfl
noncomputable def wE:TI:=⟨.func,1,8,[.nilFunc]⟩
theorem xq:ah Tryz.prog 230=some wE:=by kernel_rfl
noncomputable def EF:TI:=⟨.func,1,8,[.nilFunc]⟩
theorem xc:ah Tryz.prog 231=some EF:=by kernel_rfl
noncomputable def xH:TI:=⟨.func,1,8,[.nilFunc]⟩
theorem Hq:ah Tryz.prog 232=some xH:=by kernel_rfl
noncomputable def F5:TI:=⟨.func,1,8,[.nilFunc]⟩
theorem Ej:ah Tryz.prog 233=some F5:=by kernel_rfl
noncomputable def zM:TI:=⟨.func,1,8,[.nilFunc]⟩
theorem CU:ah Tryz.prog 234=some zM:=by kernel_rfl
noncomputable def xA:TI:=⟨.func,1,8,[.nilFunc]⟩
theorem zh:ah Tryz.prog 235=some xA:=by kernel_rfl
noncomputable def Bj:TI:=⟨.func,1,8,[.nilFunc]⟩
theorem Ff:ah Tryz.prog 236=some Bj:=by kernel_rfl
noncomputable def ye:TI:=⟨.func,1,8,[.nilFunc]⟩
theorem EX:ah Tryz.prog 237=some ye:=by kernel_rfl
noncomputable def zx:TI:=⟨.func,1,8,[.nilFunc]⟩
theorem Ak:ah Tryz.prog 238=some zx:=by kernel_rfl
noncomputable def Gh:TI:=⟨.func,1,8,[.nilFunc]⟩
theorem Hw:ah Tryz.prog 239=some Gh:=by kernel_rfl
noncomputable def Bv:TI:=⟨.func,1,8,[.nilFunc]⟩
theorem xP:ah Tryz.prog 240=some Bv:=by kernel_rfl
noncomputable def CC:TI:=⟨.func,1,8,[.nilFunc]⟩
theorem IB:ah Tryz.prog 241=some CC:=by kernel_rfl
noncomputable def HK:TI:=⟨.slice 5,1,24,[.slice none 0 0]⟩
theorem Hm:ah Tryz.prog 242=some HK:=by kernel_rfl
noncomputable def D4:TI:=⟨.func,1,8,[.nilFunc]⟩
theorem Hk:ah Tryz.prog 243=some D4:=by kernel_rfl
noncomputable def Gi:TI:=⟨.func,1,8,[.nilFunc]⟩
theorem ze:ah Tryz.prog 244=some Gi:=by kernel_rfl
noncomputable def we:TI:=⟨.func,1,8,[.nilFunc]⟩
theorem zI:ah Tryz.prog 245=some we:=by kernel_rfl
noncomputable def As:TI:=⟨.struct [(0,3),(1,3)],2,16,[.int .i64 0,.int .i64 0]⟩
theorem Id:ah Tryz.prog 246=some As:=by kernel_rfl
noncomputable def An:TI:=⟨.struct [(0,3),(1,3)],2,16,[.int .i64 0,.int .i64 0]⟩
theorem Cu:ah Tryz.prog 247=some An:=by kernel_rfl
noncomputable def B7:TI:=⟨.func,1,8,[.nilFunc]⟩
theorem Cw:ah Tryz.prog 248=some B7:=by kernel_rfl
noncomputable def GX:TI:=⟨.func,1,8,[.nilFunc]⟩
theorem Dz:ah Tryz.prog 249=some GX:=by kernel_rfl
noncomputable def zG:TI:=⟨.func,1,8,[.nilFunc]⟩
theorem wX:ah Tryz.prog 250=some zG:=by kernel_rfl
noncomputable def CY:TI:=⟨.ptr 201,1,8,[.pointer none]⟩
theorem Ht:ah Tryz.prog 251=some CY:=by kernel_rfl
noncomputable def GE:TI:=⟨.func,1,8,[.nilFunc]⟩
theorem HB:ah Tryz.prog 252=some GE:=by kernel_rfl
noncomputable def wD:TI:=⟨.func,1,8,[.nilFunc]⟩
theorem Eg:ah Tryz.prog 253=some wD:=by kernel_rfl
noncomputable def E_:TI:=⟨.slice 280,1,24,[.slice none 0 0]⟩
theorem AR:ah Tryz.prog 254=some E_:=by kernel_rfl
noncomputable def Cx:TI:=⟨.slice 262,1,24,[.slice none 0 0]⟩
theorem xW:ah Tryz.prog 255=some Cx:=by kernel_rfl
noncomputable def w8:TI:=⟨.struct [(0,9),(1,53),(2,53),(3,254),(4,255)],5,112,[.string ⟨#[]⟩,.slice none 0 0,.slice none 0 0,.slice none 0 0,.slice none 0 0]⟩
theorem CM:ah Tryz.prog 256=some w8:=by kernel_rfl
noncomputable def w9:TI:=⟨.struct [(0,9),(1,53),(2,53),(3,254),(4,255)],5,112,[.string ⟨#[]⟩,.slice none 0 0,.slice none 0 0,.slice none 0 0,.slice none 0 0]⟩
theorem zZ:ah Tryz.prog 257=some w9:=by kernel_rfl
noncomputable def EH:TI:=⟨.struct [(0,3),(1,257)],6,120,[.int .i64 0,.string ⟨#[]⟩,.slice none 0 0,.slice none 0 0,.slice none 0 0,.slice none 0 0]⟩
theorem Ga:ah Tryz.prog 258=some EH:=by kernel_rfl
noncomputable def Av:TI:=⟨.struct [(0,3),(1,257)],6,120,[.int .i64 0,.string ⟨#[]⟩,.slice none 0 0,.slice none 0 0,.slice none 0 0,.slice none 0 0]⟩
theorem Au:ah Tryz.prog 259=some Av:=by kernel_rfl
noncomputable def AJ:TI:=⟨.func,1,8,[.nilFunc]⟩
theorem CT:ah Tryz.prog 260=some AJ:=by kernel_rfl
noncomputable def zf:TI:=⟨.struct [(0,3),(1,3),(2,3),(3,75)],4,48,[.int .i64 0,.int .i64 0,.int .i64 0,.slice none 0 0]⟩
theorem Ba:ah Tryz.prog 261=some zf:=by kernel_rfl
noncomputable def Ih:TI:=⟨.struct [(0,3),(1,3),(2,3),(3,75)],4,48,[.int .i64 0,.int .i64 0,.int .i64 0,.slice none 0 0]⟩
theorem Ii:ah Tryz.prog 262=some Ih:=by kernel_rfl
noncomputable def DC:TI:=⟨.func,1,8,[.nilFunc]⟩
theorem FQ:ah Tryz.prog 263=some DC:=by kernel_rfl
noncomputable def yT:TI:=⟨.func,1,8,[.nilFunc]⟩
theorem xb:ah Tryz.prog 264=some yT:=by kernel_rfl
noncomputable def Dp:TI:=⟨.func,1,8,[.nilFunc]⟩
theorem wY:ah Tryz.prog 265=some Dp:=by kernel_rfl
noncomputable def EY:TI:=⟨.func,1,8,[.nilFunc]⟩
theorem GW:ah Tryz.prog 266=some EY:=by kernel_rfl
noncomputable def Dj:TI:=⟨.func,1,8,[.nilFunc]⟩
theorem By:ah Tryz.prog 267=some Dj:=by kernel_rfl
noncomputable def Gu:TI:=⟨.func,1,8,[.nilFunc]⟩
theorem EI:ah Tryz.prog 268=some Gu:=by kernel_rfl
noncomputable def If:TI:=⟨.func,1,8,[.nilFunc]⟩
theorem Ia:ah Tryz.prog 269=some If:=by kernel_rfl
noncomputable def za:TI:=⟨.ptr 104,1,8,[.pointer none]⟩
theorem xh:ah Tryz.prog 270=some za:=by kernel_rfl
noncomputable def Du:TI:=⟨.func,1,8,[.nilFunc]⟩
theorem yr:ah Tryz.prog 271=some Du:=by kernel_rfl
noncomputable def Gq:TI:=⟨.func,1,8,[.nilFunc]⟩
theorem HF:ah Tryz.prog 272=some Gq:=by kernel_rfl
noncomputable def Fa:TI:=⟨.func,1,8,[.nilFunc]⟩
theorem E3:ah Tryz.prog 273=some Fa:=by kernel_rfl
noncomputable def A6:TI:=⟨.ptr 142,1,8,[.pointer none]⟩
theorem AO:ah Tryz.prog 274=some A6:=by kernel_rfl
noncomputable def G8:TI:=⟨.func,1,8,[.nilFunc]⟩
theorem w6:ah Tryz.prog 275=some G8:=by kernel_rfl
noncomputable def yo:TI:=⟨.func,1,8,[.nilFunc]⟩
theorem zH:ah Tryz.prog 276=some yo:=by kernel_rfl
noncomputable def Fv:TI:=⟨.func,1,8,[.nilFunc]⟩
theorem FE:ah Tryz.prog 277=some Fv:=by kernel_rfl
noncomputable def GP:TI:=⟨.func,1,8,[.nilFunc]⟩
theorem yb:ah Tryz.prog 278=some GP:=by kernel_rfl
noncomputable def Di:TI:=⟨.struct [(0,9),(1,3),(2,9)],3,40,[.string ⟨#[]⟩,.int .i64 0,.string ⟨#[]⟩]⟩
theorem ww:ah Tryz.prog 279=some Di:=by kernel_rfl
noncomputable def GM:TI:=⟨.struct [(0,9),(1,3),(2,9)],3,40,[.string ⟨#[]⟩,.int .i64 0,.string ⟨#[]⟩]⟩
theorem D_:ah Tryz.prog 280=some GM:=by kernel_rfl
noncomputable def zv:TI:=⟨.func,1,8,[.nilFunc]⟩
theorem DJ:ah Tryz.prog 281=some zv:=by kernel_rfl
noncomputable def HW:TI:=⟨.func,1,8,[.nilFunc]⟩
theorem DU:ah Tryz.prog 282=some HW:=by kernel_rfl
noncomputable def xS:TI:=⟨.func,1,8,[.nilFunc]⟩
theorem xX:ah Tryz.prog 283=some xS:=by kernel_rfl
noncomputable def Cq:TI:=⟨.func,1,8,[.nilFunc]⟩
theorem x_:ah Tryz.prog 284=some Cq:=by kernel_rfl
noncomputable def wj:TI:=⟨.func,1,8,[.nilFunc]⟩
theorem BY:ah Tryz.prog 285=some wj:=by kernel_rfl
noncomputable def D0:TI:=⟨.struct [(0,185),(4,3)],5,40,[.int .i64 0,.int .i64 0,.int .i64 0,.bool false,.int .i64 0]⟩
theorem GK:ah Tryz.prog 286=some D0:=by kernel_rfl
noncomputable def He:TI:=⟨.struct [(0,185),(4,3)],5,40,[.int .i64 0,.int .i64 0,.int .i64 0,.bool false,.int .i64 0]⟩
theorem G6:ah Tryz.prog 287=some He:=by kernel_rfl
noncomputable def Hu:TI:=⟨.array 8 287,40,320,[.int .i64 0,.int .i64 0,.int .i64 0,.bool false,.int .i64 0,.int .i64 0,.int .i64 0,.int .i64 0,.bool false,.int .i64 0,.int .i64 0,.int .i64 0,.int .i64 0,.bool false,.int .i64 0,.int .i64 0,.int .i64 0,.int .i64 0,.bool false,.int .i64 0,.int .i64 0,.int .i64 0,.int .i64 0,.bool false,.int .i64 0,.int .i64 0,.int .i64 0,.int .i64 0,.bool false,.int .i64 0,.int .i64 0,.int .i64 0,.int .i64 0,.bool false,.int .i64 0,.int .i64 0,.int .i64 0,.int .i64 0,.bool false,.int .i64 0]⟩
theorem BN:ah Tryz.prog 288=some Hu:=by kernel_rfl
noncomputable def Dx:TI:=⟨.func,1,8,[.nilFunc]⟩
theorem Ik:ah Tryz.prog 289=some Dx:=by kernel_rfl
noncomputable def A4:TI:=⟨.func,1,8,[.nilFunc]⟩
theorem AL:ah Tryz.prog 290=some A4:=by kernel_rfl
noncomputable def IC:TI:=⟨.func,1,8,[.nilFunc]⟩
theorem xI:ah Tryz.prog 291=some IC:=by kernel_rfl
noncomputable def yJ:TI:=⟨.func,1,8,[.nilFunc]⟩
theorem BA:ah Tryz.prog 292=some yJ:=by kernel_rfl
noncomputable def Ch:TI:=⟨.array 3 3,3,24,[.int .i64 0,.int .i64 0,.int .i64 0]⟩
theorem zp:ah Tryz.prog 293=some Ch:=by kernel_rfl
noncomputable def zi:TI:=⟨.func,1,8,[.nilFunc]⟩
theorem BB:ah Tryz.prog 294=some zi:=by kernel_rfl
noncomputable def xe:TI:=⟨.func,1,8,[.nilFunc]⟩
theorem BP:ah Tryz.prog 295=some xe:=by kernel_rfl
noncomputable def EG:TI:=⟨.func,1,8,[.nilFunc]⟩
theorem yA:ah Tryz.prog 296=some EG:=by kernel_rfl
noncomputable def Df:TI:=⟨.func,1,8,[.nilFunc]⟩
theorem zV:ah Tryz.prog 297=some Df:=by kernel_rfl
noncomputable def zb:TI:=⟨.func,1,8,[.nilFunc]⟩
theorem ES:ah Tryz.prog 298=some zb:=by kernel_rfl
noncomputable def HL:TI:=⟨.func,1,8,[.nilFunc]⟩
theorem zy:ah Tryz.prog 299=some HL:=by kernel_rfl
noncomputable def GL:TI:=⟨.func,1,8,[.nilFunc]⟩
theorem Ix:ah Tryz.prog 300=some GL:=by kernel_rfl
noncomputable def DK:TI:=⟨.func,1,8,[.nilFunc]⟩
theorem yO:ah Tryz.prog 301=some DK:=by kernel_rfl
noncomputable def yM:TI:=⟨.func,1,8,[.nilFunc]⟩
theorem Ae:ah Tryz.prog 302=some yM:=by kernel_rfl
noncomputable def yk:TI:=⟨.ptr 317,1,8,[.pointer none]⟩
theorem Cv:ah Tryz.prog 303=some yk:=by kernel_rfl
noncomputable def AC:TI:=⟨.func,1,8,[.nilFunc]⟩
theorem BD:ah Tryz.prog 304=some AC:=by kernel_rfl
noncomputable def El:TI:=⟨.func,1,8,[.nilFunc]⟩
theorem FK:ah Tryz.prog 305=some El:=by kernel_rfl
noncomputable def Ct:TI:=⟨.func,1,8,[.nilFunc]⟩
theorem Dd:ah Tryz.prog 306=some Ct:=by kernel_rfl
noncomputable def xj:TI:=⟨.func,1,8,[.nilFunc]⟩
theorem xo:ah Tryz.prog 307=some xj:=by kernel_rfl
noncomputable def Eb:TI:=⟨.array 3 3,3,24,[.int .i64 0,.int .i64 0,.int .i64 0]⟩
theorem F9:ah Tryz.prog 308=some Eb:=by kernel_rfl
noncomputable def B0:TI:=⟨.func,1,8,[.nilFunc]⟩
theorem E7:ah Tryz.prog 309=some B0:=by kernel_rfl
noncomputable def EW:TI:=⟨.func,1,8,[.nilFunc]⟩
theorem zJ:ah Tryz.prog 310=some EW:=by kernel_rfl
noncomputable def C5:TI:=⟨.func,1,8,[.nilFunc]⟩
theorem xg:ah Tryz.prog 311=some C5:=by kernel_rfl
noncomputable def xx:TI:=⟨.func,1,8,[.nilFunc]⟩
theorem CI:ah Tryz.prog 312=some xx:=by kernel_rfl
noncomputable def Ij:TI:=⟨.func,1,8,[.nilFunc]⟩
theorem z2:ah Tryz.prog 313=some Ij:=by kernel_rfl
noncomputable def G_:TI:=⟨.map 326 4,1,8,[.map none]⟩
theorem BK:ah Tryz.prog 314=some G_:=by kernel_rfl
noncomputable def yN:TI:=⟨.slice 318,1,24,[.slice none 0 0]⟩
theorem yH:ah Tryz.prog 315=some yN:=by kernel_rfl
noncomputable def A_:TI:=⟨.struct [(0,60),(1,315),(2,314)],3,40,[.pointer none,.slice none 0 0,.map none]⟩
theorem wZ:ah Tryz.prog 316=some A_:=by kernel_rfl
noncomputable def yC:TI:=⟨.struct [(0,60),(1,315),(2,314)],3,40,[.pointer none,.slice none 0 0,.map none]⟩
theorem Eu:ah Tryz.prog 317=some yC:=by kernel_rfl
noncomputable def Am:TI:=⟨.slice 321,1,24,[.slice none 0 0]⟩
theorem yY:ah Tryz.prog 318=some Am:=by kernel_rfl
noncomputable def wl:TI:=⟨.slice 48,1,24,[.slice none 0 0]⟩
theorem GN:ah Tryz.prog 319=some wl:=by kernel_rfl
noncomputable def wB:TI:=⟨.struct [(0,259),(6,319)],7,144,[.int .i64 0,.string ⟨#[]⟩,.slice none 0 0,.slice none 0 0,.slice none 0 0,.slice none 0 0,.slice none 0 0]⟩
theorem Fu:ah Tryz.prog 320=some wB:=by kernel_rfl
noncomputable def DR:TI:=⟨.struct [(0,259),(6,319)],7,144,[.int .i64 0,.string ⟨#[]⟩,.slice none 0 0,.slice none 0 0,.slice none 0 0,.slice none 0 0,.slice none 0 0]⟩
theorem GA:ah Tryz.prog 321=some DR:=by kernel_rfl
noncomputable def DZ:TI:=⟨.ptr 308,1,8,[.pointer none]⟩
theorem yV:ah Tryz.prog 322=some DZ:=by kernel_rfl
noncomputable def Ah:TI:=⟨.func,1,8,[.nilFunc]⟩
theorem DS:ah Tryz.prog 323=some Ah:=by kernel_rfl
noncomputable def Cg:TI:=⟨.func,1,8,[.nilFunc]⟩
theorem A8:ah Tryz.prog 324=some Cg:=by kernel_rfl
noncomputable def wx:TI:=⟨.struct [(0,3),(1,3),(2,3),(3,4)],4,32,[.int .i64 0,.int .i64 0,.int .i64 0,.bool false]⟩
theorem z9:ah Tryz.prog 325=some wx:=by kernel_rfl
noncomputable def AD:TI:=⟨.struct [(0,3),(1,3),(2,3),(3,4)],4,32,[.int .i64 0,.int .i64 0,.int .i64 0,.bool false]⟩
theorem zU:ah Tryz.prog 326=some AD:=by kernel_rfl
noncomputable def wz:TI:=⟨.func,1,8,[.nilFunc]⟩
theorem FG:ah Tryz.prog 327=some wz:=by kernel_rfl
noncomputable def HY:TI:=⟨.int .u64,1,8,[.int .u64 0]⟩
theorem zQ:ah Tryz.prog 328=some HY:=by kernel_rfl
noncomputable def DN:TI:=⟨.func,1,8,[.nilFunc]⟩
theorem zT:ah Tryz.prog 330=some DN:=by kernel_rfl
noncomputable def DH:TI:=⟨.func,1,8,[.nilFunc]⟩
theorem Ep:ah Tryz.prog 331=some DH:=by kernel_rfl
noncomputable def HA:TI:=⟨.func,1,8,[.nilFunc]⟩
theorem HE:ah Tryz.prog 332=some HA:=by kernel_rfl
noncomputable def C8:TI:=⟨.func,1,8,[.nilFunc]⟩
theorem Cj:ah Tryz.prog 333=some C8:=by kernel_rfl
noncomputable def zk:TI:=⟨.func,1,8,[.nilFunc]⟩
theorem Cf:ah Tryz.prog 334=some zk:=by kernel_rfl
noncomputable def GI:TI:=⟨.func,1,8,[.nilFunc]⟩
theorem zE:ah Tryz.prog 335=some GI:=by kernel_rfl
noncomputable def GZ:TI:=⟨.func,1,8,[.nilFunc]⟩
theorem GQ:ah Tryz.prog 336=some GZ:=by kernel_rfl
noncomputable def Cs:TI:=⟨.func,1,8,[.nilFunc]⟩
theorem AE:ah Tryz.prog 337=some Cs:=by kernel_rfl
noncomputable def Ip:TI:=⟨.int .u32,1,4,[.int .u32 0]⟩
theorem yv:ah Tryz.prog 338=some Ip:=by kernel_rfl
noncomputable def Ew:TI:=⟨.func,1,8,[.nilFunc]⟩
theorem Bn:ah Tryz.prog 340=some Ew:=by kernel_rfl
noncomputable def Da:TI:=⟨.func,1,8,[.nilFunc]⟩
theorem zB:ah Tryz.prog 341=some Da:=by kernel_rfl
noncomputable def zP:TI:=⟨.struct [(0,17),(1,17),(2,17),(3,9)],4,40,[.pointer none,.pointer none,.pointer none,.string ⟨#[]⟩]⟩
theorem B_:ah Tryz.prog 342=some zP:=by kernel_rfl
noncomputable def BZ:TI:=⟨.struct [(0,17),(1,17),(2,17),(3,9)],4,40,[.pointer none,.pointer none,.pointer none,.string ⟨#[]⟩]⟩
theorem wP:ah Tryz.prog 343=some BZ:=by kernel_rfl
noncomputable def zN:TI:=⟨.array 0 16,0,0,[]⟩
theorem Ei:ah Tryz.prog 344=some zN:=by kernel_rfl
noncomputable def Hj:TI:=⟨.struct [(0,344)],0,0,[]⟩
theorem xL:ah Tryz.prog 345=some Hj:=by kernel_rfl
noncomputable def zq:TI:=⟨.struct [(0,344)],0,0,[]⟩
theorem Im:ah Tryz.prog 346=some zq:=by kernel_rfl
noncomputable def wV:TI:=⟨.int .u8,1,1,[.int .u8 0]⟩
theorem Br:ah Tryz.prog 347=some wV:=by kernel_rfl
noncomputable def AY:TI:=⟨.int .u8,1,1,[.int .u8 0]⟩
theorem Bt:ah Tryz.prog 348=some AY:=by kernel_rfl
noncomputable def Ic:TI:=⟨.func,1,8,[.nilFunc]⟩
theorem xB:ah Tryz.prog 349=some Ic:=by kernel_rfl
noncomputable def HU:TI:=⟨.ptr 5,1,8,[.pointer none]⟩
theorem wF:ah Tryz.prog 350=some HU:=by kernel_rfl
noncomputable def GU:TI:=⟨.int .i32,1,4,[.int .i32 0]⟩
theorem zo:ah Tryz.prog 351=some GU:=by kernel_rfl
noncomputable def Hz:TI:=⟨.int .i32,1,4,[.int .i32 0]⟩
theorem Cz:ah Tryz.prog 352=some Hz:=by kernel_rfl
noncomputable def CO:TI:=⟨.struct [(0,12),(1,12),(2,338),(3,347),(4,5),(5,5),(6,348),(7,349),(8,350),(9,351),(10,352)],11,48,[.int .u64 0,.int .u64 0,.int .u32 0,.int .u8 0,.int .u8 0,.int .u8 0,.int .u8 0,.nilFunc,.pointer none,.int .i32 0,.int .i32 0]⟩
theorem BU:ah Tryz.prog 353=some CO:=by kernel_rfl
noncomputable def AI:TI:=⟨.struct [(0,12),(1,12),(2,338),(3,347),(4,5),(5,5),(6,348),(7,349),(8,350),(9,351),(10,352)],11,48,[.int .u64 0,.int .u64 0,.int .u32 0,.int .u8 0,.int .u8 0,.int .u8 0,.int .u8 0,.nilFunc,.pointer none,.int .i32 0,.int .i32 0]⟩
theorem yy:ah Tryz.prog 354=some AI:=by kernel_rfl
noncomputable def tiT:Tr TI:=.node none (.node (some ti1) (.node (some ti3) (.node (some ti7) (.node (some Nf) (.node (some Mz) (.node none (.node (some uW) (.node (some Cx) .leaf .leaf) .leaf) (.node (some BI) (.node (some wl) .leaf .leaf) .leaf)) (.node (some Nt) (.node (some zt) (.node (some He) .leaf .leaf) .leaf) (.node (some Fj) (.node (some GU) .leaf .leaf) .leaf))) (.node (some N6) (.node (some MC) (.node (some Cr) (.node (some Du) .leaf .leaf) .leaf) (.node (some C2) (.node (some GI) .leaf .leaf) .leaf)) (.node (some wU) (.node (some Iq) (.node (some yk) .leaf .leaf) .leaf) (.node (some Gh) .leaf .leaf)))) (.node (some NG) (.node (some MO) (.node (some LX) (.node (some z0) (.node (some DC) .leaf .leaf) .leaf) (.node (some ID) (.node (some wz) .leaf .leaf) .leaf)) (.node (some Aj) (.node (some Io) (.node (some xe) .leaf .leaf) .leaf) (.node (some EF) .leaf .leaf))) (.node (some Ma) (.node (some MQ) (.node (some yB) (.node (some Di) .leaf .leaf) .leaf) (.node (some Et) (.node (some BZ) .leaf .leaf) .leaf)) (.node (some Dy) (.node (some Cb) (.node (some C5) .leaf .leaf) .leaf) (.node (some An) .leaf .leaf))))) (.node (some NO) (.node (some MF) (.node (some ND) (.node (some MK) (.node (some BM) (.node (some Av) .leaf .leaf) .leaf) (.node (some Dm) (.node (some Ah) .leaf .leaf) .leaf)) (.node (some Nw) (.node (some Hy) (.node (some IC) .leaf .leaf) .leaf) (.node (some yf) .leaf .leaf))) (.node (some MP) (.node (some My) (.node (some D5) (.node (some G8) .leaf .leaf) .leaf) (.node (some GT) .leaf .leaf)) (.node (some yL) (.node (some zw) (.node (some xj) .leaf .leaf) .leaf) (.node (some D4) .leaf .leaf)))) (.node (some Na) (.node (some Mq) (.node (some NV) (.node (some Iy) (.node (some Dj) .leaf .leaf) .leaf) (.node (some DP) (.node (some DH) .leaf .leaf) .leaf)) (.node (some yw) (.node (some Bf) (.node (some HL) .leaf .leaf) .leaf) (.node (some xA) .leaf .leaf))) (.node (some Ng) (.node (some Mr) (.node (some Eh) (.node (some xS) .leaf .leaf) .leaf) (.node (some DV) (.node (some wV) .leaf .leaf) .leaf)) (.node (some Ab) (.node (some HQ) (.node (some yN) .leaf .leaf) .leaf) (.node (some CY) .leaf .leaf)))))) (.node (some ti5) (.node (some ti9) (.node (some L6) (.node (some L5) (.node (some MX) (.node (some F_) (.node (some w9) .leaf .leaf) .leaf) (.node (some Hh) (.node (some DR) .leaf .leaf) .leaf)) (.node (some MW) (.node (some ym) (.node (some Dx) .leaf .leaf) .leaf) (.node (some Fk) (.node (some CO) .leaf .leaf) .leaf))) (.node (some Mo) (.node (some N8) (.node (some w7) (.node (some Fa) .leaf .leaf) .leaf) (.node (some wJ) (.node (some Cs) .leaf .leaf) .leaf)) (.node (some GS) (.node (some B6) (.node (some El) .leaf .leaf) .leaf) (.node (some CC) .leaf .leaf)))) (.node (some N1) (.node (some NF) (.node (some NW) (.node none (.node (some Dp) .leaf .leaf) .leaf) (.node (some FX) .leaf .leaf)) (.node (some Fw) (.node (some BT) (.node (some Df) .leaf .leaf) .leaf) (.node (some F5) .leaf .leaf))) (.node (some Md) (.node (some MU) (.node (some wG) (.node (some zv) .leaf .leaf) .leaf) (.node (some Bp) (.node (some Hj) .leaf .leaf) .leaf)) (.node (some GR) (.node (some Ef) (.node (some Ij) .leaf .leaf) .leaf) (.node (some GX) .leaf .leaf))))) (.node (some Oj) (.node (some NU) (.node none (.node (some Mt) (.node (some AA) (.node (some zf) .leaf .leaf) .leaf) (.node (some E8) (.node (some wx) .leaf .leaf) .leaf)) (.node (some Bb) (.node (some Es) (.node (some Ch) .leaf .leaf) .leaf) (.node (some FV) .leaf .leaf))) (.node (some JG) (.node (some MM) (.node (some Fe) (.node (some Fv) .leaf .leaf) .leaf) (.node (some AT) (.node (some Da) .leaf .leaf) .leaf)) (.node (some zC) (.node (some A5) (.node (some B0) .leaf .leaf) .leaf) (.node (some we) .leaf .leaf)))) (.node none (.node (some L8) (.node (some Mi) (.node (some zl) (.node (some If) .leaf .leaf) .leaf) (.node (some yd) (.node (some C8) .leaf .leaf) .leaf)) (.node (some Aa) (.node (some yc) (.node (some DK) .leaf .leaf) .leaf) (.node (some ye) .leaf .leaf))) (.node none (.node (some Nu) (.node (some Iz) (.node (some wj) .leaf .leaf) .leaf) (.node (some IA) (.node (some Ic) .leaf .leaf) .leaf)) (.node (some GO) (.node (some Cc) (.node (some yC) .leaf .leaf) .leaf) (.node (some wD) .leaf .leaf))))))) (.node (some ti2) (.node (some ti4) (.node (some ti8) (.node (some LV) (.node (some Nl) (.node (some NC) (.node (some Co) (.node (some w8) .leaf .leaf) .leaf) (.node (some CB) (.node (some wB) .leaf .leaf) .leaf)) (.node (some LW) (.node (some yu) (.node (some Hu) .leaf .leaf) .leaf) (.node (some EO) (.node (some Hz) .leaf .leaf) .leaf))) (.node (some N_) (.node (some NX) (.node (some yn) (.node (some Gq) .leaf .leaf) .leaf) (.node (some yG) (.node (some GZ) .leaf .leaf) .leaf)) (.node (some HI) (.node (some ER) (.node (some AC) .leaf .leaf) .leaf) (.node (some Bv) .leaf .leaf)))) (.node (some N7) (.node (some MN) (.node (some NJ) (.node (some Hg) (.node (some yT) .leaf .leaf) .leaf) (.node (some yh) (.node (some HY) .leaf .leaf) .leaf)) (.node (some xC) (.node (some Il) (.node (some EG) .leaf .leaf) .leaf) (.node (some xH) .leaf .leaf))) (.node (some Jr) (.node (some Nm) (.node (some wc) (.node (some GM) .leaf .leaf) .leaf) (.node (some AZ) (.node (some zN) .leaf .leaf) .leaf)) (.node (some xK) (.node (some HP) (.node (some xx) .leaf .leaf) .leaf) (.node (some B7) .leaf .leaf))))) (.node (some Mx) (.node none (.node (some Me) (.node (some Mu) (.node (some BC) (.node (some AJ) .leaf .leaf) .leaf) (.node (some xM) (.node (some Cg) .leaf .leaf) .leaf)) (.node (some HZ) (.node (some xf) (.node (some yJ) .leaf .leaf) .leaf) (.node (some Hi) .leaf .leaf))) (.node (some Og) (.node (some MA) (.node (some xl) (.node (some yo) .leaf .leaf) .leaf) (.node (some Bc) (.node (some Ew) .leaf .leaf) .leaf)) (.node (some wW) (.node (some GJ) (.node (some Eb) .leaf .leaf) .leaf) (.node (some Gi) .leaf .leaf)))) (.node (some NZ) (.node none (.node (some Nh) (.node (some wd) (.node (some Gu) .leaf .leaf) .leaf) (.node (some Af) (.node (some HA) .leaf .leaf) .leaf)) (.node (some DG) (.node (some Em) (.node (some GL) .leaf .leaf) .leaf) (.node (some Bj) .leaf .leaf))) (.node (some NE) (.node (some NT) (.node (some DM) (.node (some Cq) .leaf .leaf) .leaf) (.node (some B5) (.node (some AY) .leaf .leaf) .leaf)) (.node (some GY) (.node (some AK) (.node (some A_) .leaf .leaf) .leaf) (.node (some GE) .leaf .leaf)))))) (.node (some ti6) (.node (some MT) (.node (some Ob) (.node (some Np) (.node (some MR) (.node (some wQ) (.node (some EH) .leaf .leaf) .leaf) (.node (some Fc) (.node (some DZ) .leaf .leaf) .leaf)) (.node (some MJ) (.node (some xF) (.node (some A4) .leaf .leaf) .leaf) (.node (some FH) (.node (some AI) .leaf .leaf) .leaf))) (.node (some NQ) (.node (some ML) (.node none (.node (some A6) .leaf .leaf) .leaf) (.node (some Ek) (.node (some Ip) .leaf .leaf) .leaf)) (.node (some BW) (.node (some B8) (.node (some Ct) .leaf .leaf) .leaf) (.node (some HK) .leaf .leaf)))) (.node (some L7) (.node (some MZ) (.node (some MI) (.node (some Dc) (.node (some EY) .leaf .leaf) .leaf) (.node (some FJ) (.node (some DN) .leaf .leaf) .leaf)) (.node (some xN) (.node (some AH) (.node (some zb) .leaf .leaf) .leaf) (.node (some zM) .leaf .leaf))) (.node (some MH) (.node (some MB) (.node (some xT) (.node (some HW) .leaf .leaf) .leaf) (.node (some DE) (.node (some zq) .leaf .leaf) .leaf)) (.node (some Hr) (.node (some B1) (.node (some G_) .leaf .leaf) .leaf) (.node (some zG) .leaf .leaf))))) (.node (some NH) (.node (some JK) (.node (some N9) (.node none (.node (some Hn) (.node (some Ih) .leaf .leaf) .leaf) (.node (some A1) (.node (some AD) .leaf .leaf) .leaf)) (.node (some Be) (.node (some AG) (.node (some zi) .leaf .leaf) .leaf) (.node (some wE) .leaf .leaf))) (.node (some Kk) (.node (some Nq) (.node (some w_) (.node (some GP) .leaf .leaf) .leaf) (.node (some Gr) (.node (some zP) .leaf .leaf) .leaf)) (.node (some Gc) (.node none (.node (some EW) .leaf .leaf) .leaf) (.node (some As) .leaf .leaf)))) (.node (some Mw) (.node (some MY) (.node (some NM) (.node (some Ax) (.node (some za) .leaf .leaf) .leaf) (.node (some Cm) (.node (some zk) .leaf .leaf) .leaf)) (.node (some Ci) (.node (some BS) (.node (some yM) .leaf .leaf) .leaf) (.node (some zx) .leaf .leaf))) (.node (some NK) (.node (some Mg) (.node (some BH) (.node (some D0) .leaf .leaf) .leaf) (.node (some DF) (.node (some HU) .leaf .leaf) .leaf)) (.node (some xQ) (.node (some Bg) (.node (some Am) .leaf .leaf) .leaf) (.node (some E_) .leaf .leaf)))))))
theorem Ad:tiT.toL=[(1,ti1),(3,ti3),(7,ti7),(15,Nf),(31,Mz),(127,uW),(255,Cx),(191,BI),(319,wl),(95,Nt),(159,zt),(287,He),(223,Fj),(351,GU),(47,N6),(79,MC),(143,Cr),(271,Du),(207,C2),(335,GI),(111,wU),(175,Iq),(303,yk),(239,Gh),(23,NG),(39,MO),(71,LX),(135,z0),(263,DC),(199,ID),(327,wz),(103,Aj),(167,Io),(295,xe),(231,EF),(55,Ma),(87,MQ),(151,yB),(279,Di),(215,Et),(343,BZ),(119,Dy),(183,Cb),(311,C5),(247,An),(11,NO),(19,MF),(35,ND),(67,MK),(131,BM),(259,Av),(195,Dm),(323,Ah),(99,Nw),(163,Hy),(291,IC),(227,yf),(51,MP),(83,My),(147,D5),(275,G8),(211,GT),(115,yL),(179,zw),(307,xj),(243,D4),(27,Na),(43,Mq),(75,NV),(139,Iy),(267,Dj),(203,DP),(331,DH),(107,yw),(171,Bf),(299,HL),(235,xA),(59,Ng),(91,Mr),(155,Eh),(283,xS),(219,DV),(347,wV),(123,Ab),(187,HQ),(315,yN),(251,CY),(5,ti5),(9,ti9),(17,L6),(33,L5),(65,MX),(129,F_),(257,w9),(193,Hh),(321,DR),(97,MW),(161,ym),(289,Dx),(225,Fk),(353,CO),(49,Mo),(81,N8),(145,w7),(273,Fa),(209,wJ),(337,Cs),(113,GS),(177,B6),(305,El),(241,CC),(25,N1),(41,NF),(73,NW),(265,Dp),(201,FX),(105,Fw),(169,BT),(297,Df),(233,F5),(57,Md),(89,MU),(153,wG),(281,zv),(217,Bp),(345,Hj),(121,GR),(185,Ef),(313,Ij),(249,GX),(13,Oj),(21,NU),(69,Mt),(133,AA),(261,zf),(197,E8),(325,wx),(101,Bb),(165,Es),(293,Ch),(229,FV),(53,JG),(85,MM),(149,Fe),(277,Fv),(213,AT),(341,Da),(117,zC),(181,A5),(309,B0),(245,we),(45,L8),(77,Mi),(141,zl),(269,If),(205,yd),(333,C8),(109,Aa),(173,yc),(301,DK),(237,ye),(93,Nu),(157,Iz),(285,wj),(221,IA),(349,Ic),(125,GO),(189,Cc),(317,yC),(253,wD),(2,ti2),(4,ti4),(8,ti8),(16,LV),(32,Nl),(64,NC),(128,Co),(256,w8),(192,CB),(320,wB),(96,LW),(160,yu),(288,Hu),(224,EO),(352,Hz),(48,N_),(80,NX),(144,yn),(272,Gq),(208,yG),(336,GZ),(112,HI),(176,ER),(304,AC),(240,Bv),(24,N7),(40,MN),(72,NJ),(136,Hg),(264,yT),(200,yh),(328,HY),(104,xC),(168,Il),(296,EG),(232,xH),(56,Jr),(88,Nm),(152,wc),(280,GM),(216,AZ),(344,zN),(120,xK),(184,HP),(312,xx),(248,B7),(12,Mx),(36,Me),(68,Mu),(132,BC),(260,AJ),(196,xM),(324,Cg),(100,HZ),(164,xf),(292,yJ),(228,Hi),(52,Og),(84,MA),(148,xl),(276,yo),(212,Bc),(340,Ew),(116,wW),(180,GJ),(308,Eb),(244,Gi),(28,NZ),(76,Nh),(140,wd),(268,Gu),(204,Af),(332,HA),(108,DG),(172,Em),(300,GL),(236,Bj),(60,NE),(92,NT),(156,DM),(284,Cq),(220,B5),(348,AY),(124,GY),(188,AK),(316,A_),(252,GE),(6,ti6),(10,MT),(18,Ob),(34,Np),(66,MR),(130,wQ),(258,EH),(194,Fc),(322,DZ),(98,MJ),(162,xF),(290,A4),(226,FH),(354,AI),(50,NQ),(82,ML),(274,A6),(210,Ek),(338,Ip),(114,BW),(178,B8),(306,Ct),(242,HK),(26,L7),(42,MZ),(74,MI),(138,Dc),(266,EY),(202,FJ),(330,DN),(106,xN),(170,AH),(298,zb),(234,zM),(58,MH),(90,MB),(154,xT),(282,HW),(218,DE),(346,zq),(122,Hr),(186,B1),(314,G_),(250,zG),(14,NH),(22,JK),(38,N9),(134,Hn),(262,Ih),(198,A1),(326,AD),(102,Be),(166,AG),(294,zi),(230,wE),(54,Kk),(86,Nq),(150,w_),(278,GP),(214,Gr),(342,zP),(118,Gc),(310,EW),(246,As),(30,Mw),(46,MY),(78,NM),(142,Ax),(270,za),(206,Cm),(334,zk),(110,Ci),(174,BS),(302,yM),(238,zx),(62,NK),(94,Mg),(158,BH),(286,D0),(222,DF),(350,HU),(126,xQ),(190,Bg),(318,Am),(254,E_)]:=by kernel_rfl
theorem oD:∀ t i,tiT.get t=some i→ah Tryz.prog t=some i:=by
 refine Tr.all_get (p:=fun t i=>ah Tryz.prog t=some i) ?_
 rw [Ad]
 exact .cons NL (.cons N3 (.cons Ms (.cons Jm (.cons IF (.cons EE (.cons xW (.cons zS (.cons GN (.cons JW (.cons CW (.cons G6 (.cons EK (.cons zo (.cons IR (.cons Ko (.cons DA (.cons yr (.cons xG (.cons zE (.cons DO (.cons wM (.cons Cv (.cons Hw (.cons IJ (.cons Kv (.cons K6 (.cons GH (.cons FQ (.cons FF (.cons FG (.cons Ir (.cons D9 (.cons BP (.cons xc (.cons I6 (.cons I_ (.cons zj (.cons ww (.cons DW (.cons wP (.cons xE (.cons Dr (.cons xg (.cons Cu (.cons KZ (.cons JI (.cons KR (.cons JX (.cons CH (.cons Au (.cons HV (.cons DS (.cons I8 (.cons B9 (.cons xI (.cons FA (.cons JE (.cons Ju (.cons EV (.cons w6 (.cons EJ (.cons CF (.cons E6 (.cons xo (.cons Hk (.cons JR (.cons Ld (.cons Ln (.cons Bh (.cons By (.cons FI (.cons Ep (.cons xD (.cons AS (.cons zy (.cons zh (.cons Kz (.cons Li (.cons DT (.cons xX (.cons Hl (.cons Br (.cons GV (.cons Ge (.cons yH (.cons Ht (.cons NR (.cons Mm (.cons Jw (.cons Lo (.cons IU (.cons F8 (.cons zZ (.cons G0 (.cons GA (.cons Kp (.cons A3 (.cons Ik (.cons It (.cons BU (.cons J6 (.cons IN (.cons CA (.cons E3 (.cons F4 (.cons AE (.cons DQ (.cons Gk (.cons FK (.cons IB (.cons KX (.cons K7 (.cons KH (.cons wY (.cons xu (.cons zL (.cons xY (.cons zV (.cons Ej (.cons IK (.cons JF (.cons zz (.cons DJ (.cons yU (.cons xL (.cons Hs (.cons DX (.cons z2 (.cons Dz (.cons JH (.cons I9 (.cons I7 (.cons yz (.cons Ba (.cons Ho (.cons z9 (.cons Gv (.cons Ck (.cons zp (.cons ya (.cons IL (.cons Le (.cons BO (.cons FE (.cons Dl (.cons zB (.cons Gx (.cons B3 (.cons E7 (.cons zI (.cons JB (.cons Jb (.cons wT (.cons Ia (.cons EB (.cons Cj (.cons Ez (.cons wg (.cons yO (.cons EX (.cons Jc (.cons HJ (.cons BY (.cons yX (.cons xB (.cons D7 (.cons DL (.cons Eu (.cons Eg (.cons Mb (.cons MD (.cons Mf (.cons IT (.cons Kg (.cons Js (.cons Bz (.cons CM (.cons Gl (.cons Fu (.cons JN (.cons wt (.cons BN (.cons HT (.cons Cz (.cons I0 (.cons KT (.cons Bm (.cons HF (.cons Do (.cons GQ (.cons De (.cons Bx (.cons BD (.cons xP (.cons Jf (.cons Jk (.cons Lj (.cons C9 (.cons xb (.cons wv (.cons zQ (.cons E5 (.cons GG (.cons yA (.cons Hq (.cons JA (.cons Km (.cons yD (.cons D_ (.cons HM (.cons Ei (.cons AW (.cons wN (.cons CI (.cons Cw (.cons Lh (.cons I4 (.cons Lg (.cons FS (.cons CT (.cons DY (.cons A8 (.cons CJ (.cons C4 (.cons BA (.cons Dt (.cons Ls (.cons IM (.cons wA (.cons zH (.cons wR (.cons Bn (.cons FP (.cons F6 (.cons F9 (.cons ze (.cons Je (.cons KI (.cons yp (.cons EI (.cons HX (.cons HE (.cons z_ (.cons HO (.cons Ix (.cons Ff (.cons Jx (.cons Ku (.cons BL (.cons x_ (.cons CE (.cons Bt (.cons xp (.cons yq (.cons wZ (.cons HB (.cons Oi (.cons IW (.cons II (.cons Ke (.cons IX (.cons wh (.cons Ga (.cons zW (.cons yV (.cons IY (.cons AU (.cons AL (.cons wI (.cons yy (.cons KV (.cons JD (.cons AO (.cons F7 (.cons yv (.cons zg (.cons BX (.cons Dd (.cons Hm (.cons Ja (.cons Lc (.cons Lp (.cons CQ (.cons GW (.cons Is (.cons zT (.cons D6 (.cons zK (.cons ES (.cons CU (.cons KG (.cons JP (.cons Fh (.cons DU (.cons Gb (.cons Im (.cons yQ (.cons AF (.cons BK (.cons wX (.cons IP (.cons JU (.cons K9 (.cons EP (.cons Ii (.cons C1 (.cons zU (.cons Fi (.cons Cn (.cons BB (.cons xq (.cons Jq (.cons J_ (.cons CR (.cons yb (.cons zc (.cons B_ (.cons Gz (.cons zJ (.cons Id (.cons KY (.cons Kd (.cons Lk (.cons xt (.cons xh (.cons FB (.cons Cf (.cons BF (.cons HH (.cons Ae (.cons Ak (.cons Kq (.cons Ll (.cons wm (.cons GK (.cons Fs (.cons wF (.cons C_ (.cons Gt (.cons yY (.cons AR (.nil))))))))))))))))))))))))))))))))))))))))))))))))))))))))))))))))))))))))))))))))))))))))))))))))))))))))))))))))))))))))))))))))))))))))))))))))))))))))))))))))))))))))))))))))))))))))))))))))))))))))))))))))))))))))))))))))))))))))))))))))))))))))))))))))))))))))))))))))))))))))))))))))))))))))))))))))))))))))))))))))))))))))))))))))))))))
noncomputable def fnT:Tr Func:=.node none (.node none (.node (some Tryz.f3) (.node (some Tryz.f7) (.node (some Tryz.f15) (.node (some Tryz.f31) (.node (some Tryz.f63) (.node (some Tryz.f127) (.node (some Tryz.f255) .leaf .leaf) .leaf) (.node (some Tryz.f191) .leaf .leaf)) (.node (some Tryz.f95) (.node (some Tryz.f159) (.node (some Tryz.f287) .leaf .leaf) .leaf) (.node (some Tryz.f223) .leaf .leaf))) (.node (some Tryz.f47) (.node (some Tryz.f79) (.node (some Tryz.f143) (.node (some Tryz.f271) .leaf .leaf) .leaf) (.node (some Tryz.f207) .leaf .leaf)) (.node (some Tryz.f111) (.node (some Tryz.f175) (.node (some Tryz.f303) .leaf .leaf) .leaf) (.node (some Tryz.f239) .leaf .leaf)))) (.node (some Tryz.f23) (.node (some Tryz.f39) (.node (some Tryz.f71) (.node (some Tryz.f135) (.node (some Tryz.f263) .leaf .leaf) .leaf) (.node (some Tryz.f199) .leaf .leaf)) (.node (some Tryz.f103) (.node (some Tryz.f167) (.node (some Tryz.f295) .leaf .leaf) .leaf) (.node (some Tryz.f231) .leaf .leaf))) (.node (some Tryz.f55) (.node (some Tryz.f87) (.node (some Tryz.f151) (.node (some Tryz.f279) .leaf .leaf) .leaf) (.node (some Tryz.f215) .leaf .leaf)) (.node (some Tryz.f119) (.node (some Tryz.f183) (.node (some Tryz.f311) .leaf .leaf) .leaf) (.node (some Tryz.f247) .leaf .leaf))))) (.node (some Tryz.f11) (.node (some Tryz.f19) (.node (some Tryz.f35) (.node (some Tryz.f67) (.node (some Tryz.f131) (.node (some Tryz.f259) .leaf .leaf) .leaf) (.node (some Tryz.f195) .leaf .leaf)) (.node (some Tryz.f99) (.node (some Tryz.f163) (.node (some Tryz.f291) .leaf .leaf) .leaf) (.node (some Tryz.f227) .leaf .leaf))) (.node (some Tryz.f51) (.node (some Tryz.f83) (.node (some Tryz.f147) (.node (some Tryz.f275) .leaf .leaf) .leaf) (.node (some Tryz.f211) .leaf .leaf)) (.node (some Tryz.f115) (.node (some Tryz.f179) (.node (some Tryz.f307) .leaf .leaf) .leaf) (.node (some Tryz.f243) .leaf .leaf)))) (.node (some Tryz.f27) (.node (some Tryz.f43) (.node (some Tryz.f75) (.node (some Tryz.f139) (.node (some Tryz.f267) .leaf .leaf) .leaf) (.node (some Tryz.f203) .leaf .leaf)) (.node (some Tryz.f107) (.node (some Tryz.f171) (.node (some Tryz.f299) .leaf .leaf) .leaf) (.node (some Tryz.f235) .leaf .leaf))) (.node (some Tryz.f59) (.node (some Tryz.f91) (.node (some Tryz.f155) (.node (some Tryz.f283) .leaf .leaf) .leaf) (.node (some Tryz.f219) .leaf .leaf)) (.node (some Tryz.f123) (.node (some Tryz.f187) (.node (some Tryz.f315) .leaf .leaf) .leaf) (.node (some Tryz.f251) .leaf .leaf)))))) (.node (some Tryz.f5) (.node (some Tryz.f9) (.node (some Tryz.f17) (.node (some Tryz.f33) (.node (some Tryz.f65) (.node (some Tryz.f129) (.node (some Tryz.f257) .leaf .leaf) .leaf) (.node (some Tryz.f193) .leaf .leaf)) (.node (some Tryz.f97) (.node (some Tryz.f161) (.node (some Tryz.f289) .leaf .leaf) .leaf) (.node (some Tryz.f225) .leaf .leaf))) (.node (some Tryz.f49) (.node (some Tryz.f81) (.node (some Tryz.f145) (.node (some Tryz.f273) .leaf .leaf) .leaf) (.node (some Tryz.f209) .leaf .leaf)) (.node (some Tryz.f113) (.node (some Tryz.f177) (.node (some Tryz.f305) .leaf .leaf) .leaf) (.node (some Tryz.f241) .leaf .leaf)))) (.node (some Tryz.f25) (.node (some Tryz.f41) (.node (some Tryz.f73) (.node (some Tryz.f137) (.node (some Tryz.f265) .leaf .leaf) .leaf) (.node (some Tryz.f201) .leaf .leaf)) (.node (some Tryz.f105) (.node (some Tryz.f169) (.node (some Tryz.f297) .leaf .leaf) .leaf) (.node (some Tryz.f233) .leaf .leaf))) (.node (some Tryz.f57) (.node (some Tryz.f89) (.node (some Tryz.f153) (.node (some Tryz.f281) .leaf .leaf) .leaf) (.node (some Tryz.f217) .leaf .leaf)) (.node (some Tryz.f121) (.node (some Tryz.f185) (.node (some Tryz.f313) .leaf .leaf) .leaf) (.node (some Tryz.f249) .leaf .leaf))))) (.node (some Tryz.f13) (.node (some Tryz.f21) (.node (some Tryz.f37) (.node (some Tryz.f69) (.node (some Tryz.f133) (.node (some Tryz.f261) .leaf .leaf) .leaf) (.node (some Tryz.f197) .leaf .leaf)) (.node (some Tryz.f101) (.node (some Tryz.f165) (.node (some Tryz.f293) .leaf .leaf) .leaf) (.node (some Tryz.f229) .leaf .leaf))) (.node (some Tryz.f53) (.node (some Tryz.f85) (.node (some Tryz.f149) (.node (some Tryz.f277) .leaf .leaf) .leaf) (.node (some Tryz.f213) .leaf .leaf)) (.node (some Tryz.f117) (.node (some Tryz.f181) (.node (some Tryz.f309) .leaf .leaf) .leaf) (.node (some Tryz.f245) .leaf .leaf)))) (.node (some Tryz.f29) (.node (some Tryz.f45) (.node (some Tryz.f77) (.node (some Tryz.f141) (.node (some Tryz.f269) .leaf .leaf) .leaf) (.node (some Tryz.f205) .leaf .leaf)) (.node (some Tryz.f109) (.node (some Tryz.f173) (.node (some Tryz.f301) .leaf .leaf) .leaf) (.node (some Tryz.f237) .leaf .leaf))) (.node (some Tryz.f61) (.node (some Tryz.f93) (.node (some Tryz.f157) (.node (some Tryz.f285) .leaf .leaf) .leaf) (.node (some Tryz.f221) .leaf .leaf)) (.node (some Tryz.f125) (.node (some Tryz.f189) .leaf .leaf) (.node (some Tryz.f253) .leaf .leaf))))))) (.node none (.node (some Tryz.f4) (.node (some Tryz.f8) (.node (some Tryz.f16) (.node (some Tryz.f32) (.node (some Tryz.f64) (.node (some Tryz.f128) (.node (some Tryz.f256) .leaf .leaf) .leaf) (.node (some Tryz.f192) .leaf .leaf)) (.node (some Tryz.f96) (.node (some Tryz.f160) (.node (some Tryz.f288) .leaf .leaf) .leaf) (.node (some Tryz.f224) .leaf .leaf))) (.node (some Tryz.f48) (.node (some Tryz.f80) (.node (some Tryz.f144) (.node (some Tryz.f272) .leaf .leaf) .leaf) (.node (some Tryz.f208) .leaf .leaf)) (.node (some Tryz.f112) (.node (some Tryz.f176) (.node (some Tryz.f304) .leaf .leaf) .leaf) (.node (some Tryz.f240) .leaf .leaf)))) (.node (some Tryz.f24) (.node (some Tryz.f40) (.node (some Tryz.f72) (.node (some Tryz.f136) (.node (some Tryz.f264) .leaf .leaf) .leaf) (.node (some Tryz.f200) .leaf .leaf)) (.node (some Tryz.f104) (.node (some Tryz.f168) (.node (some Tryz.f296) .leaf .leaf) .leaf) (.node (some Tryz.f232) .leaf .leaf))) (.node (some Tryz.f56) (.node (some Tryz.f88) (.node (some Tryz.f152) (.node (some Tryz.f280) .leaf .leaf) .leaf) (.node (some Tryz.f216) .leaf .leaf)) (.node (some Tryz.f120) (.node (some Tryz.f184) (.node (some Tryz.f312) .leaf .leaf) .leaf) (.node (some Tryz.f248) .leaf .leaf))))) (.node (some Tryz.f12) (.node (some Tryz.f20) (.node (some Tryz.f36) (.node (some Tryz.f68) (.node (some Tryz.f132) (.node (some Tryz.f260) .leaf .leaf) .leaf) (.node (some Tryz.f196) .leaf .leaf)) (.node (some Tryz.f100) (.node (some Tryz.f164) (.node (some Tryz.f292) .leaf .leaf) .leaf) (.node (some Tryz.f228) .leaf .leaf))) (.node (some Tryz.f52) (.node (some Tryz.f84) (.node (some Tryz.f148) (.node (some Tryz.f276) .leaf .leaf) .leaf) (.node (some Tryz.f212) .leaf .leaf)) (.node (some Tryz.f116) (.node (some Tryz.f180) (.node (some Tryz.f308) .leaf .leaf) .leaf) (.node (some Tryz.f244) .leaf .leaf)))) (.node (some Tryz.f28) (.node (some Tryz.f44) (.node (some Tryz.f76) (.node (some Tryz.f140) (.node (some Tryz.f268) .leaf .leaf) .leaf) (.node (some Tryz.f204) .leaf .leaf)) (.node (some Tryz.f108) (.node (some Tryz.f172) (.node (some Tryz.f300) .leaf .leaf) .leaf) (.node (some Tryz.f236) .leaf .leaf))) (.node (some Tryz.f60) (.node (some Tryz.f92) (.node (some Tryz.f156) (.node (some Tryz.f284) .leaf .leaf) .leaf) (.node (some Tryz.f220) .leaf .leaf)) (.node (some Tryz.f124) (.node (some Tryz.f188) (.node (some Tryz.f316) .leaf .leaf) .leaf) (.node (some Tryz.f252) .leaf .leaf)))))) (.node (some Tryz.f6) (.node (some Tryz.f10) (.node (some Tryz.f18) (.node (some Tryz.f34) (.node (some Tryz.f66) (.node (some Tryz.f130) (.node (some Tryz.f258) .leaf .leaf) .leaf) (.node (some Tryz.f194) .leaf .leaf)) (.node (some Tryz.f98) (.node (some Tryz.f162) (.node (some Tryz.f290) .leaf .leaf) .leaf) (.node (some Tryz.f226) .leaf .leaf))) (.node (some Tryz.f50) (.node (some Tryz.f82) (.node (some Tryz.f146) (.node (some Tryz.f274) .leaf .leaf) .leaf) (.node (some Tryz.f210) .leaf .leaf)) (.node (some Tryz.f114) (.node (some Tryz.f178) (.node (some Tryz.f306) .leaf .leaf) .leaf) (.node (some Tryz.f242) .leaf .leaf)))) (.node (some Tryz.f26) (.node (some Tryz.f42) (.node (some Tryz.f74) (.node (some Tryz.f138) (.node (some Tryz.f266) .leaf .leaf) .leaf) (.node (some Tryz.f202) .leaf .leaf)) (.node (some Tryz.f106) (.node (some Tryz.f170) (.node (some Tryz.f298) .leaf .leaf) .leaf) (.node (some Tryz.f234) .leaf .leaf))) (.node (some Tryz.f58) (.node (some Tryz.f90) (.node (some Tryz.f154) (.node (some Tryz.f282) .leaf .leaf) .leaf) (.node (some Tryz.f218) .leaf .leaf)) (.node (some Tryz.f122) (.node (some Tryz.f186) (.node (some Tryz.f314) .leaf .leaf) .leaf) (.node (some Tryz.f250) .leaf .leaf))))) (.node (some Tryz.f14) (.node (some Tryz.f22) (.node (some Tryz.f38) (.node (some Tryz.f70) (.node (some Tryz.f134) (.node (some Tryz.f262) .leaf .leaf) .leaf) (.node (some Tryz.f198) .leaf .leaf)) (.node (some Tryz.f102) (.node (some Tryz.f166) (.node (some Tryz.f294) .leaf .leaf) .leaf) (.node (some Tryz.f230) .leaf .leaf))) (.node (some Tryz.f54) (.node (some Tryz.f86) (.node (some Tryz.f150) (.node (some Tryz.f278) .leaf .leaf) .leaf) (.node (some Tryz.f214) .leaf .leaf)) (.node (some Tryz.f118) (.node (some Tryz.f182) (.node (some Tryz.f310) .leaf .leaf) .leaf) (.node (some Tryz.f246) .leaf .leaf)))) (.node (some Tryz.f30) (.node (some Tryz.f46) (.node (some Tryz.f78) (.node (some Tryz.f142) (.node (some Tryz.f270) .leaf .leaf) .leaf) (.node (some Tryz.f206) .leaf .leaf)) (.node (some Tryz.f110) (.node (some Tryz.f174) (.node (some Tryz.f302) .leaf .leaf) .leaf) (.node (some Tryz.f238) .leaf .leaf))) (.node (some Tryz.f62) (.node (some Tryz.f94) (.node (some Tryz.f158) (.node (some Tryz.f286) .leaf .leaf) .leaf) (.node (some Tryz.f222) .leaf .leaf)) (.node (some Tryz.f126) (.node (some Tryz.f190) .leaf .leaf) (.node (some Tryz.f254) .leaf .leaf)))))))
theorem CD:fnT.toL=[(3,Tryz.f3),(7,Tryz.f7),(15,Tryz.f15),(31,Tryz.f31),(63,Tryz.f63),(127,Tryz.f127),(255,Tryz.f255),(191,Tryz.f191),(95,Tryz.f95),(159,Tryz.f159),(287,Tryz.f287),(223,Tryz.f223),(47,Tryz.f47),(79,Tryz.f79),(143,Tryz.f143),(271,Tryz.f271),(207,Tryz.f207),(111,Tryz.f111),(175,Tryz.f175),(303,Tryz.f303),(239,Tryz.f239),(23,Tryz.f23),(39,Tryz.f39),(71,Tryz.f71),(135,Tryz.f135),(263,Tryz.f263),(199,Tryz.f199),(103,Tryz.f103),(167,Tryz.f167),(295,Tryz.f295),(231,Tryz.f231),(55,Tryz.f55),(87,Tryz.f87),(151,Tryz.f151),(279,Tryz.f279),(215,Tryz.f215),(119,Tryz.f119),(183,Tryz.f183),(311,Tryz.f311),(247,Tryz.f247),(11,Tryz.f11),(19,Tryz.f19),(35,Tryz.f35),(67,Tryz.f67),(131,Tryz.f131),(259,Tryz.f259),(195,Tryz.f195),(99,Tryz.f99),(163,Tryz.f163),(291,Tryz.f291),(227,Tryz.f227),(51,Tryz.f51),(83,Tryz.f83),(147,Tryz.f147),(275,Tryz.f275),(211,Tryz.f211),(115,Tryz.f115),(179,Tryz.f179),(307,Tryz.f307),(243,Tryz.f243),(27,Tryz.f27),(43,Tryz.f43),(75,Tryz.f75),(139,Tryz.f139),(267,Tryz.f267),(203,Tryz.f203),(107,Tryz.f107),(171,Tryz.f171),(299,Tryz.f299),(235,Tryz.f235),(59,Tryz.f59),(91,Tryz.f91),(155,Tryz.f155),(283,Tryz.f283),(219,Tryz.f219),(123,Tryz.f123),(187,Tryz.f187),(315,Tryz.f315),(251,Tryz.f251),(5,Tryz.f5),(9,Tryz.f9),(17,Tryz.f17),(33,Tryz.f33),(65,Tryz.f65),(129,Tryz.f129),(257,Tryz.f257),(193,Tryz.f193),(97,Tryz.f97),(161,Tryz.f161),(289,Tryz.f289),(225,Tryz.f225),(49,Tryz.f49),(81,Tryz.f81),(145,Tryz.f145),(273,Tryz.f273),(209,Tryz.f209),(113,Tryz.f113),(177,Tryz.f177),(305,Tryz.f305),(241,Tryz.f241),(25,Tryz.f25),(41,Tryz.f41),(73,Tryz.f73),(137,Tryz.f137),(265,Tryz.f265),(201,Tryz.f201),(105,Tryz.f105),(169,Tryz.f169),(297,Tryz.f297),(233,Tryz.f233),(57,Tryz.f57),(89,Tryz.f89),(153,Tryz.f153),(281,Tryz.f281),(217,Tryz.f217),(121,Tryz.f121),(185,Tryz.f185),(313,Tryz.f313),(249,Tryz.f249),(13,Tryz.f13),(21,Tryz.f21),(37,Tryz.f37),(69,Tryz.f69),(133,Tryz.f133),(261,Tryz.f261),(197,Tryz.f197),(101,Tryz.f101),(165,Tryz.f165),(293,Tryz.f293),(229,Tryz.f229),(53,Tryz.f53),(85,Tryz.f85),(149,Tryz.f149),(277,Tryz.f277),(213,Tryz.f213),(117,Tryz.f117),(181,Tryz.f181),(309,Tryz.f309),(245,Tryz.f245),(29,Tryz.f29),(45,Tryz.f45),(77,Tryz.f77),(141,Tryz.f141),(269,Tryz.f269),(205,Tryz.f205),(109,Tryz.f109),(173,Tryz.f173),(301,Tryz.f301),(237,Tryz.f237),(61,Tryz.f61),(93,Tryz.f93),(157,Tryz.f157),(285,Tryz.f285),(221,Tryz.f221),(125,Tryz.f125),(189,Tryz.f189),(253,Tryz.f253),(4,Tryz.f4),(8,Tryz.f8),(16,Tryz.f16),(32,Tryz.f32),(64,Tryz.f64),(128,Tryz.f128),(256,Tryz.f256),(192,Tryz.f192),(96,Tryz.f96),(160,Tryz.f160),(288,Tryz.f288),(224,Tryz.f224),(48,Tryz.f48),(80,Tryz.f80),(144,Tryz.f144),(272,Tryz.f272),(208,Tryz.f208),(112,Tryz.f112),(176,Tryz.f176),(304,Tryz.f304),(240,Tryz.f240),(24,Tryz.f24),(40,Tryz.f40),(72,Tryz.f72),(136,Tryz.f136),(264,Tryz.f264),(200,Tryz.f200),(104,Tryz.f104),(168,Tryz.f168),(296,Tryz.f296),(232,Tryz.f232),(56,Tryz.f56),(88,Tryz.f88),(152,Tryz.f152),(280,Tryz.f280),(216,Tryz.f216),(120,Tryz.f120),(184,Tryz.f184),(312,Tryz.f312),(248,Tryz.f248),(12,Tryz.f12),(20,Tryz.f20),(36,Tryz.f36),(68,Tryz.f68),(132,Tryz.f132),(260,Tryz.f260),(196,Tryz.f196),(100,Tryz.f100),(164,Tryz.f164),(292,Tryz.f292),(228,Tryz.f228),(52,Tryz.f52),(84,Tryz.f84),(148,Tryz.f148),(276,Tryz.f276),(212,Tryz.f212),(116,Tryz.f116),(180,Tryz.f180),(308,Tryz.f308),(244,Tryz.f244),(28,Tryz.f28),(44,Tryz.f44),(76,Tryz.f76),(140,Tryz.f140),(268,Tryz.f268),(204,Tryz.f204),(108,Tryz.f108),(172,Tryz.f172),(300,Tryz.f300),(236,Tryz.f236),(60,Tryz.f60),(92,Tryz.f92),(156,Tryz.f156),(284,Tryz.f284),(220,Tryz.f220),(124,Tryz.f124),(188,Tryz.f188),(316,Tryz.f316),(252,Tryz.f252),(6,Tryz.f6),(10,Tryz.f10),(18,Tryz.f18),(34,Tryz.f34),(66,Tryz.f66),(130,Tryz.f130),(258,Tryz.f258),(194,Tryz.f194),(98,Tryz.f98),(162,Tryz.f162),(290,Tryz.f290),(226,Tryz.f226),(50,Tryz.f50),(82,Tryz.f82),(146,Tryz.f146),(274,Tryz.f274),(210,Tryz.f210),(114,Tryz.f114),(178,Tryz.f178),(306,Tryz.f306),(242,Tryz.f242),(26,Tryz.f26),(42,Tryz.f42),(74,Tryz.f74),(138,Tryz.f138),(266,Tryz.f266),(202,Tryz.f202),(106,Tryz.f106),(170,Tryz.f170),(298,Tryz.f298),(234,Tryz.f234),(58,Tryz.f58),(90,Tryz.f90),(154,Tryz.f154),(282,Tryz.f282),(218,Tryz.f218),(122,Tryz.f122),(186,Tryz.f186),(314,Tryz.f314),(250,Tryz.f250),(14,Tryz.f14),(22,Tryz.f22),(38,Tryz.f38),(70,Tryz.f70),(134,Tryz.f134),(262,Tryz.f262),(198,Tryz.f198),(102,Tryz.f102),(166,Tryz.f166),(294,Tryz.f294),(230,Tryz.f230),(54,Tryz.f54),(86,Tryz.f86),(150,Tryz.f150),(278,Tryz.f278),(214,Tryz.f214),(118,Tryz.f118),(182,Tryz.f182),(310,Tryz.f310),(246,Tryz.f246),(30,Tryz.f30),(46,Tryz.f46),(78,Tryz.f78),(142,Tryz.f142),(270,Tryz.f270),(206,Tryz.f206),(110,Tryz.f110),(174,Tryz.f174),(302,Tryz.f302),(238,Tryz.f238),(62,Tryz.f62),(94,Tryz.f94),(158,Tryz.f158),(286,Tryz.f286),(222,Tryz.f222),(126,Tryz.f126),(190,Tryz.f190),(254,Tryz.f254)]:=by kernel_rfl
def fnP (k : Nat) (f : Func) : Prop := Tryz.prog.funcs[k]? = some f ∧ (f.name == "runtime.NumGoroutine") = false
theorem tU : ∀ k f, fnT.get k = some f → Tryz.prog.funcs[k]? = some f ∧ (f.name == "runtime.NumGoroutine") = false := by
 refine Tr.all_get (p:=fnP) ?_
 rw [CD]
 exact .cons ⟨Tryz.func3,by kernel_rfl⟩ (.cons ⟨Tryz.func7,by kernel_rfl⟩ (.cons ⟨Tryz.func15,by kernel_rfl⟩ (.cons ⟨Tryz.func31,by kernel_rfl⟩ (.cons ⟨Tryz.func63,by kernel_rfl⟩ (.cons ⟨Tryz.func127,by kernel_rfl⟩ (.cons ⟨Tryz.func255,by kernel_rfl⟩ (.cons ⟨Tryz.func191,by kernel_rfl⟩ (.cons ⟨Tryz.func95,by kernel_rfl⟩ (.cons ⟨Tryz.func159,by kernel_rfl⟩ (.cons ⟨Tryz.func287,by kernel_rfl⟩ (.cons ⟨Tryz.func223,by kernel_rfl⟩ (.cons ⟨Tryz.func47,by kernel_rfl⟩ (.cons ⟨Tryz.func79,by kernel_rfl⟩ (.cons ⟨Tryz.func143,by kernel_rfl⟩ (.cons ⟨Tryz.func271,by kernel_rfl⟩ (.cons ⟨Tryz.func207,by kernel_rfl⟩ (.cons ⟨Tryz.func111,by kernel_rfl⟩ (.cons ⟨Tryz.func175,by kernel_rfl⟩ (.cons ⟨Tryz.func303,by kernel_rfl⟩ (.cons ⟨Tryz.func239,by kernel_rfl⟩ (.cons ⟨Tryz.func23,by kernel_rfl⟩ (.cons ⟨Tryz.func39,by kernel_rfl⟩ (.cons ⟨Tryz.func71,by kernel_rfl⟩ (.cons ⟨Tryz.func135,by kernel_rfl⟩ (.cons ⟨Tryz.func263,by kernel_rfl⟩ (.cons ⟨Tryz.func199,by kernel_rfl⟩ (.cons ⟨Tryz.func103,by kernel_rfl⟩ (.cons ⟨Tryz.func167,by kernel_rfl⟩ (.cons ⟨Tryz.func295,by kernel_rfl⟩ (.cons ⟨Tryz.func231,by kernel_rfl⟩ (.cons ⟨Tryz.func55,by kernel_rfl⟩ (.cons ⟨Tryz.func87,by kernel_rfl⟩ (.cons ⟨Tryz.func151,by kernel_rfl⟩ (.cons ⟨Tryz.func279,by kernel_rfl⟩ (.cons ⟨Tryz.func215,by kernel_rfl⟩ (.cons ⟨Tryz.func119,by kernel_rfl⟩ (.cons ⟨Tryz.func183,by kernel_rfl⟩ (.cons ⟨Tryz.func311,by kernel_rfl⟩ (.cons ⟨Tryz.func247,by kernel_rfl⟩ (.cons ⟨Tryz.func11,by kernel_rfl⟩ (.cons ⟨Tryz.func19,by kernel_rfl⟩ (.cons ⟨Tryz.func35,by kernel_rfl⟩ (.cons ⟨Tryz.func67,by kernel_rfl⟩ (.cons ⟨Tryz.func131,by kernel_rfl⟩ (.cons ⟨Tryz.func259,by kernel_rfl⟩ (.cons ⟨Tryz.func195,by kernel_rfl⟩ (.cons ⟨Tryz.func99,by kernel_rfl⟩ (.cons ⟨Tryz.func163,by kernel_rfl⟩ (.cons ⟨Tryz.func291,by kernel_rfl⟩ (.cons ⟨Tryz.func227,by kernel_rfl⟩ (.cons ⟨Tryz.func51,by kernel_rfl⟩ (.cons ⟨Tryz.func83,by kernel_rfl⟩ (.cons ⟨Tryz.func147,by kernel_rfl⟩ (.cons ⟨Tryz.func275,by kernel_rfl⟩ (.cons ⟨Tryz.func211,by kernel_rfl⟩ (.cons ⟨Tryz.func115,by kernel_rfl⟩ (.cons ⟨Tryz.func179,by kernel_rfl⟩ (.cons ⟨Tryz.func307,by kernel_rfl⟩ (.cons ⟨Tryz.func243,by kernel_rfl⟩ (.cons ⟨Tryz.func27,by kernel_rfl⟩ (.cons ⟨Tryz.func43,by kernel_rfl⟩ (.cons ⟨Tryz.func75,by kernel_rfl⟩ (.cons ⟨Tryz.func139,by kernel_rfl⟩ (.cons ⟨Tryz.func267,by kernel_rfl⟩ (.cons ⟨Tryz.func203,by kernel_rfl⟩ (.cons ⟨Tryz.func107,by kernel_rfl⟩ (.cons ⟨Tryz.func171,by kernel_rfl⟩ (.cons ⟨Tryz.func299,by kernel_rfl⟩ (.cons ⟨Tryz.func235,by kernel_rfl⟩ (.cons ⟨Tryz.func59,by kernel_rfl⟩ (.cons ⟨Tryz.func91,by kernel_rfl⟩ (.cons ⟨Tryz.func155,by kernel_rfl⟩ (.cons ⟨Tryz.func283,by kernel_rfl⟩ (.cons ⟨Tryz.func219,by kernel_rfl⟩ (.cons ⟨Tryz.func123,by kernel_rfl⟩ (.cons ⟨Tryz.func187,by kernel_rfl⟩ (.cons ⟨Tryz.func315,by kernel_rfl⟩ (.cons ⟨Tryz.func251,by kernel_rfl⟩ (.cons ⟨Tryz.func5,by kernel_rfl⟩ (.cons ⟨Tryz.func9,by kernel_rfl⟩ (.cons ⟨Tryz.func17,by kernel_rfl⟩ (.cons ⟨Tryz.func33,by kernel_rfl⟩ (.cons ⟨Tryz.func65,by kernel_rfl⟩ (.cons ⟨Tryz.func129,by kernel_rfl⟩ (.cons ⟨Tryz.func257,by kernel_rfl⟩ (.cons ⟨Tryz.func193,by kernel_rfl⟩ (.cons ⟨Tryz.func97,by kernel_rfl⟩ (.cons ⟨Tryz.func161,by kernel_rfl⟩ (.cons ⟨Tryz.func289,by kernel_rfl⟩ (.cons ⟨Tryz.func225,by kernel_rfl⟩ (.cons ⟨Tryz.func49,by kernel_rfl⟩ (.cons ⟨Tryz.func81,by kernel_rfl⟩ (.cons ⟨Tryz.func145,by kernel_rfl⟩ (.cons ⟨Tryz.func273,by kernel_rfl⟩ (.cons ⟨Tryz.func209,by kernel_rfl⟩ (.cons ⟨Tryz.func113,by kernel_rfl⟩ (.cons ⟨Tryz.func177,by kernel_rfl⟩ (.cons ⟨Tryz.func305,by kernel_rfl⟩ (.cons ⟨Tryz.func241,by kernel_rfl⟩ (.cons ⟨Tryz.func25,by kernel_rfl⟩ (.cons ⟨Tryz.func41,by kernel_rfl⟩ (.cons ⟨Tryz.func73,by kernel_rfl⟩ (.cons ⟨Tryz.func137,by kernel_rfl⟩ (.cons ⟨Tryz.func265,by kernel_rfl⟩ (.cons ⟨Tryz.func201,by kernel_rfl⟩ (.cons ⟨Tryz.func105,by kernel_rfl⟩ (.cons ⟨Tryz.func169,by kernel_rfl⟩ (.cons ⟨Tryz.func297,by kernel_rfl⟩ (.cons ⟨Tryz.func233,by kernel_rfl⟩ (.cons ⟨Tryz.func57,by kernel_rfl⟩ (.cons ⟨Tryz.func89,by kernel_rfl⟩ (.cons ⟨Tryz.func153,by kernel_rfl⟩ (.cons ⟨Tryz.func281,by kernel_rfl⟩ (.cons ⟨Tryz.func217,by kernel_rfl⟩ (.cons ⟨Tryz.func121,by kernel_rfl⟩ (.cons ⟨Tryz.func185,by kernel_rfl⟩ (.cons ⟨Tryz.func313,by kernel_rfl⟩ (.cons ⟨Tryz.func249,by kernel_rfl⟩ (.cons ⟨Tryz.func13,by kernel_rfl⟩ (.cons ⟨Tryz.func21,by kernel_rfl⟩ (.cons ⟨Tryz.func37,by kernel_rfl⟩ (.cons ⟨Tryz.func69,by kernel_rfl⟩ (.cons ⟨Tryz.func133,by kernel_rfl⟩ (.cons ⟨Tryz.func261,by kernel_rfl⟩ (.cons ⟨Tryz.func197,by kernel_rfl⟩ (.cons ⟨Tryz.func101,by kernel_rfl⟩ (.cons ⟨Tryz.func165,by kernel_rfl⟩ (.cons ⟨Tryz.func293,by kernel_rfl⟩ (.cons ⟨Tryz.func229,by kernel_rfl⟩ (.cons ⟨Tryz.func53,by kernel_rfl⟩ (.cons ⟨Tryz.func85,by kernel_rfl⟩ (.cons ⟨Tryz.func149,by kernel_rfl⟩ (.cons ⟨Tryz.func277,by kernel_rfl⟩ (.cons ⟨Tryz.func213,by kernel_rfl⟩ (.cons ⟨Tryz.func117,by kernel_rfl⟩ (.cons ⟨Tryz.func181,by kernel_rfl⟩ (.cons ⟨Tryz.func309,by kernel_rfl⟩ (.cons ⟨Tryz.func245,by kernel_rfl⟩ (.cons ⟨Tryz.func29,by kernel_rfl⟩ (.cons ⟨Tryz.func45,by kernel_rfl⟩ (.cons ⟨Tryz.func77,by kernel_rfl⟩ (.cons ⟨Tryz.func141,by kernel_rfl⟩ (.cons ⟨Tryz.func269,by kernel_rfl⟩ (.cons ⟨Tryz.func205,by kernel_rfl⟩ (.cons ⟨Tryz.func109,by kernel_rfl⟩ (.cons ⟨Tryz.func173,by kernel_rfl⟩ (.cons ⟨Tryz.func301,by kernel_rfl⟩ (.cons ⟨Tryz.func237,by kernel_rfl⟩ (.cons ⟨Tryz.func61,by kernel_rfl⟩ (.cons ⟨Tryz.func93,by kernel_rfl⟩ (.cons ⟨Tryz.func157,by kernel_rfl⟩ (.cons ⟨Tryz.func285,by kernel_rfl⟩ (.cons ⟨Tryz.func221,by kernel_rfl⟩ (.cons ⟨Tryz.func125,by kernel_rfl⟩ (.cons ⟨Tryz.func189,by kernel_rfl⟩ (.cons ⟨Tryz.func253,by kernel_rfl⟩ (.cons ⟨Tryz.func4,by kernel_rfl⟩ (.cons ⟨Tryz.func8,by kernel_rfl⟩ (.cons ⟨Tryz.func16,by kernel_rfl⟩ (.cons ⟨Tryz.func32,by kernel_rfl⟩ (.cons ⟨Tryz.func64,by kernel_rfl⟩ (.cons ⟨Tryz.func128,by kernel_rfl⟩ (.cons ⟨Tryz.func256,by kernel_rfl⟩ (.cons ⟨Tryz.func192,by kernel_rfl⟩ (.cons ⟨Tryz.func96,by kernel_rfl⟩ (.cons ⟨Tryz.func160,by kernel_rfl⟩ (.cons ⟨Tryz.func288,by kernel_rfl⟩ (.cons ⟨Tryz.func224,by kernel_rfl⟩ (.cons ⟨Tryz.func48,by kernel_rfl⟩ (.cons ⟨Tryz.func80,by kernel_rfl⟩ (.cons ⟨Tryz.func144,by kernel_rfl⟩ (.cons ⟨Tryz.func272,by kernel_rfl⟩ (.cons ⟨Tryz.func208,by kernel_rfl⟩ (.cons ⟨Tryz.func112,by kernel_rfl⟩ (.cons ⟨Tryz.func176,by kernel_rfl⟩ (.cons ⟨Tryz.func304,by kernel_rfl⟩ (.cons ⟨Tryz.func240,by kernel_rfl⟩ (.cons ⟨Tryz.func24,by kernel_rfl⟩ (.cons ⟨Tryz.func40,by kernel_rfl⟩ (.cons ⟨Tryz.func72,by kernel_rfl⟩ (.cons ⟨Tryz.func136,by kernel_rfl⟩ (.cons ⟨Tryz.func264,by kernel_rfl⟩ (.cons ⟨Tryz.func200,by kernel_rfl⟩ (.cons ⟨Tryz.func104,by kernel_rfl⟩ (.cons ⟨Tryz.func168,by kernel_rfl⟩ (.cons ⟨Tryz.func296,by kernel_rfl⟩ (.cons ⟨Tryz.func232,by kernel_rfl⟩ (.cons ⟨Tryz.func56,by kernel_rfl⟩ (.cons ⟨Tryz.func88,by kernel_rfl⟩ (.cons ⟨Tryz.func152,by kernel_rfl⟩ (.cons ⟨Tryz.func280,by kernel_rfl⟩ (.cons ⟨Tryz.func216,by kernel_rfl⟩ (.cons ⟨Tryz.func120,by kernel_rfl⟩ (.cons ⟨Tryz.func184,by kernel_rfl⟩ (.cons ⟨Tryz.func312,by kernel_rfl⟩ (.cons ⟨Tryz.func248,by kernel_rfl⟩ (.cons ⟨Tryz.func12,by kernel_rfl⟩ (.cons ⟨Tryz.func20,by kernel_rfl⟩ (.cons ⟨Tryz.func36,by kernel_rfl⟩ (.cons ⟨Tryz.func68,by kernel_rfl⟩ (.cons ⟨Tryz.func132,by kernel_rfl⟩ (.cons ⟨Tryz.func260,by kernel_rfl⟩ (.cons ⟨Tryz.func196,by kernel_rfl⟩ (.cons ⟨Tryz.func100,by kernel_rfl⟩ (.cons ⟨Tryz.func164,by kernel_rfl⟩ (.cons ⟨Tryz.func292,by kernel_rfl⟩ (.cons ⟨Tryz.func228,by kernel_rfl⟩ (.cons ⟨Tryz.func52,by kernel_rfl⟩ (.cons ⟨Tryz.func84,by kernel_rfl⟩ (.cons ⟨Tryz.func148,by kernel_rfl⟩ (.cons ⟨Tryz.func276,by kernel_rfl⟩ (.cons ⟨Tryz.func212,by kernel_rfl⟩ (.cons ⟨Tryz.func116,by kernel_rfl⟩ (.cons ⟨Tryz.func180,by kernel_rfl⟩ (.cons ⟨Tryz.func308,by kernel_rfl⟩ (.cons ⟨Tryz.func244,by kernel_rfl⟩ (.cons ⟨Tryz.func28,by kernel_rfl⟩ (.cons ⟨Tryz.func44,by kernel_rfl⟩ (.cons ⟨Tryz.func76,by kernel_rfl⟩ (.cons ⟨Tryz.func140,by kernel_rfl⟩ (.cons ⟨Tryz.func268,by kernel_rfl⟩ (.cons ⟨Tryz.func204,by kernel_rfl⟩ (.cons ⟨Tryz.func108,by kernel_rfl⟩ (.cons ⟨Tryz.func172,by kernel_rfl⟩ (.cons ⟨Tryz.func300,by kernel_rfl⟩ (.cons ⟨Tryz.func236,by kernel_rfl⟩ (.cons ⟨Tryz.func60,by kernel_rfl⟩ (.cons ⟨Tryz.func92,by kernel_rfl⟩ (.cons ⟨Tryz.func156,by kernel_rfl⟩ (.cons ⟨Tryz.func284,by kernel_rfl⟩ (.cons ⟨Tryz.func220,by kernel_rfl⟩ (.cons ⟨Tryz.func124,by kernel_rfl⟩ (.cons ⟨Tryz.func188,by kernel_rfl⟩ (.cons ⟨Tryz.func316,by kernel_rfl⟩ (.cons ⟨Tryz.func252,by kernel_rfl⟩ (.cons ⟨Tryz.func6,by kernel_rfl⟩ (.cons ⟨Tryz.func10,by kernel_rfl⟩ (.cons ⟨Tryz.func18,by kernel_rfl⟩ (.cons ⟨Tryz.func34,by kernel_rfl⟩ (.cons ⟨Tryz.func66,by kernel_rfl⟩ (.cons ⟨Tryz.func130,by kernel_rfl⟩ (.cons ⟨Tryz.func258,by kernel_rfl⟩ (.cons ⟨Tryz.func194,by kernel_rfl⟩ (.cons ⟨Tryz.func98,by kernel_rfl⟩ (.cons ⟨Tryz.func162,by kernel_rfl⟩ (.cons ⟨Tryz.func290,by kernel_rfl⟩ (.cons ⟨Tryz.func226,by kernel_rfl⟩ (.cons ⟨Tryz.func50,by kernel_rfl⟩ (.cons ⟨Tryz.func82,by kernel_rfl⟩ (.cons ⟨Tryz.func146,by kernel_rfl⟩ (.cons ⟨Tryz.func274,by kernel_rfl⟩ (.cons ⟨Tryz.func210,by kernel_rfl⟩ (.cons ⟨Tryz.func114,by kernel_rfl⟩ (.cons ⟨Tryz.func178,by kernel_rfl⟩ (.cons ⟨Tryz.func306,by kernel_rfl⟩ (.cons ⟨Tryz.func242,by kernel_rfl⟩ (.cons ⟨Tryz.func26,by kernel_rfl⟩ (.cons ⟨Tryz.func42,by kernel_rfl⟩ (.cons ⟨Tryz.func74,by kernel_rfl⟩ (.cons ⟨Tryz.func138,by kernel_rfl⟩ (.cons ⟨Tryz.func266,by kernel_rfl⟩ (.cons ⟨Tryz.func202,by kernel_rfl⟩ (.cons ⟨Tryz.func106,by kernel_rfl⟩ (.cons ⟨Tryz.func170,by kernel_rfl⟩ (.cons ⟨Tryz.func298,by kernel_rfl⟩ (.cons ⟨Tryz.func234,by kernel_rfl⟩ (.cons ⟨Tryz.func58,by kernel_rfl⟩ (.cons ⟨Tryz.func90,by kernel_rfl⟩ (.cons ⟨Tryz.func154,by kernel_rfl⟩ (.cons ⟨Tryz.func282,by kernel_rfl⟩ (.cons ⟨Tryz.func218,by kernel_rfl⟩ (.cons ⟨Tryz.func122,by kernel_rfl⟩ (.cons ⟨Tryz.func186,by kernel_rfl⟩ (.cons ⟨Tryz.func314,by kernel_rfl⟩ (.cons ⟨Tryz.func250,by kernel_rfl⟩ (.cons ⟨Tryz.func14,by kernel_rfl⟩ (.cons ⟨Tryz.func22,by kernel_rfl⟩ (.cons ⟨Tryz.func38,by kernel_rfl⟩ (.cons ⟨Tryz.func70,by kernel_rfl⟩ (.cons ⟨Tryz.func134,by kernel_rfl⟩ (.cons ⟨Tryz.func262,by kernel_rfl⟩ (.cons ⟨Tryz.func198,by kernel_rfl⟩ (.cons ⟨Tryz.func102,by kernel_rfl⟩ (.cons ⟨Tryz.func166,by kernel_rfl⟩ (.cons ⟨Tryz.func294,by kernel_rfl⟩ (.cons ⟨Tryz.func230,by kernel_rfl⟩ (.cons ⟨Tryz.func54,by kernel_rfl⟩ (.cons ⟨Tryz.func86,by kernel_rfl⟩ (.cons ⟨Tryz.func150,by kernel_rfl⟩ (.cons ⟨Tryz.func278,by kernel_rfl⟩ (.cons ⟨Tryz.func214,by kernel_rfl⟩ (.cons ⟨Tryz.func118,by kernel_rfl⟩ (.cons ⟨Tryz.func182,by kernel_rfl⟩ (.cons ⟨Tryz.func310,by kernel_rfl⟩ (.cons ⟨Tryz.func246,by kernel_rfl⟩ (.cons ⟨Tryz.func30,by kernel_rfl⟩ (.cons ⟨Tryz.func46,by kernel_rfl⟩ (.cons ⟨Tryz.func78,by kernel_rfl⟩ (.cons ⟨Tryz.func142,by kernel_rfl⟩ (.cons ⟨Tryz.func270,by kernel_rfl⟩ (.cons ⟨Tryz.func206,by kernel_rfl⟩ (.cons ⟨Tryz.func110,by kernel_rfl⟩ (.cons ⟨Tryz.func174,by kernel_rfl⟩ (.cons ⟨Tryz.func302,by kernel_rfl⟩ (.cons ⟨Tryz.func238,by kernel_rfl⟩ (.cons ⟨Tryz.func62,by kernel_rfl⟩ (.cons ⟨Tryz.func94,by kernel_rfl⟩ (.cons ⟨Tryz.func158,by kernel_rfl⟩ (.cons ⟨Tryz.func286,by kernel_rfl⟩ (.cons ⟨Tryz.func222,by kernel_rfl⟩ (.cons ⟨Tryz.func126,by kernel_rfl⟩ (.cons ⟨Tryz.func190,by kernel_rfl⟩ (.cons ⟨Tryz.func254,by kernel_rfl⟩ (.nil))))))))))))))))))))))))))))))))))))))))))))))))))))))))))))))))))))))))))))))))))))))))))))))))))))))))))))))))))))))))))))))))))))))))))))))))))))))))))))))))))))))))))))))))))))))))))))))))))))))))))))))))))))))))))))))))))))))))))))))))))))))))))))))))))))))))))))))))))))))))))))))))))))))))))))))))))))))))))
noncomputable def ky7:List KK:=[.int .i64,.int .i64,.bool,.int .u8]
theorem Mp:bM Tryz.prog 7=some ky7:=by kernel_rfl
noncomputable def ky8:List KK:=[.int .i64,.int .i64,.bool,.int .u8]
theorem LY:bM Tryz.prog 8=some ky8:=by kernel_rfl
noncomputable def Ns:List KK:=[.int .i64,.int .i64]
theorem Lf:bM Tryz.prog 32=some Ns:=by kernel_rfl
noncomputable def Nc:List KK:=[.int .i64,.int .i64]
theorem I2:bM Tryz.prog 33=some Nc:=by kernel_rfl
noncomputable def LZ:List KK:=[.int .i64,.int .i64,.int .i64,.int .i64,.int .i64,.int .i64,.int .i64,.int .i64]
theorem JL:bM Tryz.prog 41=some LZ:=by kernel_rfl
noncomputable def Oa:List KK:=[.int .i64,.int .i64,.int .i64,.int .i64,.int .i64,.int .i64,.int .i64,.int .i64]
theorem J9:bM Tryz.prog 42=some Oa:=by kernel_rfl
noncomputable def Mj:List KK:=[.bool,.bool,.bool,.bool,.bool,.bool,.bool,.bool,.bool,.bool,.bool,.bool,.bool,.bool,.bool,.bool,.bool,.bool,.bool,.bool,.bool,.bool,.bool,.bool,.bool,.bool,.bool,.bool,.bool,.bool,.bool,.bool,.bool,.bool,.bool,.bool,.bool,.bool,.bool,.bool,.bool,.bool,.bool,.bool,.bool,.bool,.bool,.bool,.bool,.bool,.bool,.bool,.bool,.bool,.bool,.bool,.bool,.bool,.bool,.bool,.bool,.bool,.bool,.bool]
theorem IV:bM Tryz.prog 85=some Mj:=by kernel_rfl
noncomputable def N2:List KK:=[.int .i64,.int .i64,.bool,.bool]
theorem Kx:bM Tryz.prog 89=some N2:=by kernel_rfl
noncomputable def L4:List KK:=[.int .i64,.int .i64,.bool,.bool]
theorem KA:bM Tryz.prog 90=some L4:=by kernel_rfl
noncomputable def wy:List KK:=[.int .i64,.int .i64]
theorem Ee:bM Tryz.prog 111=some wy:=by kernel_rfl
noncomputable def yF:List KK:=[.int .i64,.int .i64]
theorem EA:bM Tryz.prog 112=some yF:=by kernel_rfl
noncomputable def E9:List KK:=[.int .i64,.int .i64,.int .i64,.int .i64,.int .i64,.int .i64,.int .i64,.int .i64,.int .i64,.int .i64,.int .i64,.int .i64,.int .i64,.int .i64,.int .i64,.int .i64]
theorem FC:bM Tryz.prog 113=some E9:=by kernel_rfl
noncomputable def zX:List KK:=[.string,.string]
theorem Ib:bM Tryz.prog 126=some zX:=by kernel_rfl
noncomputable def wO:List KK:=[.string,.string]
theorem Ie:bM Tryz.prog 127=some wO:=by kernel_rfl
noncomputable def C6:List KK:=[.int .i64,.int .i64,.int .i64,.int .i64,.int .i64,.bool]
theorem FO:bM Tryz.prog 141=some C6:=by kernel_rfl
noncomputable def xa:List KK:=[.int .i64,.int .i64,.int .i64,.int .i64,.int .i64,.bool]
theorem xy:bM Tryz.prog 142=some xa:=by kernel_rfl
noncomputable def xn:List KK:=[.int .i64]
theorem HR:bM Tryz.prog 157=some xn:=by kernel_rfl
noncomputable def Dk:List KK:=[.int .i64]
theorem Ao:bM Tryz.prog 158=some Dk:=by kernel_rfl
noncomputable def BE:List KK:=[.bool,.bool,.bool,.bool,.bool,.bool,.bool,.bool]
theorem EM:bM Tryz.prog 181=some BE:=by kernel_rfl
noncomputable def zm:List KK:=[.int .i64,.int .i64,.int .i64,.bool]
theorem HC:bM Tryz.prog 184=some zm:=by kernel_rfl
noncomputable def wL:List KK:=[.int .i64,.int .i64,.int .i64,.bool]
theorem CN:bM Tryz.prog 185=some wL:=by kernel_rfl
noncomputable def Fl:List KK:=[.int .i64,.int .i64,.int .i64,.int .i64,.int .i64,.int .i64,.int .i64,.int .i64,.int .i64]
theorem CV:bM Tryz.prog 189=some Fl:=by kernel_rfl
noncomputable def Fq:List KK:=[.int .i64,.int .i64,.int .i64,.int .i64,.int .i64,.int .i64,.int .i64,.int .i64,.int .i64]
theorem Fy:bM Tryz.prog 190=some Fq:=by kernel_rfl
noncomputable def ET:List KK:=[.int .i64,.int .i64]
theorem A9:bM Tryz.prog 205=some ET:=by kernel_rfl
noncomputable def wo:List KK:=[.int .i64,.int .i64]
theorem Ed:bM Tryz.prog 206=some wo:=by kernel_rfl
noncomputable def AP:List KK:=[.int .i64,.int .i64,.int .i64,.int .i64,.int .i64,.int .i64,.int .i64,.int .i64,.int .i64]
theorem wH:bM Tryz.prog 227=some AP:=by kernel_rfl
noncomputable def xJ:List KK:=[.int .i64,.int .i64,.int .i64,.int .i64,.int .i64,.int .i64,.int .i64,.int .i64,.int .i64]
theorem C3:bM Tryz.prog 228=some xJ:=by kernel_rfl
noncomputable def C7:List KK:=[.int .i64,.int .i64]
theorem y_:bM Tryz.prog 246=some C7:=by kernel_rfl
noncomputable def D3:List KK:=[.int .i64,.int .i64]
theorem Ig:bM Tryz.prog 247=some D3:=by kernel_rfl
noncomputable def zA:List KK:=[.string,.int .i64,.string]
theorem zu:bM Tryz.prog 279=some zA:=by kernel_rfl
noncomputable def Dv:List KK:=[.string,.int .i64,.string]
theorem Dw:bM Tryz.prog 280=some Dv:=by kernel_rfl
noncomputable def wq:List KK:=[.int .i64,.int .i64,.int .i64,.bool,.int .i64]
theorem GB:bM Tryz.prog 286=some wq:=by kernel_rfl
noncomputable def Bu:List KK:=[.int .i64,.int .i64,.int .i64,.bool,.int .i64]
theorem HG:bM Tryz.prog 287=some Bu:=by kernel_rfl
noncomputable def yg:List KK:=[.int .i64,.int .i64,.int .i64,.bool,.int .i64,.int .i64,.int .i64,.int .i64,.bool,.int .i64,.int .i64,.int .i64,.int .i64,.bool,.int .i64,.int .i64,.int .i64,.int .i64,.bool,.int .i64,.int .i64,.int .i64,.int .i64,.bool,.int .i64,.int .i64,.int .i64,.int .i64,.bool,.int .i64,.int .i64,.int .i64,.int .i64,.bool,.int .i64,.int .i64,.int .i64,.int .i64,.bool,.int .i64]
theorem Bi:bM Tryz.prog 288=some yg:=by kernel_rfl
noncomputable def yx:List KK:=[.int .i64,.int .i64,.int .i64]
theorem FZ:bM Tryz.prog 293=some yx:=by kernel_rfl
noncomputable def yK:List KK:=[.int .i64,.int .i64,.int .i64]
theorem ED:bM Tryz.prog 308=some yK:=by kernel_rfl
noncomputable def zR:List KK:=[.int .i64,.int .i64,.int .i64,.bool]
theorem Gy:bM Tryz.prog 325=some zR:=by kernel_rfl
noncomputable def Fb:List KK:=[.int .i64,.int .i64,.int .i64,.bool]
theorem A2:bM Tryz.prog 326=some Fb:=by kernel_rfl
noncomputable def kyT:Tr (List KK):=.node none (.node none (.node none (.node (some ky7) (.node none (.node none (.node none (.node (some wO) .leaf .leaf) .leaf) (.node none (.node none (.node (some Bu) .leaf .leaf) .leaf) .leaf)) (.node none .leaf (.node (some wy) .leaf .leaf))) (.node none .leaf (.node none (.node none (.node none (.node (some zA) .leaf .leaf) .leaf) .leaf) (.node none .leaf (.node (some D3) .leaf .leaf))))) (.node none (.node none (.node none .leaf (.node none .leaf (.node (some AP) .leaf .leaf))) .leaf) .leaf)) (.node none (.node none (.node none (.node (some Nc) .leaf .leaf) (.node none .leaf (.node (some E9) .leaf .leaf))) (.node none (.node (some LZ) .leaf .leaf) (.node none (.node (some N2) .leaf .leaf) (.node none (.node (some wL) .leaf .leaf) .leaf)))) (.node none (.node none (.node none (.node none .leaf (.node none (.node (some zR) .leaf .leaf) .leaf)) (.node none (.node none (.node (some yx) .leaf .leaf) .leaf) .leaf)) (.node none (.node (some Mj) .leaf .leaf) (.node none (.node (some BE) .leaf .leaf) .leaf))) (.node none (.node none (.node none (.node (some C6) .leaf .leaf) (.node (some ET) .leaf .leaf)) .leaf) (.node none (.node none (.node (some xn) .leaf .leaf) .leaf) (.node none (.node (some Fl) .leaf .leaf) .leaf)))))) (.node none (.node none (.node (some ky8) (.node none (.node (some Ns) .leaf (.node none (.node none (.node (some yg) .leaf .leaf) .leaf) .leaf)) (.node none .leaf (.node (some yF) .leaf .leaf))) (.node none .leaf (.node none (.node none (.node none (.node (some Dv) .leaf .leaf) .leaf) .leaf) (.node none (.node (some zm) .leaf .leaf) .leaf)))) (.node none (.node none (.node none .leaf (.node none .leaf (.node (some xJ) .leaf .leaf))) (.node none .leaf (.node none (.node none (.node (some yK) .leaf .leaf) .leaf) .leaf))) .leaf)) (.node none (.node none .leaf (.node none (.node (some Oa) .leaf .leaf) (.node none (.node (some L4) .leaf .leaf) .leaf))) (.node none (.node none (.node none (.node none .leaf (.node none (.node (some Fb) .leaf .leaf) .leaf)) .leaf) (.node none .leaf (.node none .leaf (.node (some C7) .leaf .leaf)))) (.node none (.node none (.node none (.node (some xa) .leaf .leaf) (.node (some wo) .leaf .leaf)) .leaf) (.node none (.node none (.node (some Dk) (.node (some wq) .leaf .leaf) .leaf) .leaf) (.node (some zX) (.node (some Fq) .leaf .leaf) .leaf))))))
theorem Aq:kyT.toL=[(7,ky7),(127,wO),(287,Bu),(111,wy),(279,zA),(247,D3),(227,AP),(33,Nc),(113,E9),(41,LZ),(89,N2),(185,wL),(325,zR),(293,yx),(85,Mj),(181,BE),(141,C6),(205,ET),(157,xn),(189,Fl),(8,ky8),(32,Ns),(288,yg),(112,yF),(280,Dv),(184,zm),(228,xJ),(308,yK),(42,Oa),(90,L4),(326,Fb),(246,C7),(142,xa),(206,wo),(158,Dk),(286,wq),(126,zX),(190,Fq)]:=by kernel_rfl
theorem Nv:∀ t ks,kyT.get t=some ks→ph Tryz.prog t ks:=by
 refine Tr.all_get (p:=fun t ks=>ph Tryz.prog t ks) ?_
 rw [Aq]
 exact .cons (aK Mp) (.cons (aK Ie) (.cons (aK HG) (.cons (aK Ee) (.cons (aK zu) (.cons (aK Ig) (.cons (aK wH) (.cons (aK I2) (.cons (aK FC) (.cons (aK JL) (.cons (aK Kx) (.cons (aK CN) (.cons (aK Gy) (.cons (aK FZ) (.cons (aK IV) (.cons (aK EM) (.cons (aK FO) (.cons (aK A9) (.cons (aK HR) (.cons (aK CV) (.cons (aK LY) (.cons (aK Lf) (.cons (aK Bi) (.cons (aK EA) (.cons (aK Dw) (.cons (aK HC) (.cons (aK C3) (.cons (aK ED) (.cons (aK J9) (.cons (aK KA) (.cons (aK A2) (.cons (aK y_) (.cons (aK xy) (.cons (aK Ed) (.cons (aK Ao) (.cons (aK GB) (.cons (aK Ib) (.cons (aK Fy) (.nil))))))))))))))))))))))))))))))))))))))
noncomputable def CX (σ:Sig) (kn:List (bU × Bool)) (hkn:pe σ kn):Ctx Tryz.prog:=⟨tiT.get,oD,kyT.get,Nv,σ,kn,hkn⟩
theorem ug:Tryz.prog.follows .mixedOrders=true:=by kernel_rfl
noncomputable abbrev CZ (σ:Sig):Ctx Tryz.prog:=CX σ [] u6
def jr (j:Nat→AV):Nat→Nat→List AV
  | _,0=>[]
  | a,n+1=>j a::jr j (a+1) n
noncomputable abbrev fQ (f:Func) (σ:Sig) (K:AV→Hp→Prop):=fnQ (CZ σ).ti f.results.toList K
theorem gwp {σ:Sig} (g:Nat) {f:Nat} {fn:Func} {c:Code} {xs:List AV} {H:Hp} {K:AV→Hp→Prop} (hf:fnT.get f=some fn) (hb:fn.body=some c) (h:wp (CZ σ) g c (xs++List.replicate (fn.ntmps - xs.length) (.lit undef)) H (fnQ (CZ σ).ti fn.results.toList K)):∃ r H',aq Tryz.prog σ f xs H r H'∧K r H' :=
  tZ (CZ σ) ug g (tU f fn hf).1 hb (tU f fn hf).2 h
theorem lrd {σ:Sig} {g:Nat} {c:Code} {T:List AV} {H:Hp} {Q:Exit→List AV→Hp→Prop} (h:wp (CZ σ) g c T H (nx Q fun T1 H1=>∀ js,cO (CZ σ) c (f_ g js 0 T1) H1 Q)):cO (CZ σ) c T H Q :=
  cO.round (CZ σ) ug h
end Go.Proofs.YtegioimlblnajaaGreat.Ev
namespace Go.Proofs.YtegioimlblnajaaGreat.Ev
set_option maxRecDepth 100000
set_option maxHeartbeats 4000000
abbrev eR:Nat:=9
abbrev gJ:Nat:=15
abbrev ct:Nat:=18
abbrev fD:Nat:=21
abbrev dx:Nat:=23
abbrev aX:Nat:=24
abbrev ay:Nat:=26
abbrev ao:Nat:=27
abbrev ax:Nat:=28
abbrev av:Nat:=34
abbrev aB:Nat:=37
abbrev jp:Nat:=38
abbrev hP:Nat:=39
abbrev eI:Nat:=40
abbrev bt:Nat:=41
abbrev cZ:Nat:=54
abbrev fV:Nat:=55
abbrev eD:Nat:=56
abbrev dB:Nat:=59
abbrev dD:Nat:=61
abbrev c7:Nat:=68
abbrev d_:Nat:=70
abbrev fU:Nat:=71
abbrev fd:Nat:=72
abbrev eC:Nat:=73
abbrev fX:Nat:=74
abbrev iC:Nat:=75
abbrev mZ:Nat:=76
abbrev c3:Nat:=77
abbrev cP:Nat:=78
abbrev ci:Nat:=79
abbrev bH:Nat:=100
abbrev bA:Nat:=101
abbrev bv:Nat:=102
abbrev bh:Nat:=103
abbrev bI:Nat:=104
abbrev fS:Nat:=105
abbrev dF:Nat:=109
abbrev dK:Nat:=122
abbrev ff:Nat:=123
abbrev cJ:Nat:=124
abbrev mD:Nat:=125
abbrev gD:Nat:=126
abbrev iz:Nat:=127
abbrev pK:Nat:=128
abbrev fj:Nat:=129
abbrev cz:Nat:=135
abbrev cL:Nat:=136
abbrev dw:Nat:=137
abbrev bO:Nat:=138
abbrev dE:Nat:=139
abbrev fk:Nat:=140
abbrev dT:Nat:=141
abbrev eg:Nat:=142
abbrev cF:Nat:=143
abbrev dj:Nat:=144
abbrev dy:Nat:=145
abbrev fp:Nat:=146
abbrev eK:Nat:=147
abbrev dA:Nat:=148
abbrev dh:Nat:=149
abbrev du:Nat:=163
abbrev hO:Nat:=164
abbrev ge:Nat:=165
abbrev aN:Nat:=169
abbrev bC:Nat:=170
abbrev bj:Nat:=171
abbrev dV:Nat:=173
abbrev nc:Nat:=174
abbrev bY:Nat:=175
abbrev cI:Nat:=176
abbrev fK:Nat:=181
abbrev eE:Nat:=182
abbrev kA:Nat:=183
abbrev gU:Nat:=184
abbrev e_:Nat:=185
abbrev aO:Nat:=192
abbrev aY:Nat:=193
abbrev bu:Nat:=196
abbrev bL:Nat:=197
abbrev cm:Nat:=198
abbrev bN:Nat:=199
abbrev bV:Nat:=200
abbrev dW:Nat:=210
abbrev aU:Nat:=218
abbrev bW:Nat:=219
abbrev br:Nat:=220
abbrev bx:Nat:=221
abbrev bR:Nat:=222
abbrev b9:Nat:=231
abbrev cj:Nat:=232
abbrev aL:Nat:=233
abbrev bi:Nat:=234
abbrev cG:Nat:=235
abbrev bK:Nat:=236
abbrev bq:Nat:=243
abbrev co:Nat:=244
abbrev gr:Nat:=3
abbrev Mv:Nat:=4
abbrev eZ:Nat:=9
abbrev cV:Nat:=22
abbrev gP:Nat:=53
abbrev fi:Nat:=54
abbrev jq:Nat:=56
abbrev lO:Nat:=75
abbrev jt:Nat:=127
abbrev pL:Nat:=154
abbrev oh:Nat:=156
abbrev pA:Nat:=254
abbrev nC:Nat:=255
abbrev oW:Nat:=257
abbrev uc:Nat:=259
abbrev qV:Nat:=262
abbrev tJ:Nat:=280
theorem rE:∃ i,tiT.get gr=some i∧i.d=.int .i64∧i.size=1:=⟨_,(by kernel_rfl:tiT.get gr=some ti3),by kernel_rfl,by kernel_rfl⟩
theorem kd:∃ i,tiT.get eZ=some i∧i.d=.string∧i.size=1:=⟨_,(by kernel_rfl:tiT.get eZ=some ti9),by kernel_rfl,by kernel_rfl⟩
theorem i3:∃ i,tiT.get cV=some i∧i.d=.slice jq∧i.size=1:=⟨_,(by kernel_rfl:tiT.get cV=some JK),by kernel_rfl,by kernel_rfl⟩
theorem oG:∃ i,tiT.get gP=some i∧i.d=.slice eZ∧i.size=1:=⟨_,(by kernel_rfl:tiT.get gP=some JG),by kernel_rfl,by kernel_rfl⟩
theorem mN:∃ i,tiT.get fi=some i∧i.d=.slice jt∧i.size=1:=⟨_,(by kernel_rfl:tiT.get fi=some Kk),by kernel_rfl,by kernel_rfl⟩
theorem kG:∃ i,tiT.get jq=some i∧i.d=.struct [(0,gr),(1,eZ),(2,eZ),(3,gP),(4,fi)]∧i.size=5:=⟨_,(by kernel_rfl:tiT.get jq=some Jr),by kernel_rfl,by kernel_rfl⟩
theorem kJ:∃ i,tiT.get jt=some i∧i.d=.struct [(0,eZ),(1,eZ)]∧i.size=2:=⟨_,(by kernel_rfl:tiT.get jt=some uW),by kernel_rfl,by kernel_rfl⟩
end Go.Proofs.YtegioimlblnajaaGreat.Ev
