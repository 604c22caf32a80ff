/- The walks, part 3: the evaluator, the functions, the laws. Conditions: none. -/
import Derived.Lib.Index
import Derived.Lib.Strings
import Derived.Test.YtegioimlblnajaaGreatProg
import Derived.Test.YtegioimlblnajaaGreatZ2
namespace Go.Proofs.YtegioimlblnajaaGreat.Ev
set_option linter.unusedVariables false
set_option linter.unusedSimpArgs false
structure At where
 name:ByteArray
 op:Int
 text:ByteArray
mutual
inductive Pt where
 | mk (comb:Int) (c:Cp)
inductive Cp where
 | mk (tag:ByteArray) (ids classes:List ByteArray) (attrs:List At) (pseudos:List Ps)
inductive Ps where
 | mk (kind a b:Int) (list:List (List Pt))
end
def Pt.comb:Pt→Int | .mk k _=>k
def Pt.c:Pt→Cp | .mk _ c=>c
def Cp.tag:Cp→ByteArray | .mk t _ _ _ _=>t
def Cp.ids:Cp→List ByteArray | .mk _ i _ _ _=>i
def Cp.classes:Cp→List ByteArray | .mk _ _ c _ _=>c
def Cp.attrs:Cp→List At | .mk _ _ _ a _=>a
def Cp.pseudos:Cp→List Ps | .mk _ _ _ _ p=>p
def Ps.kind:Ps→Int | .mk k _ _ _=>k
def Ps.a:Ps→Int | .mk _ a _ _=>a
def Ps.b:Ps→Int | .mk _ _ b _=>b
def Ps.list:Ps→List (List Pt) | .mk _ _ _ l=>l
abbrev Sl:=List Pt
structure ST where
 prop:Int
 kind:Int
 n:Int
 imp:Bool
structure RL where
 sels:List Sl
 sets:List ST
structure Nd where
 parent:Int
 tag:ByteArray
 id:ByteArray
 classes:List ByteArray
 attrs:List (ByteArray × ByteArray)
def kr (a:At):List AV:=[Sx a.name,I a.op,Sx a.text]
def fD (l:List ByteArray):AV:=.imm 1 (l.map fun s=>[Sx s])
mutual
def jA:Pt→List AV
 | .mk k c=>I k::iy c
def iy:Cp→List AV
 | .mk t i c a p=>[Sx t,fD i,fD c,.imm 3 (a.map kr),.imm 4 (nC p)]
def iz:Ps→List AV
 | .mk k a b l=>[I k,I a,I b,.imm 1 (nj l)]
def ny:List Pt→List (List AV)
 | []=>[]
 | p::r=>jA p::ny r
def nC:List Ps→List (List AV)
 | []=>[]
 | p::r=>iz p::nC r
def nj:List (List Pt)→List (List AV)
 | []=>[]
 | s::r=>[.imm 6 (ny s)]::nj r
end
theorem lY:∀ (l:List Pt),ny l=l.map jA
 | []=>rfl
 | p::r=>by rw [ny,lY r]; rfl
theorem oO:∀ (l:List Ps),nC l=l.map iz
 | []=>rfl
 | p::r=>by rw [nC,oO r]; rfl
def jD (s:Sl):List AV:=[.imm 6 (s.map jA)]
theorem pM:∀ (l:List Sl),nj l=l.map jD
 | []=>rfl
 | s::r=>by rw [nj,pM r,lY]; rfl
theorem mJ (p:Pt):jA p=I p.comb::iy p.c:=by cases p; rfl
theorem hO (c:Cp):iy c=[Sx c.tag,fD c.ids,fD c.classes,.imm 3 (c.attrs.map kr),.imm 4 (c.pseudos.map iz)]:=by
 cases c; rw [iy,oO]; rfl
theorem jB (p:Ps):iz p=[I p.kind,I p.a,I p.b,.imm 1 (p.list.map jD)]:=by
 cases p; rw [iz,pM]; rfl
@[simp] theorem wD (p:Pt):(jA p).length=6:=by rw [mJ,hO]; rfl
@[simp] theorem wj (p:Cp):(iy p).length=5:=by rw [hO]; rfl
@[simp] theorem wo (p:Ps):(iz p).length=4:=by rw [jB]; rfl
@[simp] theorem O6 (p:Sl):(jD p).length=1:=rfl
@[simp] theorem Pk (p:At):(kr p).length=3:=rfl
def sls (l:List Sl):AV:=.imm 1 (l.map jD)
def kj (s:ST):List AV:=[I s.prop,I s.kind,I s.n,Bo s.imp]
def mS (r:RL):List AV:=[sls r.sels,.imm 4 (r.sets.map kj)]
def rls (l:List RL):AV:=.imm 2 (l.map mS)
def cF (p:ByteArray × ByteArray):List AV:=[Sx p.1,Sx p.2]
def bA (n:Nd):List AV:=[I n.parent,Sx n.tag,Sx n.id,fD n.classes,.imm 2 (n.attrs.map cF)]
def nds (l:List Nd):AV:=.imm 5 (l.map bA)
theorem bW {α:Type} (f:α→List AV) (hf:∀ x,bv (f x)=true):∀ l:List α,d9 (l.map f)=true
 | []=>rfl
 | x::r=>by simp only [List.map_cons,d9,hf,bW f hf r,Bool.and_self]
@[simp] theorem kX (l:List ByteArray):cP (fD l)=true:=by
 unfold fD; simp only [cP]; exact bW _ (fun _=>rfl) l
theorem Jr (a:At):bv (kr a)=true:=rfl
mutual
theorem KC:∀ (p:Pt),bv (jA p)=true
 | .mk k c=>by rw [jA]; simp only [bv,cP,Lq c,Bool.and_self]
theorem Lq:∀ (c:Cp),bv (iy c)=true
 | .mk t i c a p=>by rw [iy]; simp only [bv,cP,kX,bW _ Jr,sI p,Bool.and_self]
theorem Ko:∀ (p:Ps),bv (iz p)=true
 | .mk k a b l=>by rw [iz]; simp only [bv,cP,s_ l,Bool.and_self]
theorem oP:∀ (l:List Pt),d9 (ny l)=true
 | []=>rfl
 | p::r=>by rw [ny]; simp only [d9,KC p,oP r,Bool.and_self]
theorem sI:∀ (l:List Ps),d9 (nC l)=true
 | []=>rfl
 | p::r=>by rw [nC]; simp only [d9,Ko p,sI r,Bool.and_self]
theorem s_:∀ (l:List (List Pt)),d9 (nj l)=true
 | []=>rfl
 | s::r=>by rw [nj]; simp only [d9,bv,cP,oP s,s_ r,Bool.and_self]
end
theorem K7 (s:Sl):bv (jD s)=true:=by
 unfold jD; rw [← lY]; simp only [bv,cP,oP,Bool.and_self]
@[simp] theorem zw (l:List Sl):cP (sls l)=true:=by unfold sls; simp only [cP]; exact bW _ K7 l
theorem Kh (s:ST):bv (kj s)=true:=rfl
theorem L7 (r:RL):bv (mS r)=true:=by unfold mS; simp only [bv,cP,zw,bW _ Kh,Bool.and_self]
@[simp] theorem PI (l:List RL):cP (rls l)=true:=by unfold rls; simp only [cP]; exact bW _ L7 l
theorem mV (n:Nd):bv (bA n)=true:=by unfold bA; simp only [bv,cP,kX,bW cF (fun _=>rfl),Bool.and_self]
@[simp] theorem Qd (l:List Nd):cP (nds l)=true:=by unfold nds; simp only [cP]; exact bW _ mV l
end Go.Proofs.YtegioimlblnajaaGreat.Ev
namespace Go.Proofs.YtegioimlblnajaaGreat.Ev
@[simp] theorem PE (l:List ByteArray):AV.one (fD l)=true:=rfl
@[simp] theorem NL (c:Cp):(iy c).all AV.one=true:=by rw [hO]; rfl
@[simp] theorem QS (p:Pt):(jA p).all AV.one=true:=by rw [mJ,List.all_cons,NL]; rfl
@[simp] theorem Rg (p:Ps):(iz p).all AV.one=true:=by rw [jB]; rfl
@[simp] theorem Rb (p:Sl):(jD p).all AV.one=true:=rfl
@[simp] theorem Rn (p:At):(kr p).all AV.one=true:=rfl
@[simp] theorem Ra (p:RL):(mS p).all AV.one=true:=rfl
@[simp] theorem Q4 (p:Nd):(bA p).all AV.one=true:=rfl
@[simp] theorem QW (p:ST):(kj p).all AV.one=true:=rfl
@[simp] theorem Pi (p:RL):(mS p).length=2:=rfl
@[simp] theorem Po (p:Nd):(bA p).length=5:=rfl
@[simp] theorem Pa (p:ST):(kj p).length=4:=rfl
theorem hY {α:Type} {l:List α} {k:Nat} {x:α} (h:l[k]?=some x):l.drop k=x::l.drop (k+1):=by
 obtain ⟨hlt,rfl⟩:=List.getElem?_eq_some_iff.1 h
 exact List.drop_eq_getElem_cons hlt
theorem md {α:Type} {l:List α} {k:Nat} (h:k<l.length):∃ x,l[k]?=some x:=⟨l[k],List.getElem?_eq_getElem h⟩
end Go.Proofs.YtegioimlblnajaaGreat.Ev
namespace Go.Proofs.YtegioimlblnajaaGreat.Ev
def i64 (n:Int):Prop:=-9223372036854775808≤n∧n≤9223372036854775807
def Ay (N:Nat) (l:List ByteArray):Prop:=l.length≤N∧∀ s ∈ l,s.data.size≤N
mutual
def Pt.wf (N:Nat):Pt→Prop
 | .mk k c=>i64 k∧Cp.wf N c
def Cp.wf (N:Nat):Cp→Prop
 | .mk t i c a p=>t.data.size≤N∧Ay N i∧Ay N c∧(a.length≤N∧∀ x ∈ a,x.name.data.size≤N∧i64 x.op∧x.text.data.size≤N)∧p.length≤N∧Ml N p
def Ps.wf (N:Nat):Ps→Prop
 | .mk k a b l=>i64 k∧i64 a∧i64 b∧l.length≤N∧Mz N l
def Mr (N:Nat):List Pt→Prop
 | []=>True
 | p::r=>Pt.wf N p∧Mr N r
def Ml (N:Nat):List Ps→Prop
 | []=>True
 | p::r=>Ps.wf N p∧Ml N r
def Mz (N:Nat):List (List Pt)→Prop
 | []=>True
 | s::r=>(s.length≤N∧Mr N s)∧Mz N r
end
abbrev Jz:Nat:=9223372036854775807
end Go.Proofs.YtegioimlblnajaaGreat.Ev
namespace Go.Proofs.YtegioimlblnajaaGreat.Ev
@[simp] theorem oG (l:List ByteArray):aJ (fD l)=some (.lit (.int .i64 l.length)):=by simp [fD]
@[simp] theorem QG (l:List Sl):aJ (sls l)=some (.lit (.int .i64 l.length)):=by simp [sls]
@[simp] theorem QD (l:List RL):aJ (rls l)=some (.lit (.int .i64 l.length)):=by simp [rls]
@[simp] theorem jh (l:List Nd):aJ (nds l)=some (.lit (.int .i64 l.length)):=by simp [nds]
end Go.Proofs.YtegioimlblnajaaGreat.Ev
namespace Go.Proofs.YtegioimlblnajaaGreat.Ev
@[simp] theorem Q_ (s:Sl):ldL true 1 (jD s)=some (.agg (jD s)):=rfl
@[simp] theorem Q3 (s:Pt):ldL true 6 (jA s)=some (.agg (jA s)):=eA (wD s)
@[simp] theorem Rp (s:Cp):ldL true 5 (iy s)=some (.agg (iy s)):=eA (wj s)
@[simp] theorem QO (s:Ps):ldL true 4 (iz s)=some (.agg (iz s)):=eA (wo s)
@[simp] theorem Q7 (s:At):ldL true 3 (kr s)=some (.agg (kr s)):=rfl
@[simp] theorem Q6 (s:Nd):ldL true 5 (bA s)=some (.agg (bA s)):=rfl
@[simp] theorem Rk (s:RL):ldL true 2 (mS s)=some (.agg (mS s)):=rfl
@[simp] theorem Re (s:ST):ldL true 4 (kj s)=some (.agg (kj s)):=rfl
@[simp] theorem Rt (s:ByteArray × ByteArray):ldL true 2 (cF s)=some (.agg (cF s)):=rfl
@[simp] theorem RS (c:AV) (s:Sl):ax [c] 0 (jD s)=jD s:=rfl
end Go.Proofs.YtegioimlblnajaaGreat.Ev
namespace Go.Proofs.YtegioimlblnajaaGreat.Ev
@[simp] theorem N6 (p:Pt):(jA p).tail=iy p.c:=by rw [mJ]; rfl
end Go.Proofs.YtegioimlblnajaaGreat.Ev
namespace Go.Proofs.YtegioimlblnajaaGreat.Ev
@[simp] theorem Qu (x:Ps):ldL false 1 (iz x)=some (I x.kind):=by rw [jB]; rfl
@[simp] theorem Qv (x:Ps):ldL false 1 (iz x).tail=some (I x.a):=by rw [jB]; rfl
@[simp] theorem Qw (x:Ps):ldL false 1 ((iz x).drop 2)=some (I x.b):=by rw [jB]; rfl
@[simp] theorem Py (x:Ps):ldL false 1 ((iz x).drop 3)=some (.imm 1 (x.list.map jD)):=by rw [jB]; rfl
@[simp] theorem PP (x:Cp):ldL false 1 (iy x)=some (Sx x.tag):=by rw [hO]; rfl
@[simp] theorem Qi (x:Cp):ldL false 1 (iy x).tail=some (fD x.ids):=by rw [hO]; rfl
@[simp] theorem Qa (x:Cp):ldL false 1 ((iy x).drop 2)=some (fD x.classes):=by rw [hO]; rfl
@[simp] theorem PV (x:Cp):ldL false 1 ((iy x).drop 3)=some (.imm 3 (x.attrs.map kr)):=by rw [hO]; rfl
@[simp] theorem Pu (x:Cp):ldL false 1 ((iy x).drop 4)=some (.imm 4 (x.pseudos.map iz)):=by rw [hO]; rfl
@[simp] theorem Qr (x:Pt):ldL false 1 (jA x)=some (I x.comb):=by rw [mJ]; rfl
@[simp] theorem Qg (x:Sl):ldL false 1 (jD x)=some (.imm 6 (x.map jA)):=rfl
@[simp] theorem PH (x:At):ldL false 1 (kr x)=some (Sx x.name):=rfl
@[simp] theorem Ql (x:At):ldL false 1 (kr x).tail=some (I x.op):=rfl
@[simp] theorem PC (x:At):ldL false 1 ((kr x).drop 2)=some (Sx x.text):=rfl
@[simp] theorem PO (x:Nd):ldL false 1 (bA x)=some (I x.parent):=rfl
@[simp] theorem Qs (x:Nd):ldL false 1 (bA x).tail=some (Sx x.tag):=rfl
theorem wN (x:Nd):ldL false 1 ((bA x).drop 1)=some (Sx x.tag):=rfl
@[simp] theorem Hk (x:Nd):ldL false 1 ((bA x).drop 2)=some (Sx x.id):=rfl
@[simp] theorem pT (x:Nd):ldL false 1 ((bA x).drop 3)=some (fD x.classes):=rfl
@[simp] theorem pn (x:Nd):ldL false 1 ((bA x).drop 4)=some (.imm 2 (x.attrs.map cF)):=rfl
@[simp] theorem P2 (x:RL):ldL false 1 (mS x)=some (sls x.sels):=rfl
@[simp] theorem PR (x:RL):ldL false 1 (mS x).tail=some (.imm 4 (x.sets.map kj)):=rfl
@[simp] theorem Qe (x:ST):ldL false 1 (kj x)=some (I x.prop):=rfl
@[simp] theorem Qc (x:ST):ldL false 1 (kj x).tail=some (I x.kind):=rfl
@[simp] theorem PS (x:ST):ldL false 1 ((kj x).drop 2)=some (I x.n):=rfl
@[simp] theorem PJ (x:ST):ldL false 1 ((kj x).drop 3)=some (Bo x.imp):=rfl
@[simp] theorem yd (x:ByteArray × ByteArray):ldL false 1 (cF x)=some (Sx x.1):=rfl
@[simp] theorem Px (x:ByteArray × ByteArray):ldL false 1 (cF x).tail=some (Sx x.2):=rfl
theorem vP (x:ByteArray × ByteArray):ldL false 1 ((cF x).drop 1)=some (Sx x.2):=rfl
end Go.Proofs.YtegioimlblnajaaGreat.Ev
namespace Go.Proofs.YtegioimlblnajaaGreat.Ev
set_option linter.unusedVariables false
set_option linter.unusedSimpArgs false
theorem jx {sz:Nat}:∀ {rows:List (List AV)} {w:Nat} (hs:∀ r ∈ rows,r.length=sz) (h:w<rows.length),rows.flatten.drop (w*sz)=rows[w]++(rows.drop (w+1)).flatten
 | r::rs,0,hs,h=>by simp
 | r::rs,w+1,hs,h=>by
  have hr:r.length=sz:=hs r (by simp)
  have e:(w+1)*sz=sz+w*sz:=by rw [Nat.succ_mul,Nat.add_comm]
  have e1:(r++rs.flatten).drop sz=rs.flatten:=by rw [← hr]; simp
  rw [List.flatten_cons,e,← List.drop_drop,e1]
  exact jx (fun r hr=>hs r (by simp [hr])) (by simpa using h)
theorem mL {a b:List AV} {k:Nat} {xs:List AV}:ax (a++b) (a.length+k) xs=a++ax b k xs:=by
 unfold ax
 rw [Nat.add_assoc,List.take_append,List.drop_append,List.take_of_length_le (by omega),List.drop_eq_nil_of_le (by omega)]
 simp
theorem nh {a b:List AV} {k:Nat} {xs:List AV} (h:k+xs.length≤a.length):ax (a++b) k xs=ax a k xs++b:=by
 unfold ax
 rw [List.take_append_of_le_length (by omega),List.drop_append_of_le_length h]
 simp
theorem iI {sz:Nat} {xs:List AV} {k:Nat} (hk:k+xs.length≤sz):∀ {rows:List (List AV)} {w:Nat} (hs:∀ r ∈ rows,r.length=sz) (h:w<rows.length),ax rows.flatten (w*sz+k) xs=(rows.set w (ax rows[w] k xs)).flatten
 | r::rs,0,hs,h=>by
  have hr:r.length=sz:=hs r (by simp)
  simp only [Nat.zero_mul,Nat.zero_add,List.flatten_cons,List.getElem_cons_zero,List.set_cons_zero]
  exact nh (by omega)
 | r::rs,w+1,hs,h=>by
  have hr:r.length=sz:=hs r (by simp)
  have e:(w+1)*sz+k=r.length+(w*sz+k):=by rw [Nat.succ_mul,hr]; omega
  simp only [List.flatten_cons,List.getElem_cons_succ,List.set_cons_succ]
  rw [e,mL,iI hk (fun r hr=>hs r (by simp [hr])) (by simpa using h)]
end Go.Proofs.YtegioimlblnajaaGreat.Ev
namespace Go.Proofs.YtegioimlblnajaaGreat.Ev
set_option linter.unusedVariables false
set_option linter.unusedSimpArgs false
def Nd.none:Nd:=⟨0,⟨#[]⟩,⟨#[]⟩,[],[]⟩
def dS (L:List Nd) (i:Nat):Nd:=L.getD i Nd.none
def par (L:List Nd) (i:Nat):Int:=(dS L i).parent
def iW (L:List Nd) (m e:Nat):List Nat:=(List.range m).filter fun j=>decide (0<j)&&decide (par L j=e)
def wA (L:List Nd) (e:Nat):List Nat:=(List.range e).filter fun j=>decide (0<j)&&decide (par L j=par L e)
def vb (l:List Nat):Int:=match l.getLast? with | some j=>j | none=>-1
def dT (L:List Nd) (e:Nat):Int:=(wA L e).length+1
def ng (L:List Nd) (e:Nat):Int:=vb (wA L e)
structure dg (L:List Nd) (m:Nat) (d:List Nat):Prop where
 len:d.length=m
 le:m≤L.length
 root:0<m→par L 0=-1∧d[0]?=some 0
 step:∀ i,0<i→i<m→∃ p x:Nat,par L i=p∧p<i∧d[p]?=some x∧d[i]?=some (x+1)∧x+1≤256
theorem dg.nil (L:List Nd):dg L 0 []:=⟨rfl,Nat.zero_le _,fun h=>absurd h (Nat.lt_irrefl 0),fun i h0 h=>absurd h (Nat.not_lt_zero i)⟩
theorem dg.first {L:List Nd} (hl:0<L.length) (h:par L 0=-1):dg L 1 [0]:=⟨rfl,hl,fun _=>⟨h,rfl⟩,fun i h0 h=>by omega⟩
theorem dg.next {L:List Nd} {m p x:Nat} {d:List Nat} (h:dg L m d) (hm:0<m) (hl:m<L.length) (hp:par L m=p) (hlt:p<m) (hx:d[p]?=some x) (h256:x+1≤256):dg L (m+1) (d++[x+1]):=by
 have hlen:=h.len
 refine ⟨by simp [hlen],hl,fun _=>⟨(h.root hm).1,?_⟩,fun i h0 hi=>?_⟩
 ·rw [List.getElem?_append_left (by omega)]; exact (h.root hm).2
 ·by_cases him:i<m
  ·obtain ⟨p',x',e1,e2,e3,e4,e5⟩:=h.step i h0 him
   exact ⟨p',x',e1,e2,by rw [List.getElem?_append_left (by omega)]; exact e3,by rw [List.getElem?_append_left (by omega)]; exact e4,e5⟩
  ·have:i=m:=by omega
   subst this
   exact ⟨p,x,hp,hlt,by rw [List.getElem?_append_left (by omega)]; exact hx,by rw [List.getElem?_append_right (by omega),hlen]; simp,h256⟩
theorem ni (L:List Nd) (m e:Nat):iW L (m+1) e=iW L m e++if 0<m∧par L m=e then [m] else []:=by
 unfold iW
 rw [List.range_succ,List.filter_append]
 congr 1
 by_cases h:0<m∧par L m=(e:Int)
 ·simp [h]
 ·rw [if_neg h]
  simp only [List.filter_cons,List.filter_nil]
  rw [if_neg (by simpa using h)]
theorem qC {L:List Nd} {m p:Nat} (hp:par L m=p):iW L m p=wA L m:=by unfold iW wA; rw [hp]
theorem Kt {L:List Nd} {N:Nat} {d:List Nat} (hB:dg L N d) {m:Nat} (hm:m≤N) {e:Nat} (he:m≤e+1):iW L m e=[]:=by
 unfold iW
 rw [List.filter_eq_nil_iff]
 intro j hj
 simp only [List.mem_range] at hj
 simp only [Bool.and_eq_true,decide_eq_true_eq,not_and]
 intro h0 h1
 obtain ⟨p,x,e1,e2,_⟩:=hB.step j h0 (by omega)
 rw [e1] at h1
 omega
def ia (L:List Nd) (d:List Nat) (i:Nat) (c:AV) (low:Nd→Nd):List AV:=bA (low (dS L i))++[c,I (d.getD i 0),I (dT L i),I (ng L i)]
@[simp] theorem z9 (L:List Nd) (d:List Nat) (i:Nat) (c:AV) (low:Nd→Nd):(ia L d i c low).length=9:=rfl
def dr (L:List Nd) (d:List Nat) (ch:List AV) (low:Nd→Nd):List (List AV):=ch.mapIdx fun i c=>ia L d i c low
theorem eF (L:List Nd) (d:List Nat) (ch:List AV) (low:Nd→Nd):(dr L d ch low).length=ch.length:=by simp [dr]
theorem mh {L:List Nd} {d:List Nat} {ch:List AV} {low:Nd→Nd}:∀ row ∈ dr L d ch low,row.length=9:=by
 intro row h
 unfold dr at h
 obtain ⟨i,hi,rfl⟩:=List.mem_mapIdx.1 h
 rfl
theorem nM {L:List Nd} {d:List Nat} {ch:List AV} {low:Nd→Nd} {k:Nat} {c:AV} (h:ch[k]?=some c):(dr L d ch low)[k]?=some (ia L d k c low):=by
 unfold dr
 rw [List.getElem?_mapIdx,h]; rfl
theorem wE {L:List Nd} {d:List Nat} {ch:List AV} {low:Nd→Nd} {k:Nat} {c':AV}:dr L d (ch.set k c') low=(dr L d ch low).set k (ia L d k c' low):=by
 apply List.ext_getElem?
 intro i
 unfold dr
 rw [List.getElem?_mapIdx,List.getElem?_set,List.getElem?_set,List.getElem?_mapIdx]
 by_cases hi:k=i
 ·subst hi
  simp only [if_true,List.length_mapIdx]
  by_cases hk:k<ch.length
  ·simp [hk]
  ·simp [hk]
 ·simp [hi]
theorem wS {L:List Nd} {d:List Nat} {ch:List AV} {low:Nd→Nd} {c:AV}:dr L d (ch++[c]) low=dr L d ch low++[ia L d ch.length c low]:=by
 simp [dr,List.mapIdx_append]
theorem uh {L:List Nd} {d:List Nat} {ch:List AV} {low:Nd→Nd} {k:Nat} {c:AV} (h:ch[k]?=some c):∃ r,(dr L d ch low).flatten.drop (k*9)=ia L d k c low++r:=by
 have hk:=(List.getElem?_eq_some_iff.1 h).1
 have e:=nM (L:=L) (d:=d) (low:=low) h
 have hk':k<(dr L d ch low).length:=by rw [eF]; exact hk
 refine ⟨((dr L d ch low).drop (k+1)).flatten,?_⟩
 rw [jx mh hk']
 congr 1
 rw [List.getElem?_eq_getElem hk'] at e
 exact Option.some.inj e
theorem kR {L:List Nd} {d:List Nat} {ch:List AV} {low:Nd→Nd} {k:Nat} {c:AV} (h:ch[k]?=some c) (j:Nat) (hj:j≤9):∃ r,(dr L d ch low).flatten.drop (k*9+j)=(ia L d k c low).drop j++r:=by
 obtain ⟨r,e⟩:=uh (L:=L) (d:=d) (low:=low) h
 refine ⟨r,?_⟩
 rw [← List.drop_drop,e,List.drop_append_of_le_length (by simpa using hj)]
theorem wb {L:List Nd} {d:List Nat} {ch:List AV} {low:Nd→Nd} {k:Nat} {c c':AV} (h:ch[k]?=some c):ax (dr L d ch low).flatten (k*9+5) [c']=(dr L d (ch.set k c') low).flatten:=by
 have hk:=(List.getElem?_eq_some_iff.1 h).1
 have hk':k<(dr L d ch low).length:=by rw [eF]; exact hk
 rw [iI (sz:=9) (by simp) mh hk',wE]
 congr 2
 have e:=nM (L:=L) (d:=d) (low:=low) h
 rw [List.getElem?_eq_getElem hk'] at e
 rw [Option.some.inj e]
 rfl
end Go.Proofs.YtegioimlblnajaaGreat.Ev
namespace Go.Proofs.YtegioimlblnajaaGreat.Ev
set_option linter.unusedVariables false
set_option linter.unusedSimpArgs false
abbrev tl (s:ByteArray):List UInt8:=s.data.toList
def mk (l:List UInt8):ByteArray:=⟨l.toArray⟩
@[simp] theorem RP (l:List UInt8):tl (mk l)=l:=by simp [tl,mk]
@[simp] theorem RD (s:ByteArray):mk (tl s)=s:=by simp [tl,mk]
def wht (c:UInt8):Bool:=c.toNat == 9||(c.toNat == 10||(c.toNat == 12||(c.toNat == 13||c.toNat == 32)))
def nw (c:UInt8):Bool:=!wht c
end Go.Proofs.YtegioimlblnajaaGreat.Ev
namespace Go.Proofs.YtegioimlblnajaaGreat.Ev
set_option linter.unusedVariables false
set_option linter.unusedSimpArgs false
inductive Sk where
 | same
 | sl (sz:Nat) (row:List Sk)
 | agg (row:List Sk)
 | ptr (row:List Sk)
def jl (sz:Nat) (g:List AV→Option (List AV)):Nat→List AV→Option (List (List AV))
 | 0,_=>some []
 | n+1,l=>match g (l.take sz) with
  | some r=>match jl sz g n (l.drop sz) with
   | some rs=>some (r::rs)
   | none=>none
  | none=>none
mutual
def wd (H:Hp):Sk→AV→Option AV
 | .same,x=>bif cP x then some x else none
 | .sl sz row,x=>match x with
  | .lit (.slice none 0 0)=>some (.imm sz [])
  | .emp=>some (.imm sz [])
  | .se _ _ _=>some (.imm sz [])
  | .imm s rows=>bif cP (.imm s rows) then some (.imm s rows) else none
  | .sl id off s len _=>bif Nat.beq s sz then match H.get id with
    | some (.cells cs _)=>match jl sz (fun l=>frzR H row l) len (cs.drop off) with
     | some rows=>bif Nat.beq row.length sz then some (.imm sz rows) else none
     | none=>none
    | _=>none
   else none
  | _=>none
 | .agg row,x=>match x with
  | .agg xs=>match frzR H row xs with
   | some ys=>some (.agg ys)
   | none=>none
  | _=>none
 | .ptr row,x=>match x with
  | .ptr id off=>match H.get id with
   | some (.cells cs _)=>match frzR H row ((cs.drop off).take row.length) with
    | some ys=>some (.ip ys)
    | none=>none
   | _=>none
  | _=>none
def frzR (H:Hp):List Sk→List AV→Option (List AV)
 | [],xs=>match xs with
  | []=>some []
  | _=>none
 | k::ks,xs=>match xs with
  | x::xs=>match wd H k x with
   | some y=>match frzR H ks xs with
    | some ys=>some (y::ys)
    | none=>none
   | none=>none
  | []=>none
end
theorem lJ {sz:Nat} {g:List AV→Option (List AV)} {H:Hp} (hg:∀ l r,g l=some r→FzL H l r):∀ (n:Nat) (l:List AV) (rows:List (List AV)),jl sz g n l=some rows→rows.length=n∧∀ (i:Nat) (row:List AV),rows[i]?=some row→FzL H ((l.drop (i*sz)).take sz) row
 | 0,l,rows,h=>by
  simp only [jl,Option.some.injEq] at h
  subst h
  exact ⟨rfl,fun i row h=>by simp at h⟩
 | n+1,l,rows,h=>by
  simp only [jl] at h
  split at h
  case h_2=>cases h
  rename_i r hr
  split at h
  case h_2=>cases h
  rename_i rs hrs
  simp only [Option.some.injEq] at h
  subst h
  obtain ⟨h1,h2⟩:=lJ hg n _ _ hrs
  refine ⟨by simp [h1],fun i row hi=>?_⟩
  cases i with
  | zero =>
   simp at hi
   subst hi
   simpa using hg _ _ hr
  | succ i =>
   simp at hi
   have:=h2 i row hi
   rw [List.drop_drop] at this
   rw [Nat.succ_mul,Nat.add_comm]
   exact this
theorem FzL.len {H:Hp} {xs ys:List AV} (h:FzL H xs ys):xs.length=ys.length:=h.get.1
mutual
theorem vJ {H:Hp}:∀ (k:Sk) (x y:AV),wd H k x=some y→Fz H x y
 | .same,x,y,h=>by
  simp only [wd] at h
  cases hn:cP x with
  | false=>rw [hn] at h; cases h
  | true=>rw [hn] at h; cases h; exact .refl hn
 | .sl sz row,x,y,h=>by
  simp only [wd] at h
  split at h
  ·cases h; exact .nil
  ·cases h; exact .emp
  ·cases h; exact .se
  ·rename_i s rows
   cases hn:cP (.imm s rows) with
   | false=>rw [hn] at h; cases h
   | true=>rw [hn] at h; cases h; exact .refl hn
  ·rename_i id off s len cap
   cases hs:Nat.beq s sz with
   | false=>rw [hs] at h; cases h
   | true =>
    rw [hs] at h
    have:=Nat.eq_of_beq_eq_true hs
    subst this
    simp only [cond_true] at h
    split at h
    case h_2=>cases h
    rename_i cs ex hg
    split at h
    case h_2=>cases h
    rename_i rows hr
    cases hl:Nat.beq row.length s with
    | false=>rw [hl] at h; cases h
    | true =>
     rw [hl] at h
     cases h
     have hlen:=Nat.eq_of_beq_eq_true hl
     obtain ⟨h1,h2⟩:=lJ (fun l r hh=>mO row l r hh) _ _ _ hr
     have hrow:∀ (i:Nat) (r:List AV),rows[i]?=some r→r.length=s:=by
      intro i r hi
      obtain ⟨_,hh⟩:=lJ (g:=fun l=>frzR H row l) (fun l r hh=>mO row l r hh) _ _ _ hr
      exact n8 (fun l r hh=>by rw [← hlen]; exact te row l r hh) _ _ _ hr i r hi
     refine .sl (fun i j=>cs.getD (off+(i*s+j)) .any) hg h1 hrow (fun i r j y hi hy=>?_) (fun i r j y hi hy=>?_)
     ·obtain ⟨x,hx,_⟩:=(h2 i r hi).get.2 j y hy
      have hj:j<s:=by rw [← hrow i r hi]; exact (List.getElem?_eq_some_iff.1 hy).1
      rw [List.getElem?_take,if_pos hj,List.getElem?_drop,List.getElem?_drop] at hx
      simp [hx]
     ·obtain ⟨x,hx,hf⟩:=(h2 i r hi).get.2 j y hy
      have hj:j<s:=by rw [← hrow i r hi]; exact (List.getElem?_eq_some_iff.1 hy).1
      rw [List.getElem?_take,if_pos hj,List.getElem?_drop,List.getElem?_drop] at hx
      simp [hx]
      exact hf
  ·cases h
 | .agg row,x,y,h=>by
  simp only [wd] at h
  split at h
  case h_2=>cases h
  split at h
  case h_2=>cases h
  rename_i hr
  cases h
  exact Fz.aggL (mO row _ _ hr)
 | .ptr row,x,y,h=>by
  simp only [wd] at h
  split at h
  case h_2=>cases h
  rename_i id off
  split at h
  case h_2=>cases h
  rename_i cs ex hg
  split at h
  case h_2=>cases h
  rename_i ys hr
  cases h
  have hl:=(mO row _ _ hr).get
  refine .ptr (fun j=>cs.getD (off+j) .any) hg (fun j y hy=>?_) (fun j y hy=>?_)
  ·obtain ⟨x,hx,_⟩:=hl.2 j y hy
   rw [List.getElem?_take] at hx
   split at hx
   ·rw [List.getElem?_drop] at hx
    simp [hx]
   ·cases hx
  ·obtain ⟨x,hx,hf⟩:=hl.2 j y hy
   rw [List.getElem?_take] at hx
   split at hx
   ·rw [List.getElem?_drop] at hx
    simp [hx]
    exact hf
   ·cases hx
theorem mO {H:Hp}:∀ (ks:List Sk) (xs ys:List AV),frzR H ks xs=some ys→FzL H xs ys
 | [],xs,ys,h=>by
  simp only [frzR] at h
  split at h
  ·cases h; exact .nil
  ·cases h
 | k::ks,xs,ys,h=>by
  simp only [frzR] at h
  split at h
  case h_2=>cases h
  rename_i x xs
  split at h
  case h_2=>cases h
  rename_i y hy
  split at h
  case h_2=>cases h
  rename_i zs hz
  cases h
  exact .cons (vJ k x y hy) (mO ks xs zs hz)
theorem te {H:Hp}:∀ (ks:List Sk) (xs ys:List AV),frzR H ks xs=some ys→ys.length=ks.length
 | [],xs,ys,h=>by
  simp only [frzR] at h
  split at h
  ·cases h; rfl
  ·cases h
 | k::ks,xs,ys,h=>by
  simp only [frzR] at h
  split at h
  case h_2=>cases h
  split at h
  case h_2=>cases h
  split at h
  case h_2=>cases h
  rename_i zs hz
  cases h
  simp [te ks _ _ hz]
theorem n8 {sz:Nat} {g:List AV→Option (List AV)} (hg:∀ l r,g l=some r→r.length=sz):∀ (n:Nat) (l:List AV) (rows:List (List AV)),jl sz g n l=some rows→∀ (i:Nat) (r:List AV),rows[i]?=some r→r.length=sz
 | 0,l,rows,h,i,r,hi=>by
  simp only [jl,Option.some.injEq] at h
  subst h
  simp at hi
 | n+1,l,rows,h,i,r,hi=>by
  simp only [jl] at h
  split at h
  case h_2=>cases h
  rename_i r0 hr0
  split at h
  case h_2=>cases h
  rename_i rs hrs
  cases h
  cases i with
  | zero=>simp at hi; subst hi; exact hg _ _ hr0
  | succ i=>exact n8 hg n _ _ hrs i r (by simpa using hi)
end
def O0:Sk:=.sl 1 [.same]
def PF:Sk:=.sl 2 [.same,.same]
def Rc:List Sk:=[.same,.same,.same,O0,PF]
def Qj:Sk:=.sl 5 Rc
end Go.Proofs.YtegioimlblnajaaGreat.Ev
namespace Go.Proofs.YtegioimlblnajaaGreat.Ev
theorem aq.conv {P:Program} {σ:Sig} {f:Nat} {xs ys:List AV} {r:AV} {H H2 H3:Hp} (k:Wk σ ys H xs H2) (h:aq P σ f xs H2 r H3):aq P σ f ys H r H3:=by
 refine ⟨h.1,fun B w0 E w vs hσ hst hxs=>?_⟩
 obtain ⟨E2,h1,h2,h3⟩:=k hσ hst hxs
 refine (h.2 B w0 E2 w vs hσ h2 h3).mono fun e w' hh=>?_
 obtain ⟨E',v,rfl,hext,st2,hrel⟩:=hh
 exact ⟨E',v,rfl,h1.trans hext,st2,hrel⟩
def Hp.bare (n:Nat):Hp:=⟨n,.leaf⟩
@[simp] theorem Hp.bare_n (n:Nat):(Hp.bare n).n=n:=rfl
@[simp] theorem Hp.bare_get (n j:Nat):(Hp.bare n).get j=none:=by simp [Hp.bare,Hp.get,Tr.get]
theorem FzL.t {H:Hp} {xs ys:List AV} (h:FzL H xs ys):FzT H xs ys:=by
 induction h with
 | nil=>exact .nil
 | cons h hs ih=>exact .fz h ih
theorem aq.drop {P:Program} {σ:Sig} {f:Nat} {xs ys:List AV} {r:AV} {H:Hp} (h:∀ H,aq P σ f xs H r H) (hx:FzL H ys xs):aq P σ f ys H r (Hp.bare H.n) :=
 aq.conv (Wk.frz (H2:=Hp.bare H.n) (Hd:=H) rfl rfl (fun id k hk=>⟨hk,by simp⟩) (fun id k2 hk=>by simp at hk) hx.t) (h _)
theorem aa {α:Type} {o:Option α} {x:α} {K:α→Prop} (h:o=some x) (k:K x):bnd o K:=by rw [h]; exact k
end Go.Proofs.YtegioimlblnajaaGreat.Ev
namespace Go.Proofs.YtegioimlblnajaaGreat.Ev
set_option maxRecDepth 100000
set_option maxHeartbeats 4000000
noncomputable def ti1:TI:=⟨.func,1,8,[.nilFunc]⟩
theorem NC:af Tryz.prog 1=some ti1:=by kernel_rfl
noncomputable def ti2:TI:=⟨.int .i64,1,8,[.int .i64 0]⟩
theorem N5:af Tryz.prog 2=some ti2:=by kernel_rfl
noncomputable def ti3:TI:=⟨.int .i64,1,8,[.int .i64 0]⟩
theorem NI:af Tryz.prog 3=some ti3:=by kernel_rfl
noncomputable def ti4:TI:=⟨.bool,1,1,[.bool false]⟩
theorem MF:af Tryz.prog 4=some ti4:=by kernel_rfl
noncomputable def ti5:TI:=⟨.int .u8,1,1,[.int .u8 0]⟩
theorem NB:af Tryz.prog 5=some ti5:=by kernel_rfl
noncomputable def ti6:TI:=⟨.int .u8,1,1,[.int .u8 0]⟩
theorem NH:af Tryz.prog 6=some ti6:=by kernel_rfl
noncomputable def ti7:TI:=⟨.struct [(0,2),(1,3),(2,4),(3,6)],4,24,[.int .i64 0,.int .i64 0,.bool false,.int .u8 0]⟩
theorem NJ:af Tryz.prog 7=some ti7:=by kernel_rfl
noncomputable def ti8:TI:=⟨.struct [(0,2),(1,3),(2,4),(3,6)],4,24,[.int .i64 0,.int .i64 0,.bool false,.int .u8 0]⟩
theorem MD:af Tryz.prog 8=some ti8:=by kernel_rfl
noncomputable def ti9:TI:=⟨.string,1,16,[.string ⟨#[]⟩]⟩
theorem Ny:af Tryz.prog 9=some ti9:=by kernel_rfl
noncomputable def Nj:TI:=⟨.string,1,16,[.string ⟨#[]⟩]⟩
theorem KR:af Tryz.prog 10=some Nj:=by kernel_rfl
noncomputable def NA:TI:=⟨.string,1,16,[.string ⟨#[]⟩]⟩
theorem JG:af Tryz.prog 11=some NA:=by kernel_rfl
noncomputable def MX:TI:=⟨.int .u64,1,8,[.int .u64 0]⟩
theorem JH:af Tryz.prog 12=some MX:=by kernel_rfl
noncomputable def OX:TI:=⟨.struct [(0,9),(1,12)],2,24,[.string ⟨#[]⟩,.int .u64 0]⟩
theorem L6:af Tryz.prog 13=some OX:=by kernel_rfl
noncomputable def NR:TI:=⟨.struct [(0,9),(1,12)],2,24,[.string ⟨#[]⟩,.int .u64 0]⟩
theorem Lv:af Tryz.prog 14=some NR:=by kernel_rfl
noncomputable def OR:TI:=⟨.ptr 343,1,8,[.pointer none]⟩
theorem LC:af Tryz.prog 15=some OR:=by kernel_rfl
noncomputable def Np:TI:=⟨.ptr 346,1,8,[.pointer none]⟩
theorem Lo:af Tryz.prog 16=some Np:=by kernel_rfl
noncomputable def Om:TI:=⟨.ptr 354,1,8,[.pointer none]⟩
theorem KP:af Tryz.prog 17=some Om:=by kernel_rfl
noncomputable def OK:TI:=⟨.struct [(0,17)],1,8,[.pointer none]⟩
theorem KE:af Tryz.prog 18=some OK:=by kernel_rfl
noncomputable def N0:TI:=⟨.struct [(0,17)],1,8,[.pointer none]⟩
theorem LP:af Tryz.prog 19=some N0:=by kernel_rfl
noncomputable def Ot:TI:=⟨.int .i32,1,4,[.int .i32 0]⟩
theorem Jy:af Tryz.prog 21=some Ot:=by kernel_rfl
noncomputable def Ky:TI:=⟨.slice 56,1,24,[.slice none 0 0]⟩
theorem KX:af Tryz.prog 22=some Ky:=by kernel_rfl
noncomputable def OC:TI:=⟨.slice 152,1,24,[.slice none 0 0]⟩
theorem Le:af Tryz.prog 23=some OC:=by kernel_rfl
noncomputable def O2:TI:=⟨.slice 33,1,24,[.slice none 0 0]⟩
theorem LG:af Tryz.prog 24=some O2:=by kernel_rfl
noncomputable def N1:TI:=⟨.func,1,8,[.nilFunc]⟩
theorem Kc:af Tryz.prog 25=some N1:=by kernel_rfl
noncomputable def Ov:TI:=⟨.func,1,8,[.nilFunc]⟩
theorem LV:af Tryz.prog 26=some Ov:=by kernel_rfl
noncomputable def OH:TI:=⟨.ptr 97,1,8,[.pointer none]⟩
theorem Kl:af Tryz.prog 27=some OH:=by kernel_rfl
noncomputable def Nx:TI:=⟨.ptr 81,1,8,[.pointer none]⟩
theorem JR:af Tryz.prog 28=some Nx:=by kernel_rfl
noncomputable def Nw:TI:=⟨.func,1,8,[.nilFunc]⟩
theorem Ki:af Tryz.prog 30=some Nw:=by kernel_rfl
noncomputable def MT:TI:=⟨.func,1,8,[.nilFunc]⟩
theorem JQ:af Tryz.prog 31=some MT:=by kernel_rfl
noncomputable def OL:TI:=⟨.struct [(0,3),(1,3)],2,16,[.int .i64 0,.int .i64 0]⟩
theorem Jn:af Tryz.prog 32=some OL:=by kernel_rfl
noncomputable def ON:TI:=⟨.struct [(0,3),(1,3)],2,16,[.int .i64 0,.int .i64 0]⟩
theorem KI:af Tryz.prog 33=some ON:=by kernel_rfl
noncomputable def OZ:TI:=⟨.func,1,8,[.nilFunc]⟩
theorem JU:af Tryz.prog 34=some OZ:=by kernel_rfl
noncomputable def OV:TI:=⟨.func,1,8,[.nilFunc]⟩
theorem Lh:af Tryz.prog 35=some OV:=by kernel_rfl
noncomputable def NP:TI:=⟨.ptr 109,1,8,[.pointer none]⟩
theorem KT:af Tryz.prog 36=some NP:=by kernel_rfl
noncomputable def N4:TI:=⟨.func,1,8,[.nilFunc]⟩
theorem K8:af Tryz.prog 38=some N4:=by kernel_rfl
noncomputable def Nf:TI:=⟨.slice 42,1,24,[.slice none 0 0]⟩
theorem Lb:af Tryz.prog 39=some Nf:=by kernel_rfl
noncomputable def Na:TI:=⟨.func,1,8,[.nilFunc]⟩
theorem JN:af Tryz.prog 40=some Na:=by kernel_rfl
noncomputable def Nq:TI:=⟨.array 8 3,8,64,[.int .i64 0,.int .i64 0,.int .i64 0,.int .i64 0,.int .i64 0,.int .i64 0,.int .i64 0,.int .i64 0]⟩
theorem Jq:af Tryz.prog 41=some Nq:=by kernel_rfl
noncomputable def OQ:TI:=⟨.array 8 3,8,64,[.int .i64 0,.int .i64 0,.int .i64 0,.int .i64 0,.int .i64 0,.int .i64 0,.int .i64 0,.int .i64 0]⟩
theorem Lf:af Tryz.prog 42=some OQ:=by kernel_rfl
noncomputable def Nl:TI:=⟨.int .i64,1,8,[.int .i64 0]⟩
theorem J4:af Tryz.prog 43=some Nl:=by kernel_rfl
noncomputable def MN:TI:=⟨.func,1,8,[.nilFunc]⟩
theorem JM:af Tryz.prog 45=some MN:=by kernel_rfl
noncomputable def MA:TI:=⟨.func,1,8,[.nilFunc]⟩
theorem KB:af Tryz.prog 46=some MA:=by kernel_rfl
noncomputable def MZ:TI:=⟨.func,1,8,[.nilFunc]⟩
theorem Ks:af Tryz.prog 47=some MZ:=by kernel_rfl
noncomputable def O3:TI:=⟨.slice 3,1,24,[.slice none 0 0]⟩
theorem KZ:af Tryz.prog 48=some O3:=by kernel_rfl
noncomputable def ND:TI:=⟨.func,1,8,[.nilFunc]⟩
theorem Jh:af Tryz.prog 49=some ND:=by kernel_rfl
noncomputable def Oh:TI:=⟨.func,1,8,[.nilFunc]⟩
theorem JV:af Tryz.prog 50=some Oh:=by kernel_rfl
noncomputable def Nv:TI:=⟨.slice 4,1,24,[.slice none 0 0]⟩
theorem J5:af Tryz.prog 51=some Nv:=by kernel_rfl
noncomputable def ME:TI:=⟨.func,1,8,[.nilFunc]⟩
theorem Lk:af Tryz.prog 52=some ME:=by kernel_rfl
noncomputable def Ln:TI:=⟨.slice 9,1,24,[.slice none 0 0]⟩
theorem Je:af Tryz.prog 53=some Ln:=by kernel_rfl
noncomputable def Kz:TI:=⟨.slice 127,1,24,[.slice none 0 0]⟩
theorem Kf:af Tryz.prog 54=some Kz:=by kernel_rfl
noncomputable def Oz:TI:=⟨.struct [(0,3),(1,9),(2,9),(3,53),(4,54)],5,88,[.int .i64 0,.string ⟨#[]⟩,.string ⟨#[]⟩,.slice none 0 0,.slice none 0 0]⟩
theorem JZ:af Tryz.prog 55=some Oz:=by kernel_rfl
noncomputable def LU:TI:=⟨.struct [(0,3),(1,9),(2,9),(3,53),(4,54)],5,88,[.int .i64 0,.string ⟨#[]⟩,.string ⟨#[]⟩,.slice none 0 0,.slice none 0 0]⟩
theorem KA:af Tryz.prog 56=some LU:=by kernel_rfl
noncomputable def OI:TI:=⟨.func,1,8,[.nilFunc]⟩
theorem K5:af Tryz.prog 57=some OI:=by kernel_rfl
noncomputable def NW:TI:=⟨.func,1,8,[.nilFunc]⟩
theorem L_:af Tryz.prog 58=some NW:=by kernel_rfl
noncomputable def NV:TI:=⟨.func,1,8,[.nilFunc]⟩
theorem LW:af Tryz.prog 59=some NV:=by kernel_rfl
noncomputable def NZ:TI:=⟨.ptr 130,1,8,[.pointer none]⟩
theorem KN:af Tryz.prog 60=some NZ:=by kernel_rfl
noncomputable def OS:TI:=⟨.func,1,8,[.nilFunc]⟩
theorem J8:af Tryz.prog 62=some OS:=by kernel_rfl
noncomputable def OJ:TI:=⟨.func,1,8,[.nilFunc]⟩
theorem J_:af Tryz.prog 64=some OJ:=by kernel_rfl
noncomputable def MR:TI:=⟨.slice 90,1,24,[.slice none 0 0]⟩
theorem Kw:af Tryz.prog 65=some MR:=by kernel_rfl
noncomputable def Od:TI:=⟨.func,1,8,[.nilFunc]⟩
theorem Ls:af Tryz.prog 66=some Od:=by kernel_rfl
noncomputable def MI:TI:=⟨.func,1,8,[.nilFunc]⟩
theorem Jx:af Tryz.prog 67=some MI:=by kernel_rfl
noncomputable def Oy:TI:=⟨.func,1,8,[.nilFunc]⟩
theorem KL:af Tryz.prog 68=some Oy:=by kernel_rfl
noncomputable def MC:TI:=⟨.func,1,8,[.nilFunc]⟩
theorem Lw:af Tryz.prog 69=some MC:=by kernel_rfl
noncomputable def Nu:TI:=⟨.func,1,8,[.nilFunc]⟩
theorem Jd:af Tryz.prog 71=some Nu:=by kernel_rfl
noncomputable def Nr:TI:=⟨.func,1,8,[.nilFunc]⟩
theorem Kb:af Tryz.prog 72=some Nr:=by kernel_rfl
noncomputable def OG:TI:=⟨.func,1,8,[.nilFunc]⟩
theorem KD:af Tryz.prog 73=some OG:=by kernel_rfl
noncomputable def Oa:TI:=⟨.func,1,8,[.nilFunc]⟩
theorem LL:af Tryz.prog 74=some Oa:=by kernel_rfl
noncomputable def Oj:TI:=⟨.slice 156,1,24,[.slice none 0 0]⟩
theorem Ke:af Tryz.prog 75=some Oj:=by kernel_rfl
noncomputable def MV:TI:=⟨.slice 121,1,24,[.slice none 0 0]⟩
theorem J6:af Tryz.prog 76=some MV:=by kernel_rfl
noncomputable def Nb:TI:=⟨.slice 228,1,24,[.slice none 0 0]⟩
theorem LX:af Tryz.prog 77=some Nb:=by kernel_rfl
noncomputable def NY:TI:=⟨.struct [(0,77)],1,24,[.slice none 0 0]⟩
theorem J9:af Tryz.prog 78=some NY:=by kernel_rfl
noncomputable def No:TI:=⟨.struct [(0,77)],1,24,[.slice none 0 0]⟩
theorem Kg:af Tryz.prog 79=some No:=by kernel_rfl
noncomputable def N2:TI:=⟨.struct [(0,36),(1,23),(2,75),(3,76),(4,3),(5,79),(6,48),(7,51),(8,65)],9,184,[.pointer none,.slice none 0 0,.slice none 0 0,.slice none 0 0,.int .i64 0,.slice none 0 0,.slice none 0 0,.slice none 0 0,.slice none 0 0]⟩
theorem Ly:af Tryz.prog 80=some N2:=by kernel_rfl
noncomputable def Ox:TI:=⟨.struct [(0,36),(1,23),(2,75),(3,76),(4,3),(5,79),(6,48),(7,51),(8,65)],9,184,[.pointer none,.slice none 0 0,.slice none 0 0,.slice none 0 0,.int .i64 0,.slice none 0 0,.slice none 0 0,.slice none 0 0,.slice none 0 0]⟩
theorem Li:af Tryz.prog 81=some Ox:=by kernel_rfl
noncomputable def NX:TI:=⟨.func,1,8,[.nilFunc]⟩
theorem Lp:af Tryz.prog 82=some NX:=by kernel_rfl
noncomputable def Nm:TI:=⟨.ptr 158,1,8,[.pointer none]⟩
theorem LZ:af Tryz.prog 83=some Nm:=by kernel_rfl
noncomputable def NQ:TI:=⟨.func,1,8,[.nilFunc]⟩
theorem Kq:af Tryz.prog 84=some NQ:=by kernel_rfl
noncomputable def N3:TI:=⟨.array 64 4,64,64,[.bool false,.bool false,.bool false,.bool false,.bool false,.bool false,.bool false,.bool false,.bool false,.bool false,.bool false,.bool false,.bool false,.bool false,.bool false,.bool false,.bool false,.bool false,.bool false,.bool false,.bool false,.bool false,.bool false,.bool false,.bool false,.bool false,.bool false,.bool false,.bool false,.bool false,.bool false,.bool false,.bool false,.bool false,.bool false,.bool false,.bool false,.bool false,.bool false,.bool false,.bool false,.bool false,.bool false,.bool false,.bool false,.bool false,.bool false,.bool false,.bool false,.bool false,.bool false,.bool false,.bool false,.bool false,.bool false,.bool false,.bool false,.bool false,.bool false,.bool false,.bool false,.bool false,.bool false,.bool false]⟩
theorem JX:af Tryz.prog 85=some N3:=by kernel_rfl
noncomputable def Ni:TI:=⟨.func,1,8,[.nilFunc]⟩
theorem KO:af Tryz.prog 86=some Ni:=by kernel_rfl
noncomputable def OW:TI:=⟨.ptr 164,1,8,[.pointer none]⟩
theorem KQ:af Tryz.prog 87=some OW:=by kernel_rfl
noncomputable def Nh:TI:=⟨.func,1,8,[.nilFunc]⟩
theorem Lz:af Tryz.prog 88=some Nh:=by kernel_rfl
noncomputable def MY:TI:=⟨.struct [(0,3),(1,3),(2,4),(3,4)],4,24,[.int .i64 0,.int .i64 0,.bool false,.bool false]⟩
theorem K1:af Tryz.prog 89=some MY:=by kernel_rfl
noncomputable def Oi:TI:=⟨.struct [(0,3),(1,3),(2,4),(3,4)],4,24,[.int .i64 0,.int .i64 0,.bool false,.bool false]⟩
theorem Ji:af Tryz.prog 90=some Oi:=by kernel_rfl
noncomputable def NG:TI:=⟨.func,1,8,[.nilFunc]⟩
theorem Jm:af Tryz.prog 91=some NG:=by kernel_rfl
noncomputable def NF:TI:=⟨.slice 190,1,24,[.slice none 0 0]⟩
theorem Km:af Tryz.prog 92=some NF:=by kernel_rfl
noncomputable def Nn:TI:=⟨.struct [(0,92),(1,3)],2,32,[.slice none 0 0,.int .i64 0]⟩
theorem LH:af Tryz.prog 93=some Nn:=by kernel_rfl
noncomputable def OE:TI:=⟨.struct [(0,92),(1,3)],2,32,[.slice none 0 0,.int .i64 0]⟩
theorem LE:af Tryz.prog 94=some OE:=by kernel_rfl
noncomputable def OD:TI:=⟨.slice 107,1,24,[.slice none 0 0]⟩
theorem Kp:af Tryz.prog 95=some OD:=by kernel_rfl
noncomputable def Og:TI:=⟨.struct [(0,60),(1,23),(2,75),(3,94),(5,95),(6,3),(7,48),(8,51),(9,65)],10,192,[.pointer none,.slice none 0 0,.slice none 0 0,.slice none 0 0,.int .i64 0,.slice none 0 0,.int .i64 0,.slice none 0 0,.slice none 0 0,.slice none 0 0]⟩
theorem Kk:af Tryz.prog 96=some Og:=by kernel_rfl
noncomputable def Ng:TI:=⟨.struct [(0,60),(1,23),(2,75),(3,94),(5,95),(6,3),(7,48),(8,51),(9,65)],10,192,[.pointer none,.slice none 0 0,.slice none 0 0,.slice none 0 0,.int .i64 0,.slice none 0 0,.int .i64 0,.slice none 0 0,.slice none 0 0,.slice none 0 0]⟩
theorem JF:af Tryz.prog 97=some Ng:=by kernel_rfl
noncomputable def On:TI:=⟨.func,1,8,[.nilFunc]⟩
theorem LY:af Tryz.prog 98=some On:=by kernel_rfl
noncomputable def NO:TI:=⟨.array 5 98,5,40,[.nilFunc,.nilFunc,.nilFunc,.nilFunc,.nilFunc]⟩
theorem LI:af Tryz.prog 99=some NO:=by kernel_rfl
noncomputable def xu:TI:=⟨.func,1,8,[.nilFunc]⟩
theorem GM:af Tryz.prog 100=some xu:=by kernel_rfl
noncomputable def xU:TI:=⟨.ptr 210,1,8,[.pointer none]⟩
theorem Be:af Tryz.prog 101=some xU:=by kernel_rfl
noncomputable def yk:TI:=⟨.ptr 203,1,8,[.pointer none]⟩
theorem Hw:af Tryz.prog 102=some yk:=by kernel_rfl
noncomputable def zx:TI:=⟨.struct [(0,48)],1,24,[.slice none 0 0]⟩
theorem xK:af Tryz.prog 103=some zx:=by kernel_rfl
noncomputable def xp:TI:=⟨.struct [(0,48)],1,24,[.slice none 0 0]⟩
theorem Bc:af Tryz.prog 104=some xp:=by kernel_rfl
noncomputable def BG:TI:=⟨.struct [(0,3),(1,101),(2,102),(3,104),(4,3),(5,3),(6,3)],7,72,[.int .i64 0,.pointer none,.pointer none,.slice none 0 0,.int .i64 0,.int .i64 0,.int .i64 0]⟩
theorem yB:af Tryz.prog 105=some BG:=by kernel_rfl
noncomputable def wZ:TI:=⟨.struct [(0,3),(1,101),(2,102),(3,104),(4,3),(5,3),(6,3)],7,72,[.int .i64 0,.pointer none,.pointer none,.slice none 0 0,.int .i64 0,.int .i64 0,.int .i64 0]⟩
theorem Fb:af Tryz.prog 106=some wZ:=by kernel_rfl
noncomputable def IV:TI:=⟨.ptr 106,1,8,[.pointer none]⟩
theorem yg:af Tryz.prog 107=some IV:=by kernel_rfl
noncomputable def yP:TI:=⟨.struct [(0,22),(1,48)],2,48,[.slice none 0 0,.slice none 0 0]⟩
theorem Gz:af Tryz.prog 108=some yP:=by kernel_rfl
noncomputable def Fi:TI:=⟨.struct [(0,22),(1,48)],2,48,[.slice none 0 0,.slice none 0 0]⟩
theorem DB:af Tryz.prog 109=some Fi:=by kernel_rfl
noncomputable def yb:TI:=⟨.func,1,8,[.nilFunc]⟩
theorem Br:af Tryz.prog 110=some yb:=by kernel_rfl
noncomputable def Ge:TI:=⟨.struct [(0,3),(1,3)],2,16,[.int .i64 0,.int .i64 0]⟩
theorem GL:af Tryz.prog 111=some Ge:=by kernel_rfl
noncomputable def Ah:TI:=⟨.struct [(0,3),(1,3)],2,16,[.int .i64 0,.int .i64 0]⟩
theorem IB:af Tryz.prog 112=some Ah:=by kernel_rfl
noncomputable def Hs:TI:=⟨.array 8 112,16,128,[.int .i64 0,.int .i64 0,.int .i64 0,.int .i64 0,.int .i64 0,.int .i64 0,.int .i64 0,.int .i64 0,.int .i64 0,.int .i64 0,.int .i64 0,.int .i64 0,.int .i64 0,.int .i64 0,.int .i64 0,.int .i64 0]⟩
theorem Dj:af Tryz.prog 113=some Hs:=by kernel_rfl
noncomputable def IR:TI:=⟨.func,1,8,[.nilFunc]⟩
theorem G9:af Tryz.prog 114=some IR:=by kernel_rfl
noncomputable def DV:TI:=⟨.func,1,8,[.nilFunc]⟩
theorem BI:af Tryz.prog 115=some DV:=by kernel_rfl
noncomputable def AQ:TI:=⟨.ptr 42,1,8,[.pointer none]⟩
theorem GK:af Tryz.prog 116=some AQ:=by kernel_rfl
noncomputable def AM:TI:=⟨.ptr 121,1,8,[.pointer none]⟩
theorem BM:af Tryz.prog 117=some AM:=by kernel_rfl
noncomputable def EL:TI:=⟨.ptr 145,1,8,[.pointer none]⟩
theorem BA:af Tryz.prog 118=some EL:=by kernel_rfl
noncomputable def De:TI:=⟨.ptr 225,1,8,[.pointer none]⟩
theorem GY:af Tryz.prog 119=some De:=by kernel_rfl
noncomputable def Ar:TI:=⟨.struct [(0,3),(1,3),(2,3),(3,3),(4,118),(5,119),(6,48),(7,48)],8,96,[.int .i64 0,.int .i64 0,.int .i64 0,.int .i64 0,.pointer none,.pointer none,.slice none 0 0,.slice none 0 0]⟩
theorem CD:af Tryz.prog 120=some Ar:=by kernel_rfl
noncomputable def Ae:TI:=⟨.struct [(0,3),(1,3),(2,3),(3,3),(4,118),(5,119),(6,48),(7,48)],8,96,[.int .i64 0,.int .i64 0,.int .i64 0,.int .i64 0,.pointer none,.pointer none,.slice none 0 0,.slice none 0 0]⟩
theorem AZ:af Tryz.prog 121=some Ae:=by kernel_rfl
noncomputable def G4:TI:=⟨.func,1,8,[.nilFunc]⟩
theorem yI:af Tryz.prog 122=some G4:=by kernel_rfl
noncomputable def w8:TI:=⟨.func,1,8,[.nilFunc]⟩
theorem Gr:af Tryz.prog 123=some w8:=by kernel_rfl
noncomputable def A8:TI:=⟨.func,1,8,[.nilFunc]⟩
theorem I7:af Tryz.prog 124=some A8:=by kernel_rfl
noncomputable def Ao:TI:=⟨.func,1,8,[.nilFunc]⟩
theorem Cm:af Tryz.prog 125=some Ao:=by kernel_rfl
noncomputable def Iu:TI:=⟨.struct [(0,9),(1,9)],2,32,[.string ⟨#[]⟩,.string ⟨#[]⟩]⟩
theorem Ey:af Tryz.prog 126=some Iu:=by kernel_rfl
noncomputable def vo:TI:=⟨.struct [(0,9),(1,9)],2,32,[.string ⟨#[]⟩,.string ⟨#[]⟩]⟩
theorem FV:af Tryz.prog 127=some vo:=by kernel_rfl
noncomputable def CH:TI:=⟨.slice 212,1,24,[.slice none 0 0]⟩
theorem BX:af Tryz.prog 128=some CH:=by kernel_rfl
noncomputable def A6:TI:=⟨.struct [(0,128)],1,24,[.slice none 0 0]⟩
theorem AR:af Tryz.prog 129=some A6:=by kernel_rfl
noncomputable def BO:TI:=⟨.struct [(0,128)],1,24,[.slice none 0 0]⟩
theorem Bw:af Tryz.prog 130=some BO:=by kernel_rfl
noncomputable def I1:TI:=⟨.func,1,8,[.nilFunc]⟩
theorem Ht:af Tryz.prog 131=some I1:=by kernel_rfl
noncomputable def Ee:TI:=⟨.func,1,8,[.nilFunc]⟩
theorem ya:af Tryz.prog 132=some Ee:=by kernel_rfl
noncomputable def Ih:TI:=⟨.func,1,8,[.nilFunc]⟩
theorem B5:af Tryz.prog 133=some Ih:=by kernel_rfl
noncomputable def xZ:TI:=⟨.func,1,8,[.nilFunc]⟩
theorem Ck:af Tryz.prog 134=some xZ:=by kernel_rfl
noncomputable def xd:TI:=⟨.func,1,8,[.nilFunc]⟩
theorem D6:af Tryz.prog 135=some xd:=by kernel_rfl
noncomputable def AO:TI:=⟨.func,1,8,[.nilFunc]⟩
theorem xb:af Tryz.prog 136=some AO:=by kernel_rfl
noncomputable def DJ:TI:=⟨.func,1,8,[.nilFunc]⟩
theorem CA:af Tryz.prog 138=some DJ:=by kernel_rfl
noncomputable def z2:TI:=⟨.func,1,8,[.nilFunc]⟩
theorem ye:af Tryz.prog 139=some z2:=by kernel_rfl
noncomputable def GV:TI:=⟨.func,1,8,[.nilFunc]⟩
theorem IT:af Tryz.prog 140=some GV:=by kernel_rfl
noncomputable def CR:TI:=⟨.struct [(0,3),(1,3),(2,3),(3,3),(4,3),(5,4)],6,48,[.int .i64 0,.int .i64 0,.int .i64 0,.int .i64 0,.int .i64 0,.bool false]⟩
theorem El:af Tryz.prog 141=some CR:=by kernel_rfl
noncomputable def wX:TI:=⟨.struct [(0,3),(1,3),(2,3),(3,3),(4,3),(5,4)],6,48,[.int .i64 0,.int .i64 0,.int .i64 0,.int .i64 0,.int .i64 0,.bool false]⟩
theorem Hv:af Tryz.prog 142=some wX:=by kernel_rfl
noncomputable def Gm:TI:=⟨.array 65 142,390,3120,[.int .i64 0,.int .i64 0,.int .i64 0,.int .i64 0,.int .i64 0,.bool false,.int .i64 0,.int .i64 0,.int .i64 0,.int .i64 0,.int .i64 0,.bool false,.int .i64 0,.int .i64 0,.int .i64 0,.int .i64 0,.int .i64 0,.bool false,.int .i64 0,.int .i64 0,.int .i64 0,.int .i64 0,.int .i64 0,.bool false,.int .i64 0,.int .i64 0,.int .i64 0,.int .i64 0,.int .i64 0,.bool false,.int .i64 0,.int .i64 0,.int .i64 0,.int .i64 0,.int .i64 0,.bool false,.int .i64 0,.int .i64 0,.int .i64 0,.int .i64 0,.int .i64 0,.bool false,.int .i64 0,.int .i64 0,.int .i64 0,.int .i64 0,.int .i64 0,.bool false,.int .i64 0,.int .i64 0,.int .i64 0,.int .i64 0,.int .i64 0,.bool false,.int .i64 0,.int .i64 0,.int .i64 0,.int .i64 0,.int .i64 0,.bool false,.int .i64 0,.int .i64 0,.int .i64 0,.int .i64 0,.int .i64 0,.bool false,.int .i64 0,.int .i64 0,.int .i64 0,.int .i64 0,.int .i64 0,.bool false,.int .i64 0,.int .i64 0,.int .i64 0,.int .i64 0,.int .i64 0,.bool false,.int .i64 0,.int .i64 0,.int .i64 0,.int .i64 0,.int .i64 0,.bool false,.int .i64 0,.int .i64 0,.int .i64 0,.int .i64 0,.int .i64 0,.bool false,.int .i64 0,.int .i64 0,.int .i64 0,.int .i64 0,.int .i64 0,.bool false,.int .i64 0,.int .i64 0,.int .i64 0,.int .i64 0,.int .i64 0,.bool false,.int .i64 0,.int .i64 0,.int .i64 0,.int .i64 0,.int .i64 0,.bool false,.int .i64 0,.int .i64 0,.int .i64 0,.int .i64 0,.int .i64 0,.bool false,.int .i64 0,.int .i64 0,.int .i64 0,.int .i64 0,.int .i64 0,.bool false,.int .i64 0,.int .i64 0,.int .i64 0,.int .i64 0,.int .i64 0,.bool false,.int .i64 0,.int .i64 0,.int .i64 0,.int .i64 0,.int .i64 0,.bool false,.int .i64 0,.int .i64 0,.int .i64 0,.int .i64 0,.int .i64 0,.bool false,.int .i64 0,.int .i64 0,.int .i64 0,.int .i64 0,.int .i64 0,.bool false,.int .i64 0,.int .i64 0,.int .i64 0,.int .i64 0,.int .i64 0,.bool false,.int .i64 0,.int .i64 0,.int .i64 0,.int .i64 0,.int .i64 0,.bool false,.int .i64 0,.int .i64 0,.int .i64 0,.int .i64 0,.int .i64 0,.bool false,.int .i64 0,.int .i64 0,.int .i64 0,.int .i64 0,.int .i64 0,.bool false,.int .i64 0,.int .i64 0,.int .i64 0,.int .i64 0,.int .i64 0,.bool false,.int .i64 0,.int .i64 0,.int .i64 0,.int .i64 0,.int .i64 0,.bool false,.int .i64 0,.int .i64 0,.int .i64 0,.int .i64 0,.int .i64 0,.bool false,.int .i64 0,.int .i64 0,.int .i64 0,.int .i64 0,.int .i64 0,.bool false,.int .i64 0,.int .i64 0,.int .i64 0,.int .i64 0,.int .i64 0,.bool false,.int .i64 0,.int .i64 0,.int .i64 0,.int .i64 0,.int .i64 0,.bool false,.int .i64 0,.int .i64 0,.int .i64 0,.int .i64 0,.int .i64 0,.bool false,.int .i64 0,.int .i64 0,.int .i64 0,.int .i64 0,.int .i64 0,.bool false,.int .i64 0,.int .i64 0,.int .i64 0,.int .i64 0,.int .i64 0,.bool false,.int .i64 0,.int .i64 0,.int .i64 0,.int .i64 0,.int .i64 0,.bool false,.int .i64 0,.int .i64 0,.int .i64 0,.int .i64 0,.int .i64 0,.bool false,.int .i64 0,.int .i64 0,.int .i64 0,.int .i64 0,.int .i64 0,.bool false,.int .i64 0,.int .i64 0,.int .i64 0,.int .i64 0,.int .i64 0,.bool false,.int .i64 0,.int .i64 0,.int .i64 0,.int .i64 0,.int .i64 0,.bool false,.int .i64 0,.int .i64 0,.int .i64 0,.int .i64 0,.int .i64 0,.bool false,.int .i64 0,.int .i64 0,.int .i64 0,.int .i64 0,.int .i64 0,.bool false,.int .i64 0,.int .i64 0,.int .i64 0,.int .i64 0,.int .i64 0,.bool false,.int .i64 0,.int .i64 0,.int .i64 0,.int .i64 0,.int .i64 0,.bool false,.int .i64 0,.int .i64 0,.int .i64 0,.int .i64 0,.int .i64 0,.bool false,.int .i64 0,.int .i64 0,.int .i64 0,.int .i64 0,.int .i64 0,.bool false,.int .i64 0,.int .i64 0,.int .i64 0,.int .i64 0,.int .i64 0,.bool false,.int .i64 0,.int .i64 0,.int .i64 0,.int .i64 0,.int .i64 0,.bool false,.int .i64 0,.int .i64 0,.int .i64 0,.int .i64 0,.int .i64 0,.bool false,.int .i64 0,.int .i64 0,.int .i64 0,.int .i64 0,.int .i64 0,.bool false,.int .i64 0,.int .i64 0,.int .i64 0,.int .i64 0,.int .i64 0,.bool false,.int .i64 0,.int .i64 0,.int .i64 0,.int .i64 0,.int .i64 0,.bool false,.int .i64 0,.int .i64 0,.int .i64 0,.int .i64 0,.int .i64 0,.bool false,.int .i64 0,.int .i64 0,.int .i64 0,.int .i64 0,.int .i64 0,.bool false,.int .i64 0,.int .i64 0,.int .i64 0,.int .i64 0,.int .i64 0,.bool false,.int .i64 0,.int .i64 0,.int .i64 0,.int .i64 0,.int .i64 0,.bool false,.int .i64 0,.int .i64 0,.int .i64 0,.int .i64 0,.int .i64 0,.bool false,.int .i64 0,.int .i64 0,.int .i64 0,.int .i64 0,.int .i64 0,.bool false,.int .i64 0,.int .i64 0,.int .i64 0,.int .i64 0,.int .i64 0,.bool false,.int .i64 0,.int .i64 0,.int .i64 0,.int .i64 0,.int .i64 0,.bool false,.int .i64 0,.int .i64 0,.int .i64 0,.int .i64 0,.int .i64 0,.bool false,.int .i64 0,.int .i64 0,.int .i64 0,.int .i64 0,.int .i64 0,.bool false,.int .i64 0,.int .i64 0,.int .i64 0,.int .i64 0,.int .i64 0,.bool false]⟩
theorem Dz:af Tryz.prog 143=some Gm:=by kernel_rfl
noncomputable def zZ:TI:=⟨.struct [(0,3),(1,3),(2,3),(3,48),(4,143),(394,90)],398,3192,[.int .i64 0,.int .i64 0,.int .i64 0,.slice none 0 0,.int .i64 0,.int .i64 0,.int .i64 0,.int .i64 0,.int .i64 0,.bool false,.int .i64 0,.int .i64 0,.int .i64 0,.int .i64 0,.int .i64 0,.bool false,.int .i64 0,.int .i64 0,.int .i64 0,.int .i64 0,.int .i64 0,.bool false,.int .i64 0,.int .i64 0,.int .i64 0,.int .i64 0,.int .i64 0,.bool false,.int .i64 0,.int .i64 0,.int .i64 0,.int .i64 0,.int .i64 0,.bool false,.int .i64 0,.int .i64 0,.int .i64 0,.int .i64 0,.int .i64 0,.bool false,.int .i64 0,.int .i64 0,.int .i64 0,.int .i64 0,.int .i64 0,.bool false,.int .i64 0,.int .i64 0,.int .i64 0,.int .i64 0,.int .i64 0,.bool false,.int .i64 0,.int .i64 0,.int .i64 0,.int .i64 0,.int .i64 0,.bool false,.int .i64 0,.int .i64 0,.int .i64 0,.int .i64 0,.int .i64 0,.bool false,.int .i64 0,.int .i64 0,.int .i64 0,.int .i64 0,.int .i64 0,.bool false,.int .i64 0,.int .i64 0,.int .i64 0,.int .i64 0,.int .i64 0,.bool false,.int .i64 0,.int .i64 0,.int .i64 0,.int .i64 0,.int .i64 0,.bool false,.int .i64 0,.int .i64 0,.int .i64 0,.int .i64 0,.int .i64 0,.bool false,.int .i64 0,.int .i64 0,.int .i64 0,.int .i64 0,.int .i64 0,.bool false,.int .i64 0,.int .i64 0,.int .i64 0,.int .i64 0,.int .i64 0,.bool false,.int .i64 0,.int .i64 0,.int .i64 0,.int .i64 0,.int .i64 0,.bool false,.int .i64 0,.int .i64 0,.int .i64 0,.int .i64 0,.int .i64 0,.bool false,.int .i64 0,.int .i64 0,.int .i64 0,.int .i64 0,.int .i64 0,.bool false,.int .i64 0,.int .i64 0,.int .i64 0,.int .i64 0,.int .i64 0,.bool false,.int .i64 0,.int .i64 0,.int .i64 0,.int .i64 0,.int .i64 0,.bool false,.int .i64 0,.int .i64 0,.int .i64 0,.int .i64 0,.int .i64 0,.bool false,.int .i64 0,.int .i64 0,.int .i64 0,.int .i64 0,.int .i64 0,.bool false,.int .i64 0,.int .i64 0,.int .i64 0,.int .i64 0,.int .i64 0,.bool false,.int .i64 0,.int .i64 0,.int .i64 0,.int .i64 0,.int .i64 0,.bool false,.int .i64 0,.int .i64 0,.int .i64 0,.int .i64 0,.int .i64 0,.bool false,.int .i64 0,.int .i64 0,.int .i64 0,.int .i64 0,.int .i64 0,.bool false,.int .i64 0,.int .i64 0,.int .i64 0,.int .i64 0,.int .i64 0,.bool false,.int .i64 0,.int .i64 0,.int .i64 0,.int .i64 0,.int .i64 0,.bool false,.int .i64 0,.int .i64 0,.int .i64 0,.int .i64 0,.int .i64 0,.bool false,.int .i64 0,.int .i64 0,.int .i64 0,.int .i64 0,.int .i64 0,.bool false,.int .i64 0,.int .i64 0,.int .i64 0,.int .i64 0,.int .i64 0,.bool false,.int .i64 0,.int .i64 0,.int .i64 0,.int .i64 0,.int .i64 0,.bool false,.int .i64 0,.int .i64 0,.int .i64 0,.int .i64 0,.int .i64 0,.bool false,.int .i64 0,.int .i64 0,.int .i64 0,.int .i64 0,.int .i64 0,.bool false,.int .i64 0,.int .i64 0,.int .i64 0,.int .i64 0,.int .i64 0,.bool false,.int .i64 0,.int .i64 0,.int .i64 0,.int .i64 0,.int .i64 0,.bool false,.int .i64 0,.int .i64 0,.int .i64 0,.int .i64 0,.int .i64 0,.bool false,.int .i64 0,.int .i64 0,.int .i64 0,.int .i64 0,.int .i64 0,.bool false,.int .i64 0,.int .i64 0,.int .i64 0,.int .i64 0,.int .i64 0,.bool false,.int .i64 0,.int .i64 0,.int .i64 0,.int .i64 0,.int .i64 0,.bool false,.int .i64 0,.int .i64 0,.int .i64 0,.int .i64 0,.int .i64 0,.bool false,.int .i64 0,.int .i64 0,.int .i64 0,.int .i64 0,.int .i64 0,.bool false,.int .i64 0,.int .i64 0,.int .i64 0,.int .i64 0,.int .i64 0,.bool false,.int .i64 0,.int .i64 0,.int .i64 0,.int .i64 0,.int .i64 0,.bool false,.int .i64 0,.int .i64 0,.int .i64 0,.int .i64 0,.int .i64 0,.bool false,.int .i64 0,.int .i64 0,.int .i64 0,.int .i64 0,.int .i64 0,.bool false,.int .i64 0,.int .i64 0,.int .i64 0,.int .i64 0,.int .i64 0,.bool false,.int .i64 0,.int .i64 0,.int .i64 0,.int .i64 0,.int .i64 0,.bool false,.int .i64 0,.int .i64 0,.int .i64 0,.int .i64 0,.int .i64 0,.bool false,.int .i64 0,.int .i64 0,.int .i64 0,.int .i64 0,.int .i64 0,.bool false,.int .i64 0,.int .i64 0,.int .i64 0,.int .i64 0,.int .i64 0,.bool false,.int .i64 0,.int .i64 0,.int .i64 0,.int .i64 0,.int .i64 0,.bool false,.int .i64 0,.int .i64 0,.int .i64 0,.int .i64 0,.int .i64 0,.bool false,.int .i64 0,.int .i64 0,.int .i64 0,.int .i64 0,.int .i64 0,.bool false,.int .i64 0,.int .i64 0,.int .i64 0,.int .i64 0,.int .i64 0,.bool false,.int .i64 0,.int .i64 0,.int .i64 0,.int .i64 0,.int .i64 0,.bool false,.int .i64 0,.int .i64 0,.int .i64 0,.int .i64 0,.int .i64 0,.bool false,.int .i64 0,.int .i64 0,.int .i64 0,.int .i64 0,.int .i64 0,.bool false,.int .i64 0,.int .i64 0,.int .i64 0,.int .i64 0,.int .i64 0,.bool false,.int .i64 0,.int .i64 0,.int .i64 0,.int .i64 0,.int .i64 0,.bool false,.int .i64 0,.int .i64 0,.int .i64 0,.int .i64 0,.int .i64 0,.bool false,.int .i64 0,.int .i64 0,.int .i64 0,.int .i64 0,.int .i64 0,.bool false,.int .i64 0,.int .i64 0,.int .i64 0,.int .i64 0,.int .i64 0,.bool false,.int .i64 0,.int .i64 0,.int .i64 0,.int .i64 0,.int .i64 0,.bool false,.int .i64 0,.int .i64 0,.bool false,.bool false]⟩
theorem z_:af Tryz.prog 144=some zZ:=by kernel_rfl
noncomputable def EK:TI:=⟨.struct [(0,3),(1,3),(2,3),(3,48),(4,143),(394,90)],398,3192,[.int .i64 0,.int .i64 0,.int .i64 0,.slice none 0 0,.int .i64 0,.int .i64 0,.int .i64 0,.int .i64 0,.int .i64 0,.bool false,.int .i64 0,.int .i64 0,.int .i64 0,.int .i64 0,.int .i64 0,.bool false,.int .i64 0,.int .i64 0,.int .i64 0,.int .i64 0,.int .i64 0,.bool false,.int .i64 0,.int .i64 0,.int .i64 0,.int .i64 0,.int .i64 0,.bool false,.int .i64 0,.int .i64 0,.int .i64 0,.int .i64 0,.int .i64 0,.bool false,.int .i64 0,.int .i64 0,.int .i64 0,.int .i64 0,.int .i64 0,.bool false,.int .i64 0,.int .i64 0,.int .i64 0,.int .i64 0,.int .i64 0,.bool false,.int .i64 0,.int .i64 0,.int .i64 0,.int .i64 0,.int .i64 0,.bool false,.int .i64 0,.int .i64 0,.int .i64 0,.int .i64 0,.int .i64 0,.bool false,.int .i64 0,.int .i64 0,.int .i64 0,.int .i64 0,.int .i64 0,.bool false,.int .i64 0,.int .i64 0,.int .i64 0,.int .i64 0,.int .i64 0,.bool false,.int .i64 0,.int .i64 0,.int .i64 0,.int .i64 0,.int .i64 0,.bool false,.int .i64 0,.int .i64 0,.int .i64 0,.int .i64 0,.int .i64 0,.bool false,.int .i64 0,.int .i64 0,.int .i64 0,.int .i64 0,.int .i64 0,.bool false,.int .i64 0,.int .i64 0,.int .i64 0,.int .i64 0,.int .i64 0,.bool false,.int .i64 0,.int .i64 0,.int .i64 0,.int .i64 0,.int .i64 0,.bool false,.int .i64 0,.int .i64 0,.int .i64 0,.int .i64 0,.int .i64 0,.bool false,.int .i64 0,.int .i64 0,.int .i64 0,.int .i64 0,.int .i64 0,.bool false,.int .i64 0,.int .i64 0,.int .i64 0,.int .i64 0,.int .i64 0,.bool false,.int .i64 0,.int .i64 0,.int .i64 0,.int .i64 0,.int .i64 0,.bool false,.int .i64 0,.int .i64 0,.int .i64 0,.int .i64 0,.int .i64 0,.bool false,.int .i64 0,.int .i64 0,.int .i64 0,.int .i64 0,.int .i64 0,.bool false,.int .i64 0,.int .i64 0,.int .i64 0,.int .i64 0,.int .i64 0,.bool false,.int .i64 0,.int .i64 0,.int .i64 0,.int .i64 0,.int .i64 0,.bool false,.int .i64 0,.int .i64 0,.int .i64 0,.int .i64 0,.int .i64 0,.bool false,.int .i64 0,.int .i64 0,.int .i64 0,.int .i64 0,.int .i64 0,.bool false,.int .i64 0,.int .i64 0,.int .i64 0,.int .i64 0,.int .i64 0,.bool false,.int .i64 0,.int .i64 0,.int .i64 0,.int .i64 0,.int .i64 0,.bool false,.int .i64 0,.int .i64 0,.int .i64 0,.int .i64 0,.int .i64 0,.bool false,.int .i64 0,.int .i64 0,.int .i64 0,.int .i64 0,.int .i64 0,.bool false,.int .i64 0,.int .i64 0,.int .i64 0,.int .i64 0,.int .i64 0,.bool false,.int .i64 0,.int .i64 0,.int .i64 0,.int .i64 0,.int .i64 0,.bool false,.int .i64 0,.int .i64 0,.int .i64 0,.int .i64 0,.int .i64 0,.bool false,.int .i64 0,.int .i64 0,.int .i64 0,.int .i64 0,.int .i64 0,.bool false,.int .i64 0,.int .i64 0,.int .i64 0,.int .i64 0,.int .i64 0,.bool false,.int .i64 0,.int .i64 0,.int .i64 0,.int .i64 0,.int .i64 0,.bool false,.int .i64 0,.int .i64 0,.int .i64 0,.int .i64 0,.int .i64 0,.bool false,.int .i64 0,.int .i64 0,.int .i64 0,.int .i64 0,.int .i64 0,.bool false,.int .i64 0,.int .i64 0,.int .i64 0,.int .i64 0,.int .i64 0,.bool false,.int .i64 0,.int .i64 0,.int .i64 0,.int .i64 0,.int .i64 0,.bool false,.int .i64 0,.int .i64 0,.int .i64 0,.int .i64 0,.int .i64 0,.bool false,.int .i64 0,.int .i64 0,.int .i64 0,.int .i64 0,.int .i64 0,.bool false,.int .i64 0,.int .i64 0,.int .i64 0,.int .i64 0,.int .i64 0,.bool false,.int .i64 0,.int .i64 0,.int .i64 0,.int .i64 0,.int .i64 0,.bool false,.int .i64 0,.int .i64 0,.int .i64 0,.int .i64 0,.int .i64 0,.bool false,.int .i64 0,.int .i64 0,.int .i64 0,.int .i64 0,.int .i64 0,.bool false,.int .i64 0,.int .i64 0,.int .i64 0,.int .i64 0,.int .i64 0,.bool false,.int .i64 0,.int .i64 0,.int .i64 0,.int .i64 0,.int .i64 0,.bool false,.int .i64 0,.int .i64 0,.int .i64 0,.int .i64 0,.int .i64 0,.bool false,.int .i64 0,.int .i64 0,.int .i64 0,.int .i64 0,.int .i64 0,.bool false,.int .i64 0,.int .i64 0,.int .i64 0,.int .i64 0,.int .i64 0,.bool false,.int .i64 0,.int .i64 0,.int .i64 0,.int .i64 0,.int .i64 0,.bool false,.int .i64 0,.int .i64 0,.int .i64 0,.int .i64 0,.int .i64 0,.bool false,.int .i64 0,.int .i64 0,.int .i64 0,.int .i64 0,.int .i64 0,.bool false,.int .i64 0,.int .i64 0,.int .i64 0,.int .i64 0,.int .i64 0,.bool false,.int .i64 0,.int .i64 0,.int .i64 0,.int .i64 0,.int .i64 0,.bool false,.int .i64 0,.int .i64 0,.int .i64 0,.int .i64 0,.int .i64 0,.bool false,.int .i64 0,.int .i64 0,.int .i64 0,.int .i64 0,.int .i64 0,.bool false,.int .i64 0,.int .i64 0,.int .i64 0,.int .i64 0,.int .i64 0,.bool false,.int .i64 0,.int .i64 0,.int .i64 0,.int .i64 0,.int .i64 0,.bool false,.int .i64 0,.int .i64 0,.int .i64 0,.int .i64 0,.int .i64 0,.bool false,.int .i64 0,.int .i64 0,.int .i64 0,.int .i64 0,.int .i64 0,.bool false,.int .i64 0,.int .i64 0,.int .i64 0,.int .i64 0,.int .i64 0,.bool false,.int .i64 0,.int .i64 0,.int .i64 0,.int .i64 0,.int .i64 0,.bool false,.int .i64 0,.int .i64 0,.int .i64 0,.int .i64 0,.int .i64 0,.bool false,.int .i64 0,.int .i64 0,.bool false,.bool false]⟩
theorem Dc:af Tryz.prog 145=some EK:=by kernel_rfl
noncomputable def zf:TI:=⟨.func,1,8,[.nilFunc]⟩
theorem GS:af Tryz.prog 147=some zf:=by kernel_rfl
noncomputable def HZ:TI:=⟨.func,1,8,[.nilFunc]⟩
theorem IW:af Tryz.prog 148=some HZ:=by kernel_rfl
noncomputable def Co:TI:=⟨.func,1,8,[.nilFunc]⟩
theorem Gw:af Tryz.prog 149=some Co:=by kernel_rfl
noncomputable def zK:TI:=⟨.slice 185,1,24,[.slice none 0 0]⟩
theorem FM:af Tryz.prog 150=some zK:=by kernel_rfl
noncomputable def HX:TI:=⟨.struct [(0,75),(1,150)],2,48,[.slice none 0 0,.slice none 0 0]⟩
theorem Ap:af Tryz.prog 151=some HX:=by kernel_rfl
noncomputable def FY:TI:=⟨.struct [(0,75),(1,150)],2,48,[.slice none 0 0,.slice none 0 0]⟩
theorem xi:af Tryz.prog 152=some FY:=by kernel_rfl
noncomputable def DD:TI:=⟨.func,1,8,[.nilFunc]⟩
theorem HB:af Tryz.prog 153=some DD:=by kernel_rfl
noncomputable def Gv:TI:=⟨.slice 259,1,24,[.slice none 0 0]⟩
theorem IA:af Tryz.prog 154=some Gv:=by kernel_rfl
noncomputable def B7:TI:=⟨.struct [(0,154)],1,24,[.slice none 0 0]⟩
theorem He:af Tryz.prog 155=some B7:=by kernel_rfl
noncomputable def DM:TI:=⟨.struct [(0,154)],1,24,[.slice none 0 0]⟩
theorem Iy:af Tryz.prog 156=some DM:=by kernel_rfl
noncomputable def IX:TI:=⟨.struct [(0,3)],1,8,[.int .i64 0]⟩
theorem B2:af Tryz.prog 157=some IX:=by kernel_rfl
noncomputable def zI:TI:=⟨.struct [(0,3)],1,8,[.int .i64 0]⟩
theorem Df:af Tryz.prog 158=some zI:=by kernel_rfl
noncomputable def IK:TI:=⟨.int .u64,1,8,[.int .u64 0]⟩
theorem xL:af Tryz.prog 159=some IK:=by kernel_rfl
noncomputable def Ga:TI:=⟨.map 3 166,1,8,[.map none]⟩
theorem DL:af Tryz.prog 160=some Ga:=by kernel_rfl
noncomputable def y_:TI:=⟨.slice 165,1,24,[.slice none 0 0]⟩
theorem zd:af Tryz.prog 161=some y_:=by kernel_rfl
noncomputable def GN:TI:=⟨.slice 178,1,24,[.slice none 0 0]⟩
theorem Ec:af Tryz.prog 162=some GN:=by kernel_rfl
noncomputable def EG:TI:=⟨.struct [(0,3),(1,161),(2,161),(3,160),(4,162)],5,88,[.int .i64 0,.slice none 0 0,.slice none 0 0,.map none,.slice none 0 0]⟩
theorem F5:af Tryz.prog 163=some EG:=by kernel_rfl
noncomputable def GG:TI:=⟨.struct [(0,3),(1,161),(2,161),(3,160),(4,162)],5,88,[.int .i64 0,.slice none 0 0,.slice none 0 0,.map none,.slice none 0 0]⟩
theorem zH:af Tryz.prog 164=some GG:=by kernel_rfl
noncomputable def Cn:TI:=⟨.slice 3,1,24,[.slice none 0 0]⟩
theorem C1:af Tryz.prog 165=some Cn:=by kernel_rfl
noncomputable def GI:TI:=⟨.ptr 172,1,8,[.pointer none]⟩
theorem DC:af Tryz.prog 166=some GI:=by kernel_rfl
noncomputable def Do:TI:=⟨.func,1,8,[.nilFunc]⟩
theorem GC:af Tryz.prog 167=some Do:=by kernel_rfl
noncomputable def Ik:TI:=⟨.func,1,8,[.nilFunc]⟩
theorem D4:af Tryz.prog 168=some Ik:=by kernel_rfl
noncomputable def Gl:TI:=⟨.array 4 48,4,96,[.slice none 0 0,.slice none 0 0,.slice none 0 0,.slice none 0 0]⟩
theorem CK:af Tryz.prog 169=some Gl:=by kernel_rfl
noncomputable def yn:TI:=⟨.array 4 48,4,96,[.slice none 0 0,.slice none 0 0,.slice none 0 0,.slice none 0 0]⟩
theorem AL:af Tryz.prog 170=some yn:=by kernel_rfl
noncomputable def DT:TI:=⟨.struct [(0,165),(1,170)],5,120,[.slice none 0 0,.slice none 0 0,.slice none 0 0,.slice none 0 0,.slice none 0 0]⟩
theorem EC:af Tryz.prog 171=some DT:=by kernel_rfl
noncomputable def Cv:TI:=⟨.struct [(0,165),(1,170)],5,120,[.slice none 0 0,.slice none 0 0,.slice none 0 0,.slice none 0 0,.slice none 0 0]⟩
theorem GO:af Tryz.prog 172=some Cv:=by kernel_rfl
noncomputable def Fq:TI:=⟨.func,1,8,[.nilFunc]⟩
theorem BV:af Tryz.prog 173=some Fq:=by kernel_rfl
noncomputable def xx:TI:=⟨.func,1,8,[.nilFunc]⟩
theorem AE:af Tryz.prog 174=some xx:=by kernel_rfl
noncomputable def yN:TI:=⟨.func,1,8,[.nilFunc]⟩
theorem zi:af Tryz.prog 175=some yN:=by kernel_rfl
noncomputable def EW:TI:=⟨.func,1,8,[.nilFunc]⟩
theorem Gh:af Tryz.prog 176=some EW:=by kernel_rfl
noncomputable def yE:TI:=⟨.struct [(0,3),(1,3),(2,165)],3,40,[.int .i64 0,.int .i64 0,.slice none 0 0]⟩
theorem Eh:af Tryz.prog 177=some yE:=by kernel_rfl
noncomputable def HI:TI:=⟨.struct [(0,3),(1,3),(2,165)],3,40,[.int .i64 0,.int .i64 0,.slice none 0 0]⟩
theorem AP:af Tryz.prog 178=some HI:=by kernel_rfl
noncomputable def CC:TI:=⟨.func,1,8,[.nilFunc]⟩
theorem HT:af Tryz.prog 179=some CC:=by kernel_rfl
noncomputable def CJ:TI:=⟨.func,1,8,[.nilFunc]⟩
theorem yR:af Tryz.prog 180=some CJ:=by kernel_rfl
noncomputable def C6:TI:=⟨.array 8 4,8,8,[.bool false,.bool false,.bool false,.bool false,.bool false,.bool false,.bool false,.bool false]⟩
theorem Hl:af Tryz.prog 181=some C6:=by kernel_rfl
noncomputable def GQ:TI:=⟨.func,1,8,[.nilFunc]⟩
theorem CY:af Tryz.prog 183=some GQ:=by kernel_rfl
noncomputable def D_:TI:=⟨.struct [(0,3),(1,112),(3,4)],4,32,[.int .i64 0,.int .i64 0,.int .i64 0,.bool false]⟩
theorem yr:af Tryz.prog 184=some D_:=by kernel_rfl
noncomputable def zk:TI:=⟨.struct [(0,3),(1,112),(3,4)],4,32,[.int .i64 0,.int .i64 0,.int .i64 0,.bool false]⟩
theorem EH:af Tryz.prog 185=some zk:=by kernel_rfl
noncomputable def I0:TI:=⟨.func,1,8,[.nilFunc]⟩
theorem Bx:af Tryz.prog 186=some I0:=by kernel_rfl
noncomputable def ze:TI:=⟨.func,1,8,[.nilFunc]⟩
theorem Gu:af Tryz.prog 187=some ze:=by kernel_rfl
noncomputable def DX:TI:=⟨.ptr 94,1,8,[.pointer none]⟩
theorem xO:af Tryz.prog 188=some DX:=by kernel_rfl
noncomputable def Gn:TI:=⟨.struct [(0,42),(8,3)],9,72,[.int .i64 0,.int .i64 0,.int .i64 0,.int .i64 0,.int .i64 0,.int .i64 0,.int .i64 0,.int .i64 0,.int .i64 0]⟩
theorem xB:af Tryz.prog 189=some Gn:=by kernel_rfl
noncomputable def Cf:TI:=⟨.struct [(0,42),(8,3)],9,72,[.int .i64 0,.int .i64 0,.int .i64 0,.int .i64 0,.int .i64 0,.int .i64 0,.int .i64 0,.int .i64 0,.int .i64 0]⟩
theorem IU:af Tryz.prog 190=some Cf:=by kernel_rfl
noncomputable def yV:TI:=⟨.func,1,8,[.nilFunc]⟩
theorem xT:af Tryz.prog 191=some yV:=by kernel_rfl
noncomputable def Ip:TI:=⟨.func,1,8,[.nilFunc]⟩
theorem FJ:af Tryz.prog 192=some Ip:=by kernel_rfl
noncomputable def HW:TI:=⟨.func,1,8,[.nilFunc]⟩
theorem DR:af Tryz.prog 193=some HW:=by kernel_rfl
noncomputable def xV:TI:=⟨.func,1,8,[.nilFunc]⟩
theorem CP:af Tryz.prog 194=some xV:=by kernel_rfl
noncomputable def xE:TI:=⟨.func,1,8,[.nilFunc]⟩
theorem DA:af Tryz.prog 195=some xE:=by kernel_rfl
noncomputable def ID:TI:=⟨.func,1,8,[.nilFunc]⟩
theorem yz:af Tryz.prog 196=some ID:=by kernel_rfl
noncomputable def Eu:TI:=⟨.func,1,8,[.nilFunc]⟩
theorem xC:af Tryz.prog 197=some Eu:=by kernel_rfl
noncomputable def HE:TI:=⟨.func,1,8,[.nilFunc]⟩
theorem C2:af Tryz.prog 198=some HE:=by kernel_rfl
noncomputable def CQ:TI:=⟨.slice 206,1,24,[.slice none 0 0]⟩
theorem Ig:af Tryz.prog 199=some CQ:=by kernel_rfl
noncomputable def Ai:TI:=⟨.struct [(0,199)],1,24,[.slice none 0 0]⟩
theorem zA:af Tryz.prog 200=some Ai:=by kernel_rfl
noncomputable def FT:TI:=⟨.struct [(0,199)],1,24,[.slice none 0 0]⟩
theorem yo:af Tryz.prog 201=some FT:=by kernel_rfl
noncomputable def E4:TI:=⟨.struct [(0,3),(1,201)],2,32,[.int .i64 0,.slice none 0 0]⟩
theorem F7:af Tryz.prog 202=some E4:=by kernel_rfl
noncomputable def xF:TI:=⟨.struct [(0,3),(1,201)],2,32,[.int .i64 0,.slice none 0 0]⟩
theorem GU:af Tryz.prog 203=some xF:=by kernel_rfl
noncomputable def Ba:TI:=⟨.func,1,8,[.nilFunc]⟩
theorem Fy:af Tryz.prog 204=some Ba:=by kernel_rfl
noncomputable def ET:TI:=⟨.struct [(0,3),(1,3)],2,16,[.int .i64 0,.int .i64 0]⟩
theorem CL:af Tryz.prog 205=some ET:=by kernel_rfl
noncomputable def Dl:TI:=⟨.struct [(0,3),(1,3)],2,16,[.int .i64 0,.int .i64 0]⟩
theorem AA:af Tryz.prog 206=some Dl:=by kernel_rfl
noncomputable def E6:TI:=⟨.ptr 222,1,8,[.pointer none]⟩
theorem Ek:af Tryz.prog 207=some E6:=by kernel_rfl
noncomputable def yv:TI:=⟨.array 65 207,65,520,[.pointer none,.pointer none,.pointer none,.pointer none,.pointer none,.pointer none,.pointer none,.pointer none,.pointer none,.pointer none,.pointer none,.pointer none,.pointer none,.pointer none,.pointer none,.pointer none,.pointer none,.pointer none,.pointer none,.pointer none,.pointer none,.pointer none,.pointer none,.pointer none,.pointer none,.pointer none,.pointer none,.pointer none,.pointer none,.pointer none,.pointer none,.pointer none,.pointer none,.pointer none,.pointer none,.pointer none,.pointer none,.pointer none,.pointer none,.pointer none,.pointer none,.pointer none,.pointer none,.pointer none,.pointer none,.pointer none,.pointer none,.pointer none,.pointer none,.pointer none,.pointer none,.pointer none,.pointer none,.pointer none,.pointer none,.pointer none,.pointer none,.pointer none,.pointer none,.pointer none,.pointer none,.pointer none,.pointer none,.pointer none,.pointer none]⟩
theorem Da:af Tryz.prog 208=some yv:=by kernel_rfl
noncomputable def CF:TI:=⟨.struct [(0,48),(1,3),(2,3),(3,208),(68,90)],72,584,[.slice none 0 0,.int .i64 0,.int .i64 0,.pointer none,.pointer none,.pointer none,.pointer none,.pointer none,.pointer none,.pointer none,.pointer none,.pointer none,.pointer none,.pointer none,.pointer none,.pointer none,.pointer none,.pointer none,.pointer none,.pointer none,.pointer none,.pointer none,.pointer none,.pointer none,.pointer none,.pointer none,.pointer none,.pointer none,.pointer none,.pointer none,.pointer none,.pointer none,.pointer none,.pointer none,.pointer none,.pointer none,.pointer none,.pointer none,.pointer none,.pointer none,.pointer none,.pointer none,.pointer none,.pointer none,.pointer none,.pointer none,.pointer none,.pointer none,.pointer none,.pointer none,.pointer none,.pointer none,.pointer none,.pointer none,.pointer none,.pointer none,.pointer none,.pointer none,.pointer none,.pointer none,.pointer none,.pointer none,.pointer none,.pointer none,.pointer none,.pointer none,.pointer none,.pointer none,.int .i64 0,.int .i64 0,.bool false,.bool false]⟩
theorem Dw:af Tryz.prog 209=some CF:=by kernel_rfl
noncomputable def Hi:TI:=⟨.struct [(0,48),(1,3),(2,3),(3,208),(68,90)],72,584,[.slice none 0 0,.int .i64 0,.int .i64 0,.pointer none,.pointer none,.pointer none,.pointer none,.pointer none,.pointer none,.pointer none,.pointer none,.pointer none,.pointer none,.pointer none,.pointer none,.pointer none,.pointer none,.pointer none,.pointer none,.pointer none,.pointer none,.pointer none,.pointer none,.pointer none,.pointer none,.pointer none,.pointer none,.pointer none,.pointer none,.pointer none,.pointer none,.pointer none,.pointer none,.pointer none,.pointer none,.pointer none,.pointer none,.pointer none,.pointer none,.pointer none,.pointer none,.pointer none,.pointer none,.pointer none,.pointer none,.pointer none,.pointer none,.pointer none,.pointer none,.pointer none,.pointer none,.pointer none,.pointer none,.pointer none,.pointer none,.pointer none,.pointer none,.pointer none,.pointer none,.pointer none,.pointer none,.pointer none,.pointer none,.pointer none,.pointer none,.pointer none,.pointer none,.pointer none,.int .i64 0,.int .i64 0,.bool false,.bool false]⟩
theorem IY:af Tryz.prog 210=some Hi:=by kernel_rfl
noncomputable def Iq:TI:=⟨.struct [(0,56),(5,48),(6,3),(7,3),(8,3)],9,136,[.int .i64 0,.string ⟨#[]⟩,.string ⟨#[]⟩,.slice none 0 0,.slice none 0 0,.slice none 0 0,.int .i64 0,.int .i64 0,.int .i64 0]⟩
theorem Et:af Tryz.prog 211=some Iq:=by kernel_rfl
noncomputable def I_:TI:=⟨.struct [(0,56),(5,48),(6,3),(7,3),(8,3)],9,136,[.int .i64 0,.string ⟨#[]⟩,.string ⟨#[]⟩,.slice none 0 0,.slice none 0 0,.slice none 0 0,.int .i64 0,.int .i64 0,.int .i64 0]⟩
theorem Af:af Tryz.prog 212=some I_:=by kernel_rfl
noncomputable def xz:TI:=⟨.ptr 212,1,8,[.pointer none]⟩
theorem Ho:af Tryz.prog 213=some xz:=by kernel_rfl
noncomputable def HJ:TI:=⟨.func,1,8,[.nilFunc]⟩
theorem Dr:af Tryz.prog 214=some HJ:=by kernel_rfl
noncomputable def C3:TI:=⟨.func,1,8,[.nilFunc]⟩
theorem Bm:af Tryz.prog 215=some C3:=by kernel_rfl
noncomputable def FQ:TI:=⟨.func,1,8,[.nilFunc]⟩
theorem Cl:af Tryz.prog 216=some FQ:=by kernel_rfl
noncomputable def xc:TI:=⟨.func,1,8,[.nilFunc]⟩
theorem FS:af Tryz.prog 217=some xc:=by kernel_rfl
noncomputable def yU:TI:=⟨.func,1,8,[.nilFunc]⟩
theorem A1:af Tryz.prog 218=some yU:=by kernel_rfl
noncomputable def IQ:TI:=⟨.func,1,8,[.nilFunc]⟩
theorem Bp:af Tryz.prog 219=some IQ:=by kernel_rfl
noncomputable def EX:TI:=⟨.func,1,8,[.nilFunc]⟩
theorem FI:af Tryz.prog 220=some EX:=by kernel_rfl
noncomputable def EI:TI:=⟨.struct [(0,101),(1,3),(2,3),(3,3),(4,3),(5,4),(6,219)],7,56,[.pointer none,.int .i64 0,.int .i64 0,.int .i64 0,.int .i64 0,.bool false,.nilFunc]⟩
theorem Fk:af Tryz.prog 221=some EI:=by kernel_rfl
noncomputable def BH:TI:=⟨.struct [(0,101),(1,3),(2,3),(3,3),(4,3),(5,4),(6,219)],7,56,[.pointer none,.int .i64 0,.int .i64 0,.int .i64 0,.int .i64 0,.bool false,.nilFunc]⟩
theorem C8:af Tryz.prog 222=some BH:=by kernel_rfl
noncomputable def D0:TI:=⟨.slice 247,1,24,[.slice none 0 0]⟩
theorem xy:af Tryz.prog 223=some D0:=by kernel_rfl
noncomputable def Ej:TI:=⟨.struct [(0,3),(1,223)],2,32,[.int .i64 0,.slice none 0 0]⟩
theorem zl:af Tryz.prog 224=some Ej:=by kernel_rfl
noncomputable def ER:TI:=⟨.struct [(0,3),(1,223)],2,32,[.int .i64 0,.slice none 0 0]⟩
theorem zv:af Tryz.prog 225=some ER:=by kernel_rfl
noncomputable def Fp:TI:=⟨.ptr 79,1,8,[.pointer none]⟩
theorem zY:af Tryz.prog 226=some Fp:=by kernel_rfl
noncomputable def HR:TI:=⟨.struct [(0,42),(8,3)],9,72,[.int .i64 0,.int .i64 0,.int .i64 0,.int .i64 0,.int .i64 0,.int .i64 0,.int .i64 0,.int .i64 0,.int .i64 0]⟩
theorem F3:af Tryz.prog 227=some HR:=by kernel_rfl
noncomputable def Bf:TI:=⟨.struct [(0,42),(8,3)],9,72,[.int .i64 0,.int .i64 0,.int .i64 0,.int .i64 0,.int .i64 0,.int .i64 0,.int .i64 0,.int .i64 0,.int .i64 0]⟩
theorem IJ:af Tryz.prog 228=some Bf:=by kernel_rfl
noncomputable def zg:TI:=⟨.func,1,8,[.nilFunc]⟩
theorem xX:af Tryz.prog 229=some zg:=by kernel_rfl
noncomputable def D7:TI:=⟨.func,1,8,[.nilFunc]⟩
theorem zU:af Tryz.prog 230=some D7:=by kernel_rfl
noncomputable def C_:TI:=⟨.func,1,8,[.nilFunc]⟩
theorem xY:af Tryz.prog 231=some C_:=by kernel_rfl
noncomputable def HD:TI:=⟨.func,1,8,[.nilFunc]⟩
theorem Ij:af Tryz.prog 232=some HD:=by kernel_rfl
noncomputable def zE:TI:=⟨.func,1,8,[.nilFunc]⟩
theorem Gj:af Tryz.prog 233=some zE:=by kernel_rfl
noncomputable def Ct:TI:=⟨.func,1,8,[.nilFunc]⟩
theorem Bb:af Tryz.prog 234=some Ct:=by kernel_rfl
noncomputable def zD:TI:=⟨.func,1,8,[.nilFunc]⟩
theorem zo:af Tryz.prog 235=some zD:=by kernel_rfl
noncomputable def xa:TI:=⟨.func,1,8,[.nilFunc]⟩
theorem II:af Tryz.prog 236=some xa:=by kernel_rfl
noncomputable def EN:TI:=⟨.func,1,8,[.nilFunc]⟩
theorem yi:af Tryz.prog 237=some EN:=by kernel_rfl
noncomputable def zz:TI:=⟨.func,1,8,[.nilFunc]⟩
theorem FH:af Tryz.prog 238=some zz:=by kernel_rfl
noncomputable def Az:TI:=⟨.func,1,8,[.nilFunc]⟩
theorem A3:af Tryz.prog 239=some Az:=by kernel_rfl
noncomputable def xJ:TI:=⟨.func,1,8,[.nilFunc]⟩
theorem DH:af Tryz.prog 240=some xJ:=by kernel_rfl
noncomputable def ES:TI:=⟨.func,1,8,[.nilFunc]⟩
theorem xr:af Tryz.prog 241=some ES:=by kernel_rfl
noncomputable def GA:TI:=⟨.slice 5,1,24,[.slice none 0 0]⟩
theorem AN:af Tryz.prog 242=some GA:=by kernel_rfl
noncomputable def yT:TI:=⟨.func,1,8,[.nilFunc]⟩
theorem BJ:af Tryz.prog 243=some yT:=by kernel_rfl
noncomputable def xh:TI:=⟨.func,1,8,[.nilFunc]⟩
theorem HV:af Tryz.prog 244=some xh:=by kernel_rfl
noncomputable def Gy:TI:=⟨.func,1,8,[.nilFunc]⟩
theorem yG:af Tryz.prog 245=some Gy:=by kernel_rfl
noncomputable def zm:TI:=⟨.struct [(0,3),(1,3)],2,16,[.int .i64 0,.int .i64 0]⟩
theorem Cu:af Tryz.prog 246=some zm:=by kernel_rfl
noncomputable def F6:TI:=⟨.struct [(0,3),(1,3)],2,16,[.int .i64 0,.int .i64 0]⟩
theorem Fo:af Tryz.prog 247=some F6:=by kernel_rfl
noncomputable def Cr:TI:=⟨.func,1,8,[.nilFunc]⟩
theorem xe:af Tryz.prog 248=some Cr:=by kernel_rfl
noncomputable def CB:TI:=⟨.func,1,8,[.nilFunc]⟩
theorem zy:af Tryz.prog 249=some CB:=by kernel_rfl
noncomputable def FG:TI:=⟨.func,1,8,[.nilFunc]⟩
theorem Bu:af Tryz.prog 250=some FG:=by kernel_rfl
noncomputable def EM:TI:=⟨.ptr 201,1,8,[.pointer none]⟩
theorem Dv:af Tryz.prog 251=some EM:=by kernel_rfl
noncomputable def CV:TI:=⟨.func,1,8,[.nilFunc]⟩
theorem EO:af Tryz.prog 252=some CV:=by kernel_rfl
noncomputable def Ie:TI:=⟨.func,1,8,[.nilFunc]⟩
theorem CT:af Tryz.prog 253=some Ie:=by kernel_rfl
noncomputable def yM:TI:=⟨.slice 280,1,24,[.slice none 0 0]⟩
theorem C9:af Tryz.prog 254=some yM:=by kernel_rfl
noncomputable def Bg:TI:=⟨.slice 262,1,24,[.slice none 0 0]⟩
theorem DY:af Tryz.prog 255=some Bg:=by kernel_rfl
noncomputable def Fa:TI:=⟨.struct [(0,9),(1,53),(2,53),(3,254),(4,255)],5,112,[.string ⟨#[]⟩,.slice none 0 0,.slice none 0 0,.slice none 0 0,.slice none 0 0]⟩
theorem Ce:af Tryz.prog 256=some Fa:=by kernel_rfl
noncomputable def AS:TI:=⟨.struct [(0,9),(1,53),(2,53),(3,254),(4,255)],5,112,[.string ⟨#[]⟩,.slice none 0 0,.slice none 0 0,.slice none 0 0,.slice none 0 0]⟩
theorem xM:af Tryz.prog 257=some AS:=by kernel_rfl
noncomputable def BP:TI:=⟨.struct [(0,3),(1,257)],6,120,[.int .i64 0,.string ⟨#[]⟩,.slice none 0 0,.slice none 0 0,.slice none 0 0,.slice none 0 0]⟩
theorem yH:af Tryz.prog 258=some BP:=by kernel_rfl
noncomputable def Ez:TI:=⟨.struct [(0,3),(1,257)],6,120,[.int .i64 0,.string ⟨#[]⟩,.slice none 0 0,.slice none 0 0,.slice none 0 0,.slice none 0 0]⟩
theorem BU:af Tryz.prog 259=some Ez:=by kernel_rfl
noncomputable def Bl:TI:=⟨.func,1,8,[.nilFunc]⟩
theorem BC:af Tryz.prog 260=some Bl:=by kernel_rfl
noncomputable def EB:TI:=⟨.struct [(0,3),(1,3),(2,3),(3,75)],4,48,[.int .i64 0,.int .i64 0,.int .i64 0,.slice none 0 0]⟩
theorem Bv:af Tryz.prog 261=some EB:=by kernel_rfl
noncomputable def Di:TI:=⟨.struct [(0,3),(1,3),(2,3),(3,75)],4,48,[.int .i64 0,.int .i64 0,.int .i64 0,.slice none 0 0]⟩
theorem Dg:af Tryz.prog 262=some Di:=by kernel_rfl
noncomputable def EU:TI:=⟨.func,1,8,[.nilFunc]⟩
theorem xQ:af Tryz.prog 263=some EU:=by kernel_rfl
noncomputable def FZ:TI:=⟨.func,1,8,[.nilFunc]⟩
theorem DQ:af Tryz.prog 264=some FZ:=by kernel_rfl
noncomputable def Gk:TI:=⟨.func,1,8,[.nilFunc]⟩
theorem AG:af Tryz.prog 265=some Gk:=by kernel_rfl
noncomputable def EP:TI:=⟨.func,1,8,[.nilFunc]⟩
theorem BW:af Tryz.prog 266=some EP:=by kernel_rfl
noncomputable def Ew:TI:=⟨.func,1,8,[.nilFunc]⟩
theorem xG:af Tryz.prog 267=some Ew:=by kernel_rfl
noncomputable def yK:TI:=⟨.func,1,8,[.nilFunc]⟩
theorem yC:af Tryz.prog 268=some yK:=by kernel_rfl
noncomputable def Gi:TI:=⟨.func,1,8,[.nilFunc]⟩
theorem It:af Tryz.prog 269=some Gi:=by kernel_rfl
noncomputable def Aq:TI:=⟨.ptr 104,1,8,[.pointer none]⟩
theorem B8:af Tryz.prog 270=some Aq:=by kernel_rfl
noncomputable def IE:TI:=⟨.func,1,8,[.nilFunc]⟩
theorem Ch:af Tryz.prog 271=some IE:=by kernel_rfl
noncomputable def CN:TI:=⟨.func,1,8,[.nilFunc]⟩
theorem yQ:af Tryz.prog 272=some CN:=by kernel_rfl
noncomputable def yZ:TI:=⟨.func,1,8,[.nilFunc]⟩
theorem Cb:af Tryz.prog 273=some yZ:=by kernel_rfl
noncomputable def Il:TI:=⟨.ptr 142,1,8,[.pointer none]⟩
theorem zb:af Tryz.prog 274=some Il:=by kernel_rfl
noncomputable def BL:TI:=⟨.func,1,8,[.nilFunc]⟩
theorem xq:af Tryz.prog 275=some BL:=by kernel_rfl
noncomputable def zW:TI:=⟨.func,1,8,[.nilFunc]⟩
theorem Fl:af Tryz.prog 276=some zW:=by kernel_rfl
noncomputable def GB:TI:=⟨.func,1,8,[.nilFunc]⟩
theorem AB:af Tryz.prog 277=some GB:=by kernel_rfl
noncomputable def zp:TI:=⟨.func,1,8,[.nilFunc]⟩
theorem If:af Tryz.prog 278=some zp:=by kernel_rfl
noncomputable def BD:TI:=⟨.struct [(0,9),(1,3),(2,9)],3,40,[.string ⟨#[]⟩,.int .i64 0,.string ⟨#[]⟩]⟩
theorem zJ:af Tryz.prog 279=some BD:=by kernel_rfl
noncomputable def G0:TI:=⟨.struct [(0,9),(1,3),(2,9)],3,40,[.string ⟨#[]⟩,.int .i64 0,.string ⟨#[]⟩]⟩
theorem Cg:af Tryz.prog 280=some G0:=by kernel_rfl
noncomputable def GZ:TI:=⟨.func,1,8,[.nilFunc]⟩
theorem w7:af Tryz.prog 281=some GZ:=by kernel_rfl
noncomputable def EF:TI:=⟨.func,1,8,[.nilFunc]⟩
theorem By:af Tryz.prog 282=some EF:=by kernel_rfl
noncomputable def I6:TI:=⟨.func,1,8,[.nilFunc]⟩
theorem B3:af Tryz.prog 283=some I6:=by kernel_rfl
noncomputable def Es:TI:=⟨.func,1,8,[.nilFunc]⟩
theorem xo:af Tryz.prog 284=some Es:=by kernel_rfl
noncomputable def yf:TI:=⟨.func,1,8,[.nilFunc]⟩
theorem GD:af Tryz.prog 285=some yf:=by kernel_rfl
noncomputable def Ef:TI:=⟨.struct [(0,185),(4,3)],5,40,[.int .i64 0,.int .i64 0,.int .i64 0,.bool false,.int .i64 0]⟩
theorem zL:af Tryz.prog 286=some Ef:=by kernel_rfl
noncomputable def Ix:TI:=⟨.struct [(0,185),(4,3)],5,40,[.int .i64 0,.int .i64 0,.int .i64 0,.bool false,.int .i64 0]⟩
theorem G5:af Tryz.prog 287=some Ix:=by kernel_rfl
noncomputable def Em:TI:=⟨.array 8 287,40,320,[.int .i64 0,.int .i64 0,.int .i64 0,.bool false,.int .i64 0,.int .i64 0,.int .i64 0,.int .i64 0,.bool false,.int .i64 0,.int .i64 0,.int .i64 0,.int .i64 0,.bool false,.int .i64 0,.int .i64 0,.int .i64 0,.int .i64 0,.bool false,.int .i64 0,.int .i64 0,.int .i64 0,.int .i64 0,.bool false,.int .i64 0,.int .i64 0,.int .i64 0,.int .i64 0,.bool false,.int .i64 0,.int .i64 0,.int .i64 0,.int .i64 0,.bool false,.int .i64 0,.int .i64 0,.int .i64 0,.int .i64 0,.bool false,.int .i64 0]⟩
theorem Fu:af Tryz.prog 288=some Em:=by kernel_rfl
noncomputable def FB:TI:=⟨.func,1,8,[.nilFunc]⟩
theorem EV:af Tryz.prog 289=some FB:=by kernel_rfl
noncomputable def DS:TI:=⟨.func,1,8,[.nilFunc]⟩
theorem Gc:af Tryz.prog 290=some DS:=by kernel_rfl
noncomputable def Cx:TI:=⟨.func,1,8,[.nilFunc]⟩
theorem IZ:af Tryz.prog 291=some Cx:=by kernel_rfl
noncomputable def Du:TI:=⟨.func,1,8,[.nilFunc]⟩
theorem G6:af Tryz.prog 292=some Du:=by kernel_rfl
noncomputable def wW:TI:=⟨.array 3 3,3,24,[.int .i64 0,.int .i64 0,.int .i64 0]⟩
theorem yh:af Tryz.prog 293=some wW:=by kernel_rfl
noncomputable def zT:TI:=⟨.func,1,8,[.nilFunc]⟩
theorem xH:af Tryz.prog 294=some zT:=by kernel_rfl
noncomputable def GR:TI:=⟨.func,1,8,[.nilFunc]⟩
theorem BS:af Tryz.prog 295=some GR:=by kernel_rfl
noncomputable def Is:TI:=⟨.func,1,8,[.nilFunc]⟩
theorem IM:af Tryz.prog 296=some Is:=by kernel_rfl
noncomputable def yc:TI:=⟨.func,1,8,[.nilFunc]⟩
theorem Au:af Tryz.prog 297=some yc:=by kernel_rfl
noncomputable def Ib:TI:=⟨.func,1,8,[.nilFunc]⟩
theorem zu:af Tryz.prog 298=some Ib:=by kernel_rfl
noncomputable def xg:TI:=⟨.func,1,8,[.nilFunc]⟩
theorem xt:af Tryz.prog 299=some xg:=by kernel_rfl
noncomputable def D8:TI:=⟨.func,1,8,[.nilFunc]⟩
theorem Hy:af Tryz.prog 300=some D8:=by kernel_rfl
noncomputable def I5:TI:=⟨.func,1,8,[.nilFunc]⟩
theorem Ir:af Tryz.prog 301=some I5:=by kernel_rfl
noncomputable def Eo:TI:=⟨.func,1,8,[.nilFunc]⟩
theorem BR:af Tryz.prog 302=some Eo:=by kernel_rfl
noncomputable def Ds:TI:=⟨.ptr 317,1,8,[.pointer none]⟩
theorem Ea:af Tryz.prog 303=some Ds:=by kernel_rfl
noncomputable def Hz:TI:=⟨.func,1,8,[.nilFunc]⟩
theorem CI:af Tryz.prog 304=some Hz:=by kernel_rfl
noncomputable def zh:TI:=⟨.func,1,8,[.nilFunc]⟩
theorem IS:af Tryz.prog 305=some zh:=by kernel_rfl
noncomputable def yA:TI:=⟨.func,1,8,[.nilFunc]⟩
theorem zN:af Tryz.prog 306=some yA:=by kernel_rfl
noncomputable def w_:TI:=⟨.func,1,8,[.nilFunc]⟩
theorem CO:af Tryz.prog 307=some w_:=by kernel_rfl
noncomputable def yj:TI:=⟨.array 3 3,3,24,[.int .i64 0,.int .i64 0,.int .i64 0]⟩
theorem yW:af Tryz.prog 308=some yj:=by kernel_rfl
noncomputable def IC:TI:=⟨.func,1,8,[.nilFunc]⟩
theorem DI:af Tryz.prog 309=some IC:=by kernel_rfl
noncomputable def Bz:TI:=⟨.func,1,8,[.nilFunc]⟩
theorem HF:af Tryz.prog 310=some Bz:=by kernel_rfl
noncomputable def Bh:TI:=⟨.func,1,8,[.nilFunc]⟩
theorem IG:af Tryz.prog 311=some Bh:=by kernel_rfl
noncomputable def zc:TI:=⟨.func,1,8,[.nilFunc]⟩
theorem BB:af Tryz.prog 312=some zc:=by kernel_rfl
noncomputable def EA:TI:=⟨.func,1,8,[.nilFunc]⟩
theorem Dd:af Tryz.prog 313=some EA:=by kernel_rfl
noncomputable def ym:TI:=⟨.map 326 4,1,8,[.map none]⟩
theorem Hh:af Tryz.prog 314=some ym:=by kernel_rfl
noncomputable def zR:TI:=⟨.slice 318,1,24,[.slice none 0 0]⟩
theorem Er:af Tryz.prog 315=some zR:=by kernel_rfl
noncomputable def C4:TI:=⟨.struct [(0,60),(1,315),(2,314)],3,40,[.pointer none,.slice none 0 0,.map none]⟩
theorem FP:af Tryz.prog 316=some C4:=by kernel_rfl
noncomputable def Ja:TI:=⟨.struct [(0,60),(1,315),(2,314)],3,40,[.pointer none,.slice none 0 0,.map none]⟩
theorem yY:af Tryz.prog 317=some Ja:=by kernel_rfl
noncomputable def zB:TI:=⟨.slice 321,1,24,[.slice none 0 0]⟩
theorem Bj:af Tryz.prog 318=some zB:=by kernel_rfl
noncomputable def G7:TI:=⟨.slice 48,1,24,[.slice none 0 0]⟩
theorem GP:af Tryz.prog 319=some G7:=by kernel_rfl
noncomputable def Hg:TI:=⟨.struct [(0,259),(6,319)],7,144,[.int .i64 0,.string ⟨#[]⟩,.slice none 0 0,.slice none 0 0,.slice none 0 0,.slice none 0 0,.slice none 0 0]⟩
theorem Dt:af Tryz.prog 320=some Hg:=by kernel_rfl
noncomputable def CM:TI:=⟨.struct [(0,259),(6,319)],7,144,[.int .i64 0,.string ⟨#[]⟩,.slice none 0 0,.slice none 0 0,.slice none 0 0,.slice none 0 0,.slice none 0 0]⟩
theorem C0:af Tryz.prog 321=some CM:=by kernel_rfl
noncomputable def A4:TI:=⟨.ptr 308,1,8,[.pointer none]⟩
theorem D5:af Tryz.prog 322=some A4:=by kernel_rfl
noncomputable def Cd:TI:=⟨.func,1,8,[.nilFunc]⟩
theorem Ed:af Tryz.prog 323=some Cd:=by kernel_rfl
noncomputable def Hu:TI:=⟨.func,1,8,[.nilFunc]⟩
theorem Cz:af Tryz.prog 324=some Hu:=by kernel_rfl
noncomputable def xP:TI:=⟨.struct [(0,3),(1,3),(2,3),(3,4)],4,32,[.int .i64 0,.int .i64 0,.int .i64 0,.bool false]⟩
theorem yx:af Tryz.prog 325=some xP:=by kernel_rfl
noncomputable def GT:TI:=⟨.struct [(0,3),(1,3),(2,3),(3,4)],4,32,[.int .i64 0,.int .i64 0,.int .i64 0,.bool false]⟩
theorem Eb:af Tryz.prog 326=some GT:=by kernel_rfl
noncomputable def Iz:TI:=⟨.func,1,8,[.nilFunc]⟩
theorem Im:af Tryz.prog 327=some Iz:=by kernel_rfl
noncomputable def Ak:TI:=⟨.int .u64,1,8,[.int .u64 0]⟩
theorem DN:af Tryz.prog 328=some Ak:=by kernel_rfl
noncomputable def E5:TI:=⟨.func,1,8,[.nilFunc]⟩
theorem EY:af Tryz.prog 330=some E5:=by kernel_rfl
noncomputable def FU:TI:=⟨.func,1,8,[.nilFunc]⟩
theorem yu:af Tryz.prog 331=some FU:=by kernel_rfl
noncomputable def A_:TI:=⟨.func,1,8,[.nilFunc]⟩
theorem B9:af Tryz.prog 332=some A_:=by kernel_rfl
noncomputable def GE:TI:=⟨.func,1,8,[.nilFunc]⟩
theorem AX:af Tryz.prog 333=some GE:=by kernel_rfl
noncomputable def Fh:TI:=⟨.func,1,8,[.nilFunc]⟩
theorem Gt:af Tryz.prog 334=some Fh:=by kernel_rfl
noncomputable def H_:TI:=⟨.func,1,8,[.nilFunc]⟩
theorem Dh:af Tryz.prog 335=some H_:=by kernel_rfl
noncomputable def HK:TI:=⟨.func,1,8,[.nilFunc]⟩
theorem B4:af Tryz.prog 336=some HK:=by kernel_rfl
noncomputable def Fv:TI:=⟨.func,1,8,[.nilFunc]⟩
theorem za:af Tryz.prog 337=some Fv:=by kernel_rfl
noncomputable def Aj:TI:=⟨.int .u32,1,4,[.int .u32 0]⟩
theorem DF:af Tryz.prog 338=some Aj:=by kernel_rfl
noncomputable def DK:TI:=⟨.func,1,8,[.nilFunc]⟩
theorem I3:af Tryz.prog 340=some DK:=by kernel_rfl
noncomputable def In:TI:=⟨.func,1,8,[.nilFunc]⟩
theorem HL:af Tryz.prog 341=some In:=by kernel_rfl
noncomputable def xS:TI:=⟨.struct [(0,17),(1,17),(2,17),(3,9)],4,40,[.pointer none,.pointer none,.pointer none,.string ⟨#[]⟩]⟩
theorem CS:af Tryz.prog 342=some xS:=by kernel_rfl
noncomputable def w9:TI:=⟨.struct [(0,17),(1,17),(2,17),(3,9)],4,40,[.pointer none,.pointer none,.pointer none,.string ⟨#[]⟩]⟩
theorem HY:af Tryz.prog 343=some w9:=by kernel_rfl
noncomputable def Cy:TI:=⟨.array 0 16,0,0,[]⟩
theorem x_:af Tryz.prog 344=some Cy:=by kernel_rfl
noncomputable def FO:TI:=⟨.struct [(0,344)],0,0,[]⟩
theorem E_:af Tryz.prog 345=some FO:=by kernel_rfl
noncomputable def Hm:TI:=⟨.struct [(0,344)],0,0,[]⟩
theorem yO:af Tryz.prog 346=some Hm:=by kernel_rfl
noncomputable def G_:TI:=⟨.int .u8,1,1,[.int .u8 0]⟩
theorem ED:af Tryz.prog 347=some G_:=by kernel_rfl
noncomputable def HQ:TI:=⟨.int .u8,1,1,[.int .u8 0]⟩
theorem zt:af Tryz.prog 348=some HQ:=by kernel_rfl
noncomputable def CG:TI:=⟨.func,1,8,[.nilFunc]⟩
theorem zG:af Tryz.prog 349=some CG:=by kernel_rfl
noncomputable def DP:TI:=⟨.ptr 5,1,8,[.pointer none]⟩
theorem C5:af Tryz.prog 350=some DP:=by kernel_rfl
noncomputable def IP:TI:=⟨.int .i32,1,4,[.int .i32 0]⟩
theorem zO:af Tryz.prog 351=some IP:=by kernel_rfl
noncomputable def A2:TI:=⟨.int .i32,1,4,[.int .i32 0]⟩
theorem zn:af Tryz.prog 352=some A2:=by kernel_rfl
noncomputable def Dp:TI:=⟨.struct [(0,12),(1,12),(2,338),(3,347),(4,5),(5,5),(6,348),(7,349),(8,350),(9,351),(10,352)],11,48,[.int .u64 0,.int .u64 0,.int .u32 0,.int .u8 0,.int .u8 0,.int .u8 0,.int .u8 0,.nilFunc,.pointer none,.int .i32 0,.int .i32 0]⟩
theorem yL:af Tryz.prog 353=some Dp:=by kernel_rfl
noncomputable def E7:TI:=⟨.struct [(0,12),(1,12),(2,338),(3,347),(4,5),(5,5),(6,348),(7,349),(8,350),(9,351),(10,352)],11,48,[.int .u64 0,.int .u64 0,.int .u32 0,.int .u8 0,.int .u8 0,.int .u8 0,.int .u8 0,.nilFunc,.pointer none,.int .i32 0,.int .i32 0]⟩
theorem FX:af Tryz.prog 354=some E7:=by kernel_rfl
noncomputable def tiT:Tr TI:=.node none (.node (some ti1) (.node (some ti3) (.node (some ti7) (.node (some OR) (.node (some MT) (.node none (.node (some vo) (.node (some Bg) .leaf .leaf) .leaf) (.node (some yV) (.node (some G7) .leaf .leaf) .leaf)) (.node (some OD) (.node (some IK) (.node (some Ix) .leaf .leaf) .leaf) (.node (some D0) (.node (some IP) .leaf .leaf) .leaf))) (.node (some MZ) (.node (some No) (.node (some Gm) (.node (some IE) .leaf .leaf) .leaf) (.node (some E6) (.node (some H_) .leaf .leaf) .leaf)) (.node (some Ge) (.node (some yN) (.node (some Ds) .leaf .leaf) .leaf) (.node (some Az) .leaf .leaf)))) (.node (some OC) (.node (some Nf) (.node (some Nu) (.node (some xd) (.node (some EU) .leaf .leaf) .leaf) (.node (some CQ) (.node (some Iz) .leaf .leaf) .leaf)) (.node (some zx) (.node (some Do) (.node (some GR) .leaf .leaf) .leaf) (.node (some C_) .leaf .leaf))) (.node (some Oz) (.node (some OW) (.node (some HX) (.node (some BD) .leaf .leaf) .leaf) (.node (some C3) (.node (some w9) .leaf .leaf) .leaf)) (.node (some De) (.node (some GQ) (.node (some Bh) .leaf .leaf) .leaf) (.node (some F6) .leaf .leaf))))) (.node (some NA) (.node (some N0) (.node (some OV) (.node (some MI) (.node (some I1) (.node (some Ez) .leaf .leaf) .leaf) (.node (some xE) (.node (some Cd) .leaf .leaf) .leaf)) (.node (some NO) (.node (some EG) (.node (some Cx) .leaf .leaf) .leaf) (.node (some HR) .leaf .leaf))) (.node (some Nv) (.node (some Nm) (.node (some zf) (.node (some BL) .leaf .leaf) .leaf) (.node (some Iq) .leaf .leaf)) (.node (some DV) (.node (some CC) (.node (some w_) .leaf .leaf) .leaf) (.node (some yT) .leaf .leaf)))) (.node (some OH) (.node (some Nl) (.node (some Oj) (.node (some z2) (.node (some Ew) .leaf .leaf) .leaf) (.node (some xF) (.node (some FU) .leaf .leaf) .leaf)) (.node (some IV) (.node (some DT) (.node (some xg) .leaf .leaf) .leaf) (.node (some zD) .leaf .leaf))) (.node (some NV) (.node (some NG) (.node (some B7) (.node (some I6) .leaf .leaf) .leaf) (.node (some IQ) (.node (some G_) .leaf .leaf) .leaf)) (.node (some w8) (.node (some ze) (.node (some zR) .leaf .leaf) .leaf) (.node (some EM) .leaf .leaf)))))) (.node (some ti5) (.node (some ti9) (.node (some Om) (.node (some ON) (.node (some MR) (.node (some A6) (.node (some AS) .leaf .leaf) .leaf) (.node (some HW) (.node (some CM) .leaf .leaf) .leaf)) (.node (some Ng) (.node (some y_) (.node (some FB) .leaf .leaf) .leaf) (.node (some ER) (.node (some Dp) .leaf .leaf) .leaf))) (.node (some ND) (.node (some Ox) (.node (some EK) (.node (some yZ) .leaf .leaf) .leaf) (.node (some CF) (.node (some Fv) .leaf .leaf) .leaf)) (.node (some Hs) (.node (some yE) (.node (some zh) .leaf .leaf) .leaf) (.node (some ES) .leaf .leaf)))) (.node (some N1) (.node (some Nq) (.node (some OG) (.node none (.node (some Gk) .leaf .leaf) .leaf) (.node (some FT) .leaf .leaf)) (.node (some BG) (.node (some Gl) (.node (some yc) .leaf .leaf) .leaf) (.node (some zE) .leaf .leaf))) (.node (some OI) (.node (some MY) (.node (some DD) (.node (some GZ) .leaf .leaf) .leaf) (.node (some xc) (.node (some FO) .leaf .leaf) .leaf)) (.node (some Ae) (.node (some zk) (.node (some EA) .leaf .leaf) .leaf) (.node (some CB) .leaf .leaf))))) (.node (some OX) (.node (some Ot) (.node none (.node (some MC) (.node (some Ih) (.node (some EB) .leaf .leaf) .leaf) (.node (some Eu) (.node (some xP) .leaf .leaf) .leaf)) (.node (some xU) (.node (some Cn) (.node (some wW) .leaf .leaf) .leaf) (.node (some zg) .leaf .leaf))) (.node (some Ln) (.node (some N3) (.node (some Co) (.node (some GB) .leaf .leaf) .leaf) (.node (some xz) (.node (some In) .leaf .leaf) .leaf)) (.node (some AM) (.node (some C6) (.node (some IC) .leaf .leaf) .leaf) (.node (some Gy) .leaf .leaf)))) (.node none (.node (some MN) (.node (some Nb) (.node (some CR) (.node (some Gi) .leaf .leaf) .leaf) (.node (some ET) (.node (some GE) .leaf .leaf) .leaf)) (.node (some Fi) (.node (some Fq) (.node (some I5) .leaf .leaf) .leaf) (.node (some EN) .leaf .leaf))) (.node none (.node (some Nn) (.node (some IX) (.node (some yf) .leaf .leaf) .leaf) (.node (some EI) (.node (some CG) .leaf .leaf) .leaf)) (.node (some Ao) (.node (some Gn) (.node (some Ja) .leaf .leaf) .leaf) (.node (some Ie) .leaf .leaf))))))) (.node (some ti2) (.node (some ti4) (.node (some ti8) (.node (some Np) (.node (some OL) (.node (some OJ) (.node (some CH) (.node (some Fa) .leaf .leaf) .leaf) (.node (some Ip) (.node (some Hg) .leaf .leaf) .leaf)) (.node (some Og) (.node (some Ga) (.node (some Em) .leaf .leaf) .leaf) (.node (some Ej) (.node (some A2) .leaf .leaf) .leaf))) (.node (some O3) (.node (some N2) (.node (some zZ) (.node (some CN) .leaf .leaf) .leaf) (.node (some yv) (.node (some HK) .leaf .leaf) .leaf)) (.node (some Ah) (.node (some EW) (.node (some Hz) .leaf .leaf) .leaf) (.node (some xJ) .leaf .leaf)))) (.node (some O2) (.node (some Na) (.node (some Nr) (.node (some AO) (.node (some FZ) .leaf .leaf) .leaf) (.node (some Ai) (.node (some Ak) .leaf .leaf) .leaf)) (.node (some xp) (.node (some Ik) (.node (some Is) .leaf .leaf) .leaf) (.node (some HD) .leaf .leaf))) (.node (some LU) (.node (some Nh) (.node (some FY) (.node (some G0) .leaf .leaf) .leaf) (.node (some FQ) (.node (some Cy) .leaf .leaf) .leaf)) (.node (some Ar) (.node (some D_) (.node (some zc) .leaf .leaf) .leaf) (.node (some Cr) .leaf .leaf))))) (.node (some MX) (.node none (.node (some NP) (.node (some Oy) (.node (some Ee) (.node (some Bl) .leaf .leaf) .leaf) (.node (some ID) (.node (some Hu) .leaf .leaf) .leaf)) (.node (some xu) (.node (some GG) (.node (some Du) .leaf .leaf) .leaf) (.node (some Bf) .leaf .leaf))) (.node (some ME) (.node (some NQ) (.node (some HZ) (.node (some zW) .leaf .leaf) .leaf) (.node (some I_) (.node (some DK) .leaf .leaf) .leaf)) (.node (some AQ) (.node (some CJ) (.node (some yj) .leaf .leaf) .leaf) (.node (some xh) .leaf .leaf)))) (.node (some Nx) (.node none (.node (some MV) (.node (some GV) (.node (some yK) .leaf .leaf) .leaf) (.node (some Ba) (.node (some A_) .leaf .leaf) .leaf)) (.node (some yP) (.node (some Cv) (.node (some D8) .leaf .leaf) .leaf) (.node (some xa) .leaf .leaf))) (.node (some NZ) (.node (some NF) (.node (some DM) (.node (some Es) .leaf .leaf) .leaf) (.node (some EX) (.node (some HQ) .leaf .leaf) .leaf)) (.node (some A8) (.node (some DX) (.node (some C4) .leaf .leaf) .leaf) (.node (some CV) .leaf .leaf)))))) (.node (some ti6) (.node (some Nj) (.node (some OK) (.node (some OZ) (.node (some Od) (.node (some BO) (.node (some BP) .leaf .leaf) .leaf) (.node (some xV) (.node (some A4) .leaf .leaf) .leaf)) (.node (some On) (.node (some GN) (.node (some DS) .leaf .leaf) .leaf) (.node (some Fp) (.node (some E7) .leaf .leaf) .leaf))) (.node (some Oh) (.node (some NX) (.node none (.node (some Il) .leaf .leaf) .leaf) (.node (some Hi) (.node (some Aj) .leaf .leaf) .leaf)) (.node (some IR) (.node (some HI) (.node (some yA) .leaf .leaf) .leaf) (.node (some GA) .leaf .leaf)))) (.node (some Ov) (.node (some OQ) (.node (some Oa) (.node (some DJ) (.node (some EP) .leaf .leaf) .leaf) (.node (some E4) (.node (some E5) .leaf .leaf) .leaf)) (.node (some wZ) (.node (some yn) (.node (some Ib) .leaf .leaf) .leaf) (.node (some Ct) .leaf .leaf))) (.node (some NW) (.node (some Oi) (.node (some Gv) (.node (some EF) .leaf .leaf) .leaf) (.node (some yU) (.node (some Hm) .leaf .leaf) .leaf)) (.node (some G4) (.node (some I0) (.node (some ym) .leaf .leaf) .leaf) (.node (some FG) .leaf .leaf))))) (.node (some NR) (.node (some Ky) (.node (some N4) (.node none (.node (some xZ) (.node (some Di) .leaf .leaf) .leaf) (.node (some HE) (.node (some GT) .leaf .leaf) .leaf)) (.node (some yk) (.node (some GI) (.node (some zT) .leaf .leaf) .leaf) (.node (some D7) .leaf .leaf))) (.node (some Kz) (.node (some Ni) (.node (some zK) (.node (some zp) .leaf .leaf) .leaf) (.node (some HJ) (.node (some xS) .leaf .leaf) .leaf)) (.node (some EL) (.node none (.node (some Bz) .leaf .leaf) .leaf) (.node (some zm) .leaf .leaf)))) (.node (some Nw) (.node (some MA) (.node (some NY) (.node (some wX) (.node (some Aq) .leaf .leaf) .leaf) (.node (some Dl) (.node (some Fh) .leaf .leaf) .leaf)) (.node (some yb) (.node (some xx) (.node (some Eo) .leaf .leaf) .leaf) (.node (some zz) .leaf .leaf))) (.node (some OS) (.node (some OE) (.node (some zI) (.node (some Ef) .leaf .leaf) .leaf) (.node (some BH) (.node (some DP) .leaf .leaf) .leaf)) (.node (some Iu) (.node (some Cf) (.node (some zB) .leaf .leaf) .leaf) (.node (some yM) .leaf .leaf)))))))
theorem I8:tiT.toL=[(1,ti1),(3,ti3),(7,ti7),(15,OR),(31,MT),(127,vo),(255,Bg),(191,yV),(319,G7),(95,OD),(159,IK),(287,Ix),(223,D0),(351,IP),(47,MZ),(79,No),(143,Gm),(271,IE),(207,E6),(335,H_),(111,Ge),(175,yN),(303,Ds),(239,Az),(23,OC),(39,Nf),(71,Nu),(135,xd),(263,EU),(199,CQ),(327,Iz),(103,zx),(167,Do),(295,GR),(231,C_),(55,Oz),(87,OW),(151,HX),(279,BD),(215,C3),(343,w9),(119,De),(183,GQ),(311,Bh),(247,F6),(11,NA),(19,N0),(35,OV),(67,MI),(131,I1),(259,Ez),(195,xE),(323,Cd),(99,NO),(163,EG),(291,Cx),(227,HR),(51,Nv),(83,Nm),(147,zf),(275,BL),(211,Iq),(115,DV),(179,CC),(307,w_),(243,yT),(27,OH),(43,Nl),(75,Oj),(139,z2),(267,Ew),(203,xF),(331,FU),(107,IV),(171,DT),(299,xg),(235,zD),(59,NV),(91,NG),(155,B7),(283,I6),(219,IQ),(347,G_),(123,w8),(187,ze),(315,zR),(251,EM),(5,ti5),(9,ti9),(17,Om),(33,ON),(65,MR),(129,A6),(257,AS),(193,HW),(321,CM),(97,Ng),(161,y_),(289,FB),(225,ER),(353,Dp),(49,ND),(81,Ox),(145,EK),(273,yZ),(209,CF),(337,Fv),(113,Hs),(177,yE),(305,zh),(241,ES),(25,N1),(41,Nq),(73,OG),(265,Gk),(201,FT),(105,BG),(169,Gl),(297,yc),(233,zE),(57,OI),(89,MY),(153,DD),(281,GZ),(217,xc),(345,FO),(121,Ae),(185,zk),(313,EA),(249,CB),(13,OX),(21,Ot),(69,MC),(133,Ih),(261,EB),(197,Eu),(325,xP),(101,xU),(165,Cn),(293,wW),(229,zg),(53,Ln),(85,N3),(149,Co),(277,GB),(213,xz),(341,In),(117,AM),(181,C6),(309,IC),(245,Gy),(45,MN),(77,Nb),(141,CR),(269,Gi),(205,ET),(333,GE),(109,Fi),(173,Fq),(301,I5),(237,EN),(93,Nn),(157,IX),(285,yf),(221,EI),(349,CG),(125,Ao),(189,Gn),(317,Ja),(253,Ie),(2,ti2),(4,ti4),(8,ti8),(16,Np),(32,OL),(64,OJ),(128,CH),(256,Fa),(192,Ip),(320,Hg),(96,Og),(160,Ga),(288,Em),(224,Ej),(352,A2),(48,O3),(80,N2),(144,zZ),(272,CN),(208,yv),(336,HK),(112,Ah),(176,EW),(304,Hz),(240,xJ),(24,O2),(40,Na),(72,Nr),(136,AO),(264,FZ),(200,Ai),(328,Ak),(104,xp),(168,Ik),(296,Is),(232,HD),(56,LU),(88,Nh),(152,FY),(280,G0),(216,FQ),(344,Cy),(120,Ar),(184,D_),(312,zc),(248,Cr),(12,MX),(36,NP),(68,Oy),(132,Ee),(260,Bl),(196,ID),(324,Hu),(100,xu),(164,GG),(292,Du),(228,Bf),(52,ME),(84,NQ),(148,HZ),(276,zW),(212,I_),(340,DK),(116,AQ),(180,CJ),(308,yj),(244,xh),(28,Nx),(76,MV),(140,GV),(268,yK),(204,Ba),(332,A_),(108,yP),(172,Cv),(300,D8),(236,xa),(60,NZ),(92,NF),(156,DM),(284,Es),(220,EX),(348,HQ),(124,A8),(188,DX),(316,C4),(252,CV),(6,ti6),(10,Nj),(18,OK),(34,OZ),(66,Od),(130,BO),(258,BP),(194,xV),(322,A4),(98,On),(162,GN),(290,DS),(226,Fp),(354,E7),(50,Oh),(82,NX),(274,Il),(210,Hi),(338,Aj),(114,IR),(178,HI),(306,yA),(242,GA),(26,Ov),(42,OQ),(74,Oa),(138,DJ),(266,EP),(202,E4),(330,E5),(106,wZ),(170,yn),(298,Ib),(234,Ct),(58,NW),(90,Oi),(154,Gv),(282,EF),(218,yU),(346,Hm),(122,G4),(186,I0),(314,ym),(250,FG),(14,NR),(22,Ky),(38,N4),(134,xZ),(262,Di),(198,HE),(326,GT),(102,yk),(166,GI),(294,zT),(230,D7),(54,Kz),(86,Ni),(150,zK),(278,zp),(214,HJ),(342,xS),(118,EL),(310,Bz),(246,zm),(30,Nw),(46,MA),(78,NY),(142,wX),(270,Aq),(206,Dl),(334,Fh),(110,yb),(174,xx),(302,Eo),(238,zz),(62,OS),(94,OE),(158,zI),(286,Ef),(222,BH),(350,DP),(126,Iu),(190,Cf),(318,zB),(254,yM)]:=by kernel_rfl
theorem nG:∀ t i,tiT.get t=some i→af Tryz.prog t=some i:=by
 refine Tr.all_get (p:=fun t i=>af Tryz.prog t=some i) ?_
 rw [I8]
 exact .cons NC (.cons NI (.cons NJ (.cons LC (.cons JQ (.cons FV (.cons DY (.cons xT (.cons GP (.cons Kp (.cons xL (.cons G5 (.cons xy (.cons zO (.cons Ks (.cons Kg (.cons Dz (.cons Ch (.cons Ek (.cons Dh (.cons GL (.cons zi (.cons Ea (.cons A3 (.cons Le (.cons Lb (.cons Jd (.cons D6 (.cons xQ (.cons Ig (.cons Im (.cons xK (.cons GC (.cons BS (.cons xY (.cons JZ (.cons KQ (.cons Ap (.cons zJ (.cons Bm (.cons HY (.cons GY (.cons CY (.cons IG (.cons Fo (.cons JG (.cons LP (.cons Lh (.cons Jx (.cons Ht (.cons BU (.cons DA (.cons Ed (.cons LI (.cons F5 (.cons IZ (.cons F3 (.cons J5 (.cons LZ (.cons GS (.cons xq (.cons Et (.cons BI (.cons HT (.cons CO (.cons BJ (.cons Kl (.cons J4 (.cons Ke (.cons ye (.cons xG (.cons GU (.cons yu (.cons yg (.cons EC (.cons xt (.cons zo (.cons LW (.cons Jm (.cons He (.cons B3 (.cons Bp (.cons ED (.cons Gr (.cons Gu (.cons Er (.cons Dv (.cons NB (.cons Ny (.cons KP (.cons KI (.cons Kw (.cons AR (.cons xM (.cons DR (.cons C0 (.cons JF (.cons zd (.cons EV (.cons zv (.cons yL (.cons Jh (.cons Li (.cons Dc (.cons Cb (.cons Dw (.cons za (.cons Dj (.cons Eh (.cons IS (.cons xr (.cons Kc (.cons Jq (.cons KD (.cons AG (.cons yo (.cons yB (.cons CK (.cons Au (.cons Gj (.cons K5 (.cons K1 (.cons HB (.cons w7 (.cons FS (.cons E_ (.cons AZ (.cons EH (.cons Dd (.cons zy (.cons L6 (.cons Jy (.cons Lw (.cons B5 (.cons Bv (.cons xC (.cons yx (.cons Be (.cons C1 (.cons yh (.cons xX (.cons Je (.cons JX (.cons Gw (.cons AB (.cons Ho (.cons HL (.cons BM (.cons Hl (.cons DI (.cons yG (.cons JM (.cons LX (.cons El (.cons It (.cons CL (.cons AX (.cons DB (.cons BV (.cons Ir (.cons yi (.cons LH (.cons B2 (.cons GD (.cons Fk (.cons zG (.cons Cm (.cons xB (.cons yY (.cons CT (.cons N5 (.cons MF (.cons MD (.cons Lo (.cons Jn (.cons J_ (.cons BX (.cons Ce (.cons FJ (.cons Dt (.cons Kk (.cons DL (.cons Fu (.cons zl (.cons zn (.cons KZ (.cons Ly (.cons z_ (.cons yQ (.cons Da (.cons B4 (.cons IB (.cons Gh (.cons CI (.cons DH (.cons LG (.cons JN (.cons Kb (.cons xb (.cons DQ (.cons zA (.cons DN (.cons Bc (.cons D4 (.cons IM (.cons Ij (.cons KA (.cons Lz (.cons xi (.cons Cg (.cons Cl (.cons x_ (.cons CD (.cons yr (.cons BB (.cons xe (.cons JH (.cons KT (.cons KL (.cons ya (.cons BC (.cons yz (.cons Cz (.cons GM (.cons zH (.cons G6 (.cons IJ (.cons Lk (.cons Kq (.cons IW (.cons Fl (.cons Af (.cons I3 (.cons GK (.cons yR (.cons yW (.cons HV (.cons JR (.cons J6 (.cons IT (.cons yC (.cons Fy (.cons B9 (.cons Gz (.cons GO (.cons Hy (.cons II (.cons KN (.cons Km (.cons Iy (.cons xo (.cons FI (.cons zt (.cons I7 (.cons xO (.cons FP (.cons EO (.cons NH (.cons KR (.cons KE (.cons JU (.cons Ls (.cons Bw (.cons yH (.cons CP (.cons D5 (.cons LY (.cons Ec (.cons Gc (.cons zY (.cons FX (.cons JV (.cons Lp (.cons zb (.cons IY (.cons DF (.cons G9 (.cons AP (.cons zN (.cons AN (.cons LV (.cons Lf (.cons LL (.cons CA (.cons BW (.cons F7 (.cons EY (.cons Fb (.cons AL (.cons zu (.cons Bb (.cons L_ (.cons Ji (.cons IA (.cons By (.cons A1 (.cons yO (.cons yI (.cons Bx (.cons Hh (.cons Bu (.cons Lv (.cons KX (.cons K8 (.cons Ck (.cons Dg (.cons C2 (.cons Eb (.cons Hw (.cons DC (.cons xH (.cons zU (.cons Kf (.cons KO (.cons FM (.cons If (.cons Dr (.cons CS (.cons BA (.cons HF (.cons Cu (.cons Ki (.cons KB (.cons J9 (.cons Hv (.cons B8 (.cons AA (.cons Gt (.cons Br (.cons AE (.cons BR (.cons FH (.cons J8 (.cons LE (.cons Df (.cons zL (.cons C8 (.cons C5 (.cons Ey (.cons IU (.cons Bj (.cons C9 (.nil))))))))))))))))))))))))))))))))))))))))))))))))))))))))))))))))))))))))))))))))))))))))))))))))))))))))))))))))))))))))))))))))))))))))))))))))))))))))))))))))))))))))))))))))))))))))))))))))))))))))))))))))))))))))))))))))))))))))))))))))))))))))))))))))))))))))))))))))))))))))))))))))))))))))))))))))))))))))))))))))))))))))))))))))))))))
noncomputable def fnT:Tr Func:=.node none (.node none (.node (some Tryz.f3) (.node (some Tryz.f7) (.node (some Tryz.f15) (.node (some Tryz.f31) (.node (some Tryz.f63) (.node (some Tryz.f127) (.node (some Tryz.f255) .leaf .leaf) .leaf) (.node (some Tryz.f191) .leaf .leaf)) (.node (some Tryz.f95) (.node (some Tryz.f159) (.node (some Tryz.f287) .leaf .leaf) .leaf) (.node (some Tryz.f223) .leaf .leaf))) (.node (some Tryz.f47) (.node (some Tryz.f79) (.node (some Tryz.f143) (.node (some Tryz.f271) .leaf .leaf) .leaf) (.node (some Tryz.f207) .leaf .leaf)) (.node (some Tryz.f111) (.node (some Tryz.f175) (.node (some Tryz.f303) .leaf .leaf) .leaf) (.node (some Tryz.f239) .leaf .leaf)))) (.node (some Tryz.f23) (.node (some Tryz.f39) (.node (some Tryz.f71) (.node (some Tryz.f135) (.node (some Tryz.f263) .leaf .leaf) .leaf) (.node (some Tryz.f199) .leaf .leaf)) (.node (some Tryz.f103) (.node (some Tryz.f167) (.node (some Tryz.f295) .leaf .leaf) .leaf) (.node (some Tryz.f231) .leaf .leaf))) (.node (some Tryz.f55) (.node (some Tryz.f87) (.node (some Tryz.f151) (.node (some Tryz.f279) .leaf .leaf) .leaf) (.node (some Tryz.f215) .leaf .leaf)) (.node (some Tryz.f119) (.node (some Tryz.f183) (.node (some Tryz.f311) .leaf .leaf) .leaf) (.node (some Tryz.f247) .leaf .leaf))))) (.node (some Tryz.f11) (.node (some Tryz.f19) (.node (some Tryz.f35) (.node (some Tryz.f67) (.node (some Tryz.f131) (.node (some Tryz.f259) .leaf .leaf) .leaf) (.node (some Tryz.f195) .leaf .leaf)) (.node (some Tryz.f99) (.node (some Tryz.f163) (.node (some Tryz.f291) .leaf .leaf) .leaf) (.node (some Tryz.f227) .leaf .leaf))) (.node (some Tryz.f51) (.node (some Tryz.f83) (.node (some Tryz.f147) (.node (some Tryz.f275) .leaf .leaf) .leaf) (.node (some Tryz.f211) .leaf .leaf)) (.node (some Tryz.f115) (.node (some Tryz.f179) (.node (some Tryz.f307) .leaf .leaf) .leaf) (.node (some Tryz.f243) .leaf .leaf)))) (.node (some Tryz.f27) (.node (some Tryz.f43) (.node (some Tryz.f75) (.node (some Tryz.f139) (.node (some Tryz.f267) .leaf .leaf) .leaf) (.node (some Tryz.f203) .leaf .leaf)) (.node (some Tryz.f107) (.node (some Tryz.f171) (.node (some Tryz.f299) .leaf .leaf) .leaf) (.node (some Tryz.f235) .leaf .leaf))) (.node (some Tryz.f59) (.node (some Tryz.f91) (.node (some Tryz.f155) (.node (some Tryz.f283) .leaf .leaf) .leaf) (.node (some Tryz.f219) .leaf .leaf)) (.node (some Tryz.f123) (.node (some Tryz.f187) (.node (some Tryz.f315) .leaf .leaf) .leaf) (.node (some Tryz.f251) .leaf .leaf)))))) (.node (some Tryz.f5) (.node (some Tryz.f9) (.node (some Tryz.f17) (.node (some Tryz.f33) (.node (some Tryz.f65) (.node (some Tryz.f129) (.node (some Tryz.f257) .leaf .leaf) .leaf) (.node (some Tryz.f193) .leaf .leaf)) (.node (some Tryz.f97) (.node (some Tryz.f161) (.node (some Tryz.f289) .leaf .leaf) .leaf) (.node (some Tryz.f225) .leaf .leaf))) (.node (some Tryz.f49) (.node (some Tryz.f81) (.node (some Tryz.f145) (.node (some Tryz.f273) .leaf .leaf) .leaf) (.node (some Tryz.f209) .leaf .leaf)) (.node (some Tryz.f113) (.node (some Tryz.f177) (.node (some Tryz.f305) .leaf .leaf) .leaf) (.node (some Tryz.f241) .leaf .leaf)))) (.node (some Tryz.f25) (.node (some Tryz.f41) (.node (some Tryz.f73) (.node (some Tryz.f137) (.node (some Tryz.f265) .leaf .leaf) .leaf) (.node (some Tryz.f201) .leaf .leaf)) (.node (some Tryz.f105) (.node (some Tryz.f169) (.node (some Tryz.f297) .leaf .leaf) .leaf) (.node (some Tryz.f233) .leaf .leaf))) (.node (some Tryz.f57) (.node (some Tryz.f89) (.node (some Tryz.f153) (.node (some Tryz.f281) .leaf .leaf) .leaf) (.node (some Tryz.f217) .leaf .leaf)) (.node (some Tryz.f121) (.node (some Tryz.f185) (.node (some Tryz.f313) .leaf .leaf) .leaf) (.node (some Tryz.f249) .leaf .leaf))))) (.node (some Tryz.f13) (.node (some Tryz.f21) (.node (some Tryz.f37) (.node (some Tryz.f69) (.node (some Tryz.f133) (.node (some Tryz.f261) .leaf .leaf) .leaf) (.node (some Tryz.f197) .leaf .leaf)) (.node (some Tryz.f101) (.node (some Tryz.f165) (.node (some Tryz.f293) .leaf .leaf) .leaf) (.node (some Tryz.f229) .leaf .leaf))) (.node (some Tryz.f53) (.node (some Tryz.f85) (.node (some Tryz.f149) (.node (some Tryz.f277) .leaf .leaf) .leaf) (.node (some Tryz.f213) .leaf .leaf)) (.node (some Tryz.f117) (.node (some Tryz.f181) (.node (some Tryz.f309) .leaf .leaf) .leaf) (.node (some Tryz.f245) .leaf .leaf)))) (.node (some Tryz.f29) (.node (some Tryz.f45) (.node (some Tryz.f77) (.node (some Tryz.f141) (.node (some Tryz.f269) .leaf .leaf) .leaf) (.node (some Tryz.f205) .leaf .leaf)) (.node (some Tryz.f109) (.node (some Tryz.f173) (.node (some Tryz.f301) .leaf .leaf) .leaf) (.node (some Tryz.f237) .leaf .leaf))) (.node (some Tryz.f61) (.node (some Tryz.f93) (.node (some Tryz.f157) (.node (some Tryz.f285) .leaf .leaf) .leaf) (.node (some Tryz.f221) .leaf .leaf)) (.node (some Tryz.f125) (.node (some Tryz.f189) .leaf .leaf) (.node (some Tryz.f253) .leaf .leaf))))))) (.node none (.node (some Tryz.f4) (.node (some Tryz.f8) (.node (some Tryz.f16) (.node (some Tryz.f32) (.node (some Tryz.f64) (.node (some Tryz.f128) (.node (some Tryz.f256) .leaf .leaf) .leaf) (.node (some Tryz.f192) .leaf .leaf)) (.node (some Tryz.f96) (.node (some Tryz.f160) (.node (some Tryz.f288) .leaf .leaf) .leaf) (.node (some Tryz.f224) .leaf .leaf))) (.node (some Tryz.f48) (.node (some Tryz.f80) (.node (some Tryz.f144) (.node (some Tryz.f272) .leaf .leaf) .leaf) (.node (some Tryz.f208) .leaf .leaf)) (.node (some Tryz.f112) (.node (some Tryz.f176) (.node (some Tryz.f304) .leaf .leaf) .leaf) (.node (some Tryz.f240) .leaf .leaf)))) (.node (some Tryz.f24) (.node (some Tryz.f40) (.node (some Tryz.f72) (.node (some Tryz.f136) (.node (some Tryz.f264) .leaf .leaf) .leaf) (.node (some Tryz.f200) .leaf .leaf)) (.node (some Tryz.f104) (.node (some Tryz.f168) (.node (some Tryz.f296) .leaf .leaf) .leaf) (.node (some Tryz.f232) .leaf .leaf))) (.node (some Tryz.f56) (.node (some Tryz.f88) (.node (some Tryz.f152) (.node (some Tryz.f280) .leaf .leaf) .leaf) (.node (some Tryz.f216) .leaf .leaf)) (.node (some Tryz.f120) (.node (some Tryz.f184) (.node (some Tryz.f312) .leaf .leaf) .leaf) (.node (some Tryz.f248) .leaf .leaf))))) (.node (some Tryz.f12) (.node (some Tryz.f20) (.node (some Tryz.f36) (.node (some Tryz.f68) (.node (some Tryz.f132) (.node (some Tryz.f260) .leaf .leaf) .leaf) (.node (some Tryz.f196) .leaf .leaf)) (.node (some Tryz.f100) (.node (some Tryz.f164) (.node (some Tryz.f292) .leaf .leaf) .leaf) (.node (some Tryz.f228) .leaf .leaf))) (.node (some Tryz.f52) (.node (some Tryz.f84) (.node (some Tryz.f148) (.node (some Tryz.f276) .leaf .leaf) .leaf) (.node (some Tryz.f212) .leaf .leaf)) (.node (some Tryz.f116) (.node (some Tryz.f180) (.node (some Tryz.f308) .leaf .leaf) .leaf) (.node (some Tryz.f244) .leaf .leaf)))) (.node (some Tryz.f28) (.node (some Tryz.f44) (.node (some Tryz.f76) (.node (some Tryz.f140) (.node (some Tryz.f268) .leaf .leaf) .leaf) (.node (some Tryz.f204) .leaf .leaf)) (.node (some Tryz.f108) (.node (some Tryz.f172) (.node (some Tryz.f300) .leaf .leaf) .leaf) (.node (some Tryz.f236) .leaf .leaf))) (.node (some Tryz.f60) (.node (some Tryz.f92) (.node (some Tryz.f156) (.node (some Tryz.f284) .leaf .leaf) .leaf) (.node (some Tryz.f220) .leaf .leaf)) (.node (some Tryz.f124) (.node (some Tryz.f188) (.node (some Tryz.f316) .leaf .leaf) .leaf) (.node (some Tryz.f252) .leaf .leaf)))))) (.node (some Tryz.f6) (.node (some Tryz.f10) (.node (some Tryz.f18) (.node (some Tryz.f34) (.node (some Tryz.f66) (.node (some Tryz.f130) (.node (some Tryz.f258) .leaf .leaf) .leaf) (.node (some Tryz.f194) .leaf .leaf)) (.node (some Tryz.f98) (.node (some Tryz.f162) (.node (some Tryz.f290) .leaf .leaf) .leaf) (.node (some Tryz.f226) .leaf .leaf))) (.node (some Tryz.f50) (.node (some Tryz.f82) (.node (some Tryz.f146) (.node (some Tryz.f274) .leaf .leaf) .leaf) (.node (some Tryz.f210) .leaf .leaf)) (.node (some Tryz.f114) (.node (some Tryz.f178) (.node (some Tryz.f306) .leaf .leaf) .leaf) (.node (some Tryz.f242) .leaf .leaf)))) (.node (some Tryz.f26) (.node (some Tryz.f42) (.node (some Tryz.f74) (.node (some Tryz.f138) (.node (some Tryz.f266) .leaf .leaf) .leaf) (.node (some Tryz.f202) .leaf .leaf)) (.node (some Tryz.f106) (.node (some Tryz.f170) (.node (some Tryz.f298) .leaf .leaf) .leaf) (.node (some Tryz.f234) .leaf .leaf))) (.node (some Tryz.f58) (.node (some Tryz.f90) (.node (some Tryz.f154) (.node (some Tryz.f282) .leaf .leaf) .leaf) (.node (some Tryz.f218) .leaf .leaf)) (.node (some Tryz.f122) (.node (some Tryz.f186) (.node (some Tryz.f314) .leaf .leaf) .leaf) (.node (some Tryz.f250) .leaf .leaf))))) (.node (some Tryz.f14) (.node (some Tryz.f22) (.node (some Tryz.f38) (.node (some Tryz.f70) (.node (some Tryz.f134) (.node (some Tryz.f262) .leaf .leaf) .leaf) (.node (some Tryz.f198) .leaf .leaf)) (.node (some Tryz.f102) (.node (some Tryz.f166) (.node (some Tryz.f294) .leaf .leaf) .leaf) (.node (some Tryz.f230) .leaf .leaf))) (.node (some Tryz.f54) (.node (some Tryz.f86) (.node (some Tryz.f150) (.node (some Tryz.f278) .leaf .leaf) .leaf) (.node (some Tryz.f214) .leaf .leaf)) (.node (some Tryz.f118) (.node (some Tryz.f182) (.node (some Tryz.f310) .leaf .leaf) .leaf) (.node (some Tryz.f246) .leaf .leaf)))) (.node (some Tryz.f30) (.node (some Tryz.f46) (.node (some Tryz.f78) (.node (some Tryz.f142) (.node (some Tryz.f270) .leaf .leaf) .leaf) (.node (some Tryz.f206) .leaf .leaf)) (.node (some Tryz.f110) (.node (some Tryz.f174) (.node (some Tryz.f302) .leaf .leaf) .leaf) (.node (some Tryz.f238) .leaf .leaf))) (.node (some Tryz.f62) (.node (some Tryz.f94) (.node (some Tryz.f158) (.node (some Tryz.f286) .leaf .leaf) .leaf) (.node (some Tryz.f222) .leaf .leaf)) (.node (some Tryz.f126) (.node (some Tryz.f190) .leaf .leaf) (.node (some Tryz.f254) .leaf .leaf)))))))
theorem FA:fnT.toL=[(3,Tryz.f3),(7,Tryz.f7),(15,Tryz.f15),(31,Tryz.f31),(63,Tryz.f63),(127,Tryz.f127),(255,Tryz.f255),(191,Tryz.f191),(95,Tryz.f95),(159,Tryz.f159),(287,Tryz.f287),(223,Tryz.f223),(47,Tryz.f47),(79,Tryz.f79),(143,Tryz.f143),(271,Tryz.f271),(207,Tryz.f207),(111,Tryz.f111),(175,Tryz.f175),(303,Tryz.f303),(239,Tryz.f239),(23,Tryz.f23),(39,Tryz.f39),(71,Tryz.f71),(135,Tryz.f135),(263,Tryz.f263),(199,Tryz.f199),(103,Tryz.f103),(167,Tryz.f167),(295,Tryz.f295),(231,Tryz.f231),(55,Tryz.f55),(87,Tryz.f87),(151,Tryz.f151),(279,Tryz.f279),(215,Tryz.f215),(119,Tryz.f119),(183,Tryz.f183),(311,Tryz.f311),(247,Tryz.f247),(11,Tryz.f11),(19,Tryz.f19),(35,Tryz.f35),(67,Tryz.f67),(131,Tryz.f131),(259,Tryz.f259),(195,Tryz.f195),(99,Tryz.f99),(163,Tryz.f163),(291,Tryz.f291),(227,Tryz.f227),(51,Tryz.f51),(83,Tryz.f83),(147,Tryz.f147),(275,Tryz.f275),(211,Tryz.f211),(115,Tryz.f115),(179,Tryz.f179),(307,Tryz.f307),(243,Tryz.f243),(27,Tryz.f27),(43,Tryz.f43),(75,Tryz.f75),(139,Tryz.f139),(267,Tryz.f267),(203,Tryz.f203),(107,Tryz.f107),(171,Tryz.f171),(299,Tryz.f299),(235,Tryz.f235),(59,Tryz.f59),(91,Tryz.f91),(155,Tryz.f155),(283,Tryz.f283),(219,Tryz.f219),(123,Tryz.f123),(187,Tryz.f187),(315,Tryz.f315),(251,Tryz.f251),(5,Tryz.f5),(9,Tryz.f9),(17,Tryz.f17),(33,Tryz.f33),(65,Tryz.f65),(129,Tryz.f129),(257,Tryz.f257),(193,Tryz.f193),(97,Tryz.f97),(161,Tryz.f161),(289,Tryz.f289),(225,Tryz.f225),(49,Tryz.f49),(81,Tryz.f81),(145,Tryz.f145),(273,Tryz.f273),(209,Tryz.f209),(113,Tryz.f113),(177,Tryz.f177),(305,Tryz.f305),(241,Tryz.f241),(25,Tryz.f25),(41,Tryz.f41),(73,Tryz.f73),(137,Tryz.f137),(265,Tryz.f265),(201,Tryz.f201),(105,Tryz.f105),(169,Tryz.f169),(297,Tryz.f297),(233,Tryz.f233),(57,Tryz.f57),(89,Tryz.f89),(153,Tryz.f153),(281,Tryz.f281),(217,Tryz.f217),(121,Tryz.f121),(185,Tryz.f185),(313,Tryz.f313),(249,Tryz.f249),(13,Tryz.f13),(21,Tryz.f21),(37,Tryz.f37),(69,Tryz.f69),(133,Tryz.f133),(261,Tryz.f261),(197,Tryz.f197),(101,Tryz.f101),(165,Tryz.f165),(293,Tryz.f293),(229,Tryz.f229),(53,Tryz.f53),(85,Tryz.f85),(149,Tryz.f149),(277,Tryz.f277),(213,Tryz.f213),(117,Tryz.f117),(181,Tryz.f181),(309,Tryz.f309),(245,Tryz.f245),(29,Tryz.f29),(45,Tryz.f45),(77,Tryz.f77),(141,Tryz.f141),(269,Tryz.f269),(205,Tryz.f205),(109,Tryz.f109),(173,Tryz.f173),(301,Tryz.f301),(237,Tryz.f237),(61,Tryz.f61),(93,Tryz.f93),(157,Tryz.f157),(285,Tryz.f285),(221,Tryz.f221),(125,Tryz.f125),(189,Tryz.f189),(253,Tryz.f253),(4,Tryz.f4),(8,Tryz.f8),(16,Tryz.f16),(32,Tryz.f32),(64,Tryz.f64),(128,Tryz.f128),(256,Tryz.f256),(192,Tryz.f192),(96,Tryz.f96),(160,Tryz.f160),(288,Tryz.f288),(224,Tryz.f224),(48,Tryz.f48),(80,Tryz.f80),(144,Tryz.f144),(272,Tryz.f272),(208,Tryz.f208),(112,Tryz.f112),(176,Tryz.f176),(304,Tryz.f304),(240,Tryz.f240),(24,Tryz.f24),(40,Tryz.f40),(72,Tryz.f72),(136,Tryz.f136),(264,Tryz.f264),(200,Tryz.f200),(104,Tryz.f104),(168,Tryz.f168),(296,Tryz.f296),(232,Tryz.f232),(56,Tryz.f56),(88,Tryz.f88),(152,Tryz.f152),(280,Tryz.f280),(216,Tryz.f216),(120,Tryz.f120),(184,Tryz.f184),(312,Tryz.f312),(248,Tryz.f248),(12,Tryz.f12),(20,Tryz.f20),(36,Tryz.f36),(68,Tryz.f68),(132,Tryz.f132),(260,Tryz.f260),(196,Tryz.f196),(100,Tryz.f100),(164,Tryz.f164),(292,Tryz.f292),(228,Tryz.f228),(52,Tryz.f52),(84,Tryz.f84),(148,Tryz.f148),(276,Tryz.f276),(212,Tryz.f212),(116,Tryz.f116),(180,Tryz.f180),(308,Tryz.f308),(244,Tryz.f244),(28,Tryz.f28),(44,Tryz.f44),(76,Tryz.f76),(140,Tryz.f140),(268,Tryz.f268),(204,Tryz.f204),(108,Tryz.f108),(172,Tryz.f172),(300,Tryz.f300),(236,Tryz.f236),(60,Tryz.f60),(92,Tryz.f92),(156,Tryz.f156),(284,Tryz.f284),(220,Tryz.f220),(124,Tryz.f124),(188,Tryz.f188),(316,Tryz.f316),(252,Tryz.f252),(6,Tryz.f6),(10,Tryz.f10),(18,Tryz.f18),(34,Tryz.f34),(66,Tryz.f66),(130,Tryz.f130),(258,Tryz.f258),(194,Tryz.f194),(98,Tryz.f98),(162,Tryz.f162),(290,Tryz.f290),(226,Tryz.f226),(50,Tryz.f50),(82,Tryz.f82),(146,Tryz.f146),(274,Tryz.f274),(210,Tryz.f210),(114,Tryz.f114),(178,Tryz.f178),(306,Tryz.f306),(242,Tryz.f242),(26,Tryz.f26),(42,Tryz.f42),(74,Tryz.f74),(138,Tryz.f138),(266,Tryz.f266),(202,Tryz.f202),(106,Tryz.f106),(170,Tryz.f170),(298,Tryz.f298),(234,Tryz.f234),(58,Tryz.f58),(90,Tryz.f90),(154,Tryz.f154),(282,Tryz.f282),(218,Tryz.f218),(122,Tryz.f122),(186,Tryz.f186),(314,Tryz.f314),(250,Tryz.f250),(14,Tryz.f14),(22,Tryz.f22),(38,Tryz.f38),(70,Tryz.f70),(134,Tryz.f134),(262,Tryz.f262),(198,Tryz.f198),(102,Tryz.f102),(166,Tryz.f166),(294,Tryz.f294),(230,Tryz.f230),(54,Tryz.f54),(86,Tryz.f86),(150,Tryz.f150),(278,Tryz.f278),(214,Tryz.f214),(118,Tryz.f118),(182,Tryz.f182),(310,Tryz.f310),(246,Tryz.f246),(30,Tryz.f30),(46,Tryz.f46),(78,Tryz.f78),(142,Tryz.f142),(270,Tryz.f270),(206,Tryz.f206),(110,Tryz.f110),(174,Tryz.f174),(302,Tryz.f302),(238,Tryz.f238),(62,Tryz.f62),(94,Tryz.f94),(158,Tryz.f158),(286,Tryz.f286),(222,Tryz.f222),(126,Tryz.f126),(190,Tryz.f190),(254,Tryz.f254)]:=by kernel_rfl
def fnP (k : Nat) (f : Func) : Prop := Tryz.prog.funcs[k]? = some f ∧ (f.name == "runtime.NumGoroutine") = false
theorem uK : ∀ k f, fnT.get k = some f → Tryz.prog.funcs[k]? = some f ∧ (f.name == "runtime.NumGoroutine") = false := by
 refine Tr.all_get (p:=fnP) ?_
 rw [FA]
 exact .cons ⟨Tryz.func3,by kernel_rfl⟩ (.cons ⟨Tryz.func7,by kernel_rfl⟩ (.cons ⟨Tryz.func15,by kernel_rfl⟩ (.cons ⟨Tryz.func31,by kernel_rfl⟩ (.cons ⟨Tryz.func63,by kernel_rfl⟩ (.cons ⟨Tryz.func127,by kernel_rfl⟩ (.cons ⟨Tryz.func255,by kernel_rfl⟩ (.cons ⟨Tryz.func191,by kernel_rfl⟩ (.cons ⟨Tryz.func95,by kernel_rfl⟩ (.cons ⟨Tryz.func159,by kernel_rfl⟩ (.cons ⟨Tryz.func287,by kernel_rfl⟩ (.cons ⟨Tryz.func223,by kernel_rfl⟩ (.cons ⟨Tryz.func47,by kernel_rfl⟩ (.cons ⟨Tryz.func79,by kernel_rfl⟩ (.cons ⟨Tryz.func143,by kernel_rfl⟩ (.cons ⟨Tryz.func271,by kernel_rfl⟩ (.cons ⟨Tryz.func207,by kernel_rfl⟩ (.cons ⟨Tryz.func111,by kernel_rfl⟩ (.cons ⟨Tryz.func175,by kernel_rfl⟩ (.cons ⟨Tryz.func303,by kernel_rfl⟩ (.cons ⟨Tryz.func239,by kernel_rfl⟩ (.cons ⟨Tryz.func23,by kernel_rfl⟩ (.cons ⟨Tryz.func39,by kernel_rfl⟩ (.cons ⟨Tryz.func71,by kernel_rfl⟩ (.cons ⟨Tryz.func135,by kernel_rfl⟩ (.cons ⟨Tryz.func263,by kernel_rfl⟩ (.cons ⟨Tryz.func199,by kernel_rfl⟩ (.cons ⟨Tryz.func103,by kernel_rfl⟩ (.cons ⟨Tryz.func167,by kernel_rfl⟩ (.cons ⟨Tryz.func295,by kernel_rfl⟩ (.cons ⟨Tryz.func231,by kernel_rfl⟩ (.cons ⟨Tryz.func55,by kernel_rfl⟩ (.cons ⟨Tryz.func87,by kernel_rfl⟩ (.cons ⟨Tryz.func151,by kernel_rfl⟩ (.cons ⟨Tryz.func279,by kernel_rfl⟩ (.cons ⟨Tryz.func215,by kernel_rfl⟩ (.cons ⟨Tryz.func119,by kernel_rfl⟩ (.cons ⟨Tryz.func183,by kernel_rfl⟩ (.cons ⟨Tryz.func311,by kernel_rfl⟩ (.cons ⟨Tryz.func247,by kernel_rfl⟩ (.cons ⟨Tryz.func11,by kernel_rfl⟩ (.cons ⟨Tryz.func19,by kernel_rfl⟩ (.cons ⟨Tryz.func35,by kernel_rfl⟩ (.cons ⟨Tryz.func67,by kernel_rfl⟩ (.cons ⟨Tryz.func131,by kernel_rfl⟩ (.cons ⟨Tryz.func259,by kernel_rfl⟩ (.cons ⟨Tryz.func195,by kernel_rfl⟩ (.cons ⟨Tryz.func99,by kernel_rfl⟩ (.cons ⟨Tryz.func163,by kernel_rfl⟩ (.cons ⟨Tryz.func291,by kernel_rfl⟩ (.cons ⟨Tryz.func227,by kernel_rfl⟩ (.cons ⟨Tryz.func51,by kernel_rfl⟩ (.cons ⟨Tryz.func83,by kernel_rfl⟩ (.cons ⟨Tryz.func147,by kernel_rfl⟩ (.cons ⟨Tryz.func275,by kernel_rfl⟩ (.cons ⟨Tryz.func211,by kernel_rfl⟩ (.cons ⟨Tryz.func115,by kernel_rfl⟩ (.cons ⟨Tryz.func179,by kernel_rfl⟩ (.cons ⟨Tryz.func307,by kernel_rfl⟩ (.cons ⟨Tryz.func243,by kernel_rfl⟩ (.cons ⟨Tryz.func27,by kernel_rfl⟩ (.cons ⟨Tryz.func43,by kernel_rfl⟩ (.cons ⟨Tryz.func75,by kernel_rfl⟩ (.cons ⟨Tryz.func139,by kernel_rfl⟩ (.cons ⟨Tryz.func267,by kernel_rfl⟩ (.cons ⟨Tryz.func203,by kernel_rfl⟩ (.cons ⟨Tryz.func107,by kernel_rfl⟩ (.cons ⟨Tryz.func171,by kernel_rfl⟩ (.cons ⟨Tryz.func299,by kernel_rfl⟩ (.cons ⟨Tryz.func235,by kernel_rfl⟩ (.cons ⟨Tryz.func59,by kernel_rfl⟩ (.cons ⟨Tryz.func91,by kernel_rfl⟩ (.cons ⟨Tryz.func155,by kernel_rfl⟩ (.cons ⟨Tryz.func283,by kernel_rfl⟩ (.cons ⟨Tryz.func219,by kernel_rfl⟩ (.cons ⟨Tryz.func123,by kernel_rfl⟩ (.cons ⟨Tryz.func187,by kernel_rfl⟩ (.cons ⟨Tryz.func315,by kernel_rfl⟩ (.cons ⟨Tryz.func251,by kernel_rfl⟩ (.cons ⟨Tryz.func5,by kernel_rfl⟩ (.cons ⟨Tryz.func9,by kernel_rfl⟩ (.cons ⟨Tryz.func17,by kernel_rfl⟩ (.cons ⟨Tryz.func33,by kernel_rfl⟩ (.cons ⟨Tryz.func65,by kernel_rfl⟩ (.cons ⟨Tryz.func129,by kernel_rfl⟩ (.cons ⟨Tryz.func257,by kernel_rfl⟩ (.cons ⟨Tryz.func193,by kernel_rfl⟩ (.cons ⟨Tryz.func97,by kernel_rfl⟩ (.cons ⟨Tryz.func161,by kernel_rfl⟩ (.cons ⟨Tryz.func289,by kernel_rfl⟩ (.cons ⟨Tryz.func225,by kernel_rfl⟩ (.cons ⟨Tryz.func49,by kernel_rfl⟩ (.cons ⟨Tryz.func81,by kernel_rfl⟩ (.cons ⟨Tryz.func145,by kernel_rfl⟩ (.cons ⟨Tryz.func273,by kernel_rfl⟩ (.cons ⟨Tryz.func209,by kernel_rfl⟩ (.cons ⟨Tryz.func113,by kernel_rfl⟩ (.cons ⟨Tryz.func177,by kernel_rfl⟩ (.cons ⟨Tryz.func305,by kernel_rfl⟩ (.cons ⟨Tryz.func241,by kernel_rfl⟩ (.cons ⟨Tryz.func25,by kernel_rfl⟩ (.cons ⟨Tryz.func41,by kernel_rfl⟩ (.cons ⟨Tryz.func73,by kernel_rfl⟩ (.cons ⟨Tryz.func137,by kernel_rfl⟩ (.cons ⟨Tryz.func265,by kernel_rfl⟩ (.cons ⟨Tryz.func201,by kernel_rfl⟩ (.cons ⟨Tryz.func105,by kernel_rfl⟩ (.cons ⟨Tryz.func169,by kernel_rfl⟩ (.cons ⟨Tryz.func297,by kernel_rfl⟩ (.cons ⟨Tryz.func233,by kernel_rfl⟩ (.cons ⟨Tryz.func57,by kernel_rfl⟩ (.cons ⟨Tryz.func89,by kernel_rfl⟩ (.cons ⟨Tryz.func153,by kernel_rfl⟩ (.cons ⟨Tryz.func281,by kernel_rfl⟩ (.cons ⟨Tryz.func217,by kernel_rfl⟩ (.cons ⟨Tryz.func121,by kernel_rfl⟩ (.cons ⟨Tryz.func185,by kernel_rfl⟩ (.cons ⟨Tryz.func313,by kernel_rfl⟩ (.cons ⟨Tryz.func249,by kernel_rfl⟩ (.cons ⟨Tryz.func13,by kernel_rfl⟩ (.cons ⟨Tryz.func21,by kernel_rfl⟩ (.cons ⟨Tryz.func37,by kernel_rfl⟩ (.cons ⟨Tryz.func69,by kernel_rfl⟩ (.cons ⟨Tryz.func133,by kernel_rfl⟩ (.cons ⟨Tryz.func261,by kernel_rfl⟩ (.cons ⟨Tryz.func197,by kernel_rfl⟩ (.cons ⟨Tryz.func101,by kernel_rfl⟩ (.cons ⟨Tryz.func165,by kernel_rfl⟩ (.cons ⟨Tryz.func293,by kernel_rfl⟩ (.cons ⟨Tryz.func229,by kernel_rfl⟩ (.cons ⟨Tryz.func53,by kernel_rfl⟩ (.cons ⟨Tryz.func85,by kernel_rfl⟩ (.cons ⟨Tryz.func149,by kernel_rfl⟩ (.cons ⟨Tryz.func277,by kernel_rfl⟩ (.cons ⟨Tryz.func213,by kernel_rfl⟩ (.cons ⟨Tryz.func117,by kernel_rfl⟩ (.cons ⟨Tryz.func181,by kernel_rfl⟩ (.cons ⟨Tryz.func309,by kernel_rfl⟩ (.cons ⟨Tryz.func245,by kernel_rfl⟩ (.cons ⟨Tryz.func29,by kernel_rfl⟩ (.cons ⟨Tryz.func45,by kernel_rfl⟩ (.cons ⟨Tryz.func77,by kernel_rfl⟩ (.cons ⟨Tryz.func141,by kernel_rfl⟩ (.cons ⟨Tryz.func269,by kernel_rfl⟩ (.cons ⟨Tryz.func205,by kernel_rfl⟩ (.cons ⟨Tryz.func109,by kernel_rfl⟩ (.cons ⟨Tryz.func173,by kernel_rfl⟩ (.cons ⟨Tryz.func301,by kernel_rfl⟩ (.cons ⟨Tryz.func237,by kernel_rfl⟩ (.cons ⟨Tryz.func61,by kernel_rfl⟩ (.cons ⟨Tryz.func93,by kernel_rfl⟩ (.cons ⟨Tryz.func157,by kernel_rfl⟩ (.cons ⟨Tryz.func285,by kernel_rfl⟩ (.cons ⟨Tryz.func221,by kernel_rfl⟩ (.cons ⟨Tryz.func125,by kernel_rfl⟩ (.cons ⟨Tryz.func189,by kernel_rfl⟩ (.cons ⟨Tryz.func253,by kernel_rfl⟩ (.cons ⟨Tryz.func4,by kernel_rfl⟩ (.cons ⟨Tryz.func8,by kernel_rfl⟩ (.cons ⟨Tryz.func16,by kernel_rfl⟩ (.cons ⟨Tryz.func32,by kernel_rfl⟩ (.cons ⟨Tryz.func64,by kernel_rfl⟩ (.cons ⟨Tryz.func128,by kernel_rfl⟩ (.cons ⟨Tryz.func256,by kernel_rfl⟩ (.cons ⟨Tryz.func192,by kernel_rfl⟩ (.cons ⟨Tryz.func96,by kernel_rfl⟩ (.cons ⟨Tryz.func160,by kernel_rfl⟩ (.cons ⟨Tryz.func288,by kernel_rfl⟩ (.cons ⟨Tryz.func224,by kernel_rfl⟩ (.cons ⟨Tryz.func48,by kernel_rfl⟩ (.cons ⟨Tryz.func80,by kernel_rfl⟩ (.cons ⟨Tryz.func144,by kernel_rfl⟩ (.cons ⟨Tryz.func272,by kernel_rfl⟩ (.cons ⟨Tryz.func208,by kernel_rfl⟩ (.cons ⟨Tryz.func112,by kernel_rfl⟩ (.cons ⟨Tryz.func176,by kernel_rfl⟩ (.cons ⟨Tryz.func304,by kernel_rfl⟩ (.cons ⟨Tryz.func240,by kernel_rfl⟩ (.cons ⟨Tryz.func24,by kernel_rfl⟩ (.cons ⟨Tryz.func40,by kernel_rfl⟩ (.cons ⟨Tryz.func72,by kernel_rfl⟩ (.cons ⟨Tryz.func136,by kernel_rfl⟩ (.cons ⟨Tryz.func264,by kernel_rfl⟩ (.cons ⟨Tryz.func200,by kernel_rfl⟩ (.cons ⟨Tryz.func104,by kernel_rfl⟩ (.cons ⟨Tryz.func168,by kernel_rfl⟩ (.cons ⟨Tryz.func296,by kernel_rfl⟩ (.cons ⟨Tryz.func232,by kernel_rfl⟩ (.cons ⟨Tryz.func56,by kernel_rfl⟩ (.cons ⟨Tryz.func88,by kernel_rfl⟩ (.cons ⟨Tryz.func152,by kernel_rfl⟩ (.cons ⟨Tryz.func280,by kernel_rfl⟩ (.cons ⟨Tryz.func216,by kernel_rfl⟩ (.cons ⟨Tryz.func120,by kernel_rfl⟩ (.cons ⟨Tryz.func184,by kernel_rfl⟩ (.cons ⟨Tryz.func312,by kernel_rfl⟩ (.cons ⟨Tryz.func248,by kernel_rfl⟩ (.cons ⟨Tryz.func12,by kernel_rfl⟩ (.cons ⟨Tryz.func20,by kernel_rfl⟩ (.cons ⟨Tryz.func36,by kernel_rfl⟩ (.cons ⟨Tryz.func68,by kernel_rfl⟩ (.cons ⟨Tryz.func132,by kernel_rfl⟩ (.cons ⟨Tryz.func260,by kernel_rfl⟩ (.cons ⟨Tryz.func196,by kernel_rfl⟩ (.cons ⟨Tryz.func100,by kernel_rfl⟩ (.cons ⟨Tryz.func164,by kernel_rfl⟩ (.cons ⟨Tryz.func292,by kernel_rfl⟩ (.cons ⟨Tryz.func228,by kernel_rfl⟩ (.cons ⟨Tryz.func52,by kernel_rfl⟩ (.cons ⟨Tryz.func84,by kernel_rfl⟩ (.cons ⟨Tryz.func148,by kernel_rfl⟩ (.cons ⟨Tryz.func276,by kernel_rfl⟩ (.cons ⟨Tryz.func212,by kernel_rfl⟩ (.cons ⟨Tryz.func116,by kernel_rfl⟩ (.cons ⟨Tryz.func180,by kernel_rfl⟩ (.cons ⟨Tryz.func308,by kernel_rfl⟩ (.cons ⟨Tryz.func244,by kernel_rfl⟩ (.cons ⟨Tryz.func28,by kernel_rfl⟩ (.cons ⟨Tryz.func44,by kernel_rfl⟩ (.cons ⟨Tryz.func76,by kernel_rfl⟩ (.cons ⟨Tryz.func140,by kernel_rfl⟩ (.cons ⟨Tryz.func268,by kernel_rfl⟩ (.cons ⟨Tryz.func204,by kernel_rfl⟩ (.cons ⟨Tryz.func108,by kernel_rfl⟩ (.cons ⟨Tryz.func172,by kernel_rfl⟩ (.cons ⟨Tryz.func300,by kernel_rfl⟩ (.cons ⟨Tryz.func236,by kernel_rfl⟩ (.cons ⟨Tryz.func60,by kernel_rfl⟩ (.cons ⟨Tryz.func92,by kernel_rfl⟩ (.cons ⟨Tryz.func156,by kernel_rfl⟩ (.cons ⟨Tryz.func284,by kernel_rfl⟩ (.cons ⟨Tryz.func220,by kernel_rfl⟩ (.cons ⟨Tryz.func124,by kernel_rfl⟩ (.cons ⟨Tryz.func188,by kernel_rfl⟩ (.cons ⟨Tryz.func316,by kernel_rfl⟩ (.cons ⟨Tryz.func252,by kernel_rfl⟩ (.cons ⟨Tryz.func6,by kernel_rfl⟩ (.cons ⟨Tryz.func10,by kernel_rfl⟩ (.cons ⟨Tryz.func18,by kernel_rfl⟩ (.cons ⟨Tryz.func34,by kernel_rfl⟩ (.cons ⟨Tryz.func66,by kernel_rfl⟩ (.cons ⟨Tryz.func130,by kernel_rfl⟩ (.cons ⟨Tryz.func258,by kernel_rfl⟩ (.cons ⟨Tryz.func194,by kernel_rfl⟩ (.cons ⟨Tryz.func98,by kernel_rfl⟩ (.cons ⟨Tryz.func162,by kernel_rfl⟩ (.cons ⟨Tryz.func290,by kernel_rfl⟩ (.cons ⟨Tryz.func226,by kernel_rfl⟩ (.cons ⟨Tryz.func50,by kernel_rfl⟩ (.cons ⟨Tryz.func82,by kernel_rfl⟩ (.cons ⟨Tryz.func146,by kernel_rfl⟩ (.cons ⟨Tryz.func274,by kernel_rfl⟩ (.cons ⟨Tryz.func210,by kernel_rfl⟩ (.cons ⟨Tryz.func114,by kernel_rfl⟩ (.cons ⟨Tryz.func178,by kernel_rfl⟩ (.cons ⟨Tryz.func306,by kernel_rfl⟩ (.cons ⟨Tryz.func242,by kernel_rfl⟩ (.cons ⟨Tryz.func26,by kernel_rfl⟩ (.cons ⟨Tryz.func42,by kernel_rfl⟩ (.cons ⟨Tryz.func74,by kernel_rfl⟩ (.cons ⟨Tryz.func138,by kernel_rfl⟩ (.cons ⟨Tryz.func266,by kernel_rfl⟩ (.cons ⟨Tryz.func202,by kernel_rfl⟩ (.cons ⟨Tryz.func106,by kernel_rfl⟩ (.cons ⟨Tryz.func170,by kernel_rfl⟩ (.cons ⟨Tryz.func298,by kernel_rfl⟩ (.cons ⟨Tryz.func234,by kernel_rfl⟩ (.cons ⟨Tryz.func58,by kernel_rfl⟩ (.cons ⟨Tryz.func90,by kernel_rfl⟩ (.cons ⟨Tryz.func154,by kernel_rfl⟩ (.cons ⟨Tryz.func282,by kernel_rfl⟩ (.cons ⟨Tryz.func218,by kernel_rfl⟩ (.cons ⟨Tryz.func122,by kernel_rfl⟩ (.cons ⟨Tryz.func186,by kernel_rfl⟩ (.cons ⟨Tryz.func314,by kernel_rfl⟩ (.cons ⟨Tryz.func250,by kernel_rfl⟩ (.cons ⟨Tryz.func14,by kernel_rfl⟩ (.cons ⟨Tryz.func22,by kernel_rfl⟩ (.cons ⟨Tryz.func38,by kernel_rfl⟩ (.cons ⟨Tryz.func70,by kernel_rfl⟩ (.cons ⟨Tryz.func134,by kernel_rfl⟩ (.cons ⟨Tryz.func262,by kernel_rfl⟩ (.cons ⟨Tryz.func198,by kernel_rfl⟩ (.cons ⟨Tryz.func102,by kernel_rfl⟩ (.cons ⟨Tryz.func166,by kernel_rfl⟩ (.cons ⟨Tryz.func294,by kernel_rfl⟩ (.cons ⟨Tryz.func230,by kernel_rfl⟩ (.cons ⟨Tryz.func54,by kernel_rfl⟩ (.cons ⟨Tryz.func86,by kernel_rfl⟩ (.cons ⟨Tryz.func150,by kernel_rfl⟩ (.cons ⟨Tryz.func278,by kernel_rfl⟩ (.cons ⟨Tryz.func214,by kernel_rfl⟩ (.cons ⟨Tryz.func118,by kernel_rfl⟩ (.cons ⟨Tryz.func182,by kernel_rfl⟩ (.cons ⟨Tryz.func310,by kernel_rfl⟩ (.cons ⟨Tryz.func246,by kernel_rfl⟩ (.cons ⟨Tryz.func30,by kernel_rfl⟩ (.cons ⟨Tryz.func46,by kernel_rfl⟩ (.cons ⟨Tryz.func78,by kernel_rfl⟩ (.cons ⟨Tryz.func142,by kernel_rfl⟩ (.cons ⟨Tryz.func270,by kernel_rfl⟩ (.cons ⟨Tryz.func206,by kernel_rfl⟩ (.cons ⟨Tryz.func110,by kernel_rfl⟩ (.cons ⟨Tryz.func174,by kernel_rfl⟩ (.cons ⟨Tryz.func302,by kernel_rfl⟩ (.cons ⟨Tryz.func238,by kernel_rfl⟩ (.cons ⟨Tryz.func62,by kernel_rfl⟩ (.cons ⟨Tryz.func94,by kernel_rfl⟩ (.cons ⟨Tryz.func158,by kernel_rfl⟩ (.cons ⟨Tryz.func286,by kernel_rfl⟩ (.cons ⟨Tryz.func222,by kernel_rfl⟩ (.cons ⟨Tryz.func126,by kernel_rfl⟩ (.cons ⟨Tryz.func190,by kernel_rfl⟩ (.cons ⟨Tryz.func254,by kernel_rfl⟩ (.nil))))))))))))))))))))))))))))))))))))))))))))))))))))))))))))))))))))))))))))))))))))))))))))))))))))))))))))))))))))))))))))))))))))))))))))))))))))))))))))))))))))))))))))))))))))))))))))))))))))))))))))))))))))))))))))))))))))))))))))))))))))))))))))))))))))))))))))))))))))))))))))))))))))))))))))))))))))))))))
noncomputable def ky7:List KK:=[.int .i64,.int .i64,.bool,.int .u8]
theorem Oo:bJ Tryz.prog 7=some ky7:=by kernel_rfl
noncomputable def ky8:List KK:=[.int .i64,.int .i64,.bool,.int .u8]
theorem NE:bJ Tryz.prog 8=some ky8:=by kernel_rfl
noncomputable def O1:List KK:=[.int .i64,.int .i64]
theorem K_:bJ Tryz.prog 32=some O1:=by kernel_rfl
noncomputable def OT:List KK:=[.int .i64,.int .i64]
theorem Lu:bJ Tryz.prog 33=some OT:=by kernel_rfl
noncomputable def Nk:List KK:=[.int .i64,.int .i64,.int .i64,.int .i64,.int .i64,.int .i64,.int .i64,.int .i64]
theorem Jg:bJ Tryz.prog 41=some Nk:=by kernel_rfl
noncomputable def Ol:List KK:=[.int .i64,.int .i64,.int .i64,.int .i64,.int .i64,.int .i64,.int .i64,.int .i64]
theorem Ll:bJ Tryz.prog 42=some Ol:=by kernel_rfl
noncomputable def MK:List KK:=[.bool,.bool,.bool,.bool,.bool,.bool,.bool,.bool,.bool,.bool,.bool,.bool,.bool,.bool,.bool,.bool,.bool,.bool,.bool,.bool,.bool,.bool,.bool,.bool,.bool,.bool,.bool,.bool,.bool,.bool,.bool,.bool,.bool,.bool,.bool,.bool,.bool,.bool,.bool,.bool,.bool,.bool,.bool,.bool,.bool,.bool,.bool,.bool,.bool,.bool,.bool,.bool,.bool,.bool,.bool,.bool,.bool,.bool,.bool,.bool,.bool,.bool,.bool,.bool]
theorem JS:bJ Tryz.prog 85=some MK:=by kernel_rfl
noncomputable def NS:List KK:=[.int .i64,.int .i64,.bool,.bool]
theorem K6:bJ Tryz.prog 89=some NS:=by kernel_rfl
noncomputable def MW:List KK:=[.int .i64,.int .i64,.bool,.bool]
theorem JL:bJ Tryz.prog 90=some MW:=by kernel_rfl
noncomputable def I2:List KK:=[.int .i64,.int .i64]
theorem I9:bJ Tryz.prog 111=some I2:=by kernel_rfl
noncomputable def B1:List KK:=[.int .i64,.int .i64]
theorem zQ:bJ Tryz.prog 112=some B1:=by kernel_rfl
noncomputable def HA:List KK:=[.int .i64,.int .i64,.int .i64,.int .i64,.int .i64,.int .i64,.int .i64,.int .i64,.int .i64,.int .i64,.int .i64,.int .i64,.int .i64,.int .i64,.int .i64,.int .i64]
theorem Cw:bJ Tryz.prog 113=some HA:=by kernel_rfl
noncomputable def GW:List KK:=[.string,.string]
theorem BZ:bJ Tryz.prog 126=some GW:=by kernel_rfl
noncomputable def Gg:List KK:=[.string,.string]
theorem Am:bJ Tryz.prog 127=some Gg:=by kernel_rfl
noncomputable def yX:List KK:=[.int .i64,.int .i64,.int .i64,.int .i64,.int .i64,.bool]
theorem xn:bJ Tryz.prog 141=some yX:=by kernel_rfl
noncomputable def Aw:List KK:=[.int .i64,.int .i64,.int .i64,.int .i64,.int .i64,.bool]
theorem Dm:bJ Tryz.prog 142=some Aw:=by kernel_rfl
noncomputable def yJ:List KK:=[.int .i64]
theorem AW:bJ Tryz.prog 157=some yJ:=by kernel_rfl
noncomputable def A9:List KK:=[.int .i64]
theorem xA:bJ Tryz.prog 158=some A9:=by kernel_rfl
noncomputable def FF:List KK:=[.bool,.bool,.bool,.bool,.bool,.bool,.bool,.bool]
theorem Dx:bJ Tryz.prog 181=some FF:=by kernel_rfl
noncomputable def yy:List KK:=[.int .i64,.int .i64,.int .i64,.bool]
theorem DO:bJ Tryz.prog 184=some yy:=by kernel_rfl
noncomputable def xj:List KK:=[.int .i64,.int .i64,.int .i64,.bool]
theorem HC:bJ Tryz.prog 185=some xj:=by kernel_rfl
noncomputable def yw:List KK:=[.int .i64,.int .i64,.int .i64,.int .i64,.int .i64,.int .i64,.int .i64,.int .i64,.int .i64]
theorem Io:bJ Tryz.prog 189=some yw:=by kernel_rfl
noncomputable def Bi:List KK:=[.int .i64,.int .i64,.int .i64,.int .i64,.int .i64,.int .i64,.int .i64,.int .i64,.int .i64]
theorem xI:bJ Tryz.prog 190=some Bi:=by kernel_rfl
noncomputable def Id:List KK:=[.int .i64,.int .i64]
theorem Db:bJ Tryz.prog 205=some Id:=by kernel_rfl
noncomputable def zM:List KK:=[.int .i64,.int .i64]
theorem EE:bJ Tryz.prog 206=some zM:=by kernel_rfl
noncomputable def yF:List KK:=[.int .i64,.int .i64,.int .i64,.int .i64,.int .i64,.int .i64,.int .i64,.int .i64,.int .i64]
theorem FR:bJ Tryz.prog 227=some yF:=by kernel_rfl
noncomputable def Bt:List KK:=[.int .i64,.int .i64,.int .i64,.int .i64,.int .i64,.int .i64,.int .i64,.int .i64,.int .i64]
theorem HG:bJ Tryz.prog 228=some Bt:=by kernel_rfl
noncomputable def xW:List KK:=[.int .i64,.int .i64]
theorem AU:bJ Tryz.prog 246=some xW:=by kernel_rfl
noncomputable def AF:List KK:=[.int .i64,.int .i64]
theorem DW:bJ Tryz.prog 247=some AF:=by kernel_rfl
noncomputable def zF:List KK:=[.string,.int .i64,.string]
theorem Hj:bJ Tryz.prog 279=some zF:=by kernel_rfl
noncomputable def FC:List KK:=[.string,.int .i64,.string]
theorem Fe:bJ Tryz.prog 280=some FC:=by kernel_rfl
noncomputable def FE:List KK:=[.int .i64,.int .i64,.int .i64,.bool,.int .i64]
theorem AH:bJ Tryz.prog 286=some FE:=by kernel_rfl
noncomputable def EQ:List KK:=[.int .i64,.int .i64,.int .i64,.bool,.int .i64]
theorem xN:bJ Tryz.prog 287=some EQ:=by kernel_rfl
noncomputable def FK:List KK:=[.int .i64,.int .i64,.int .i64,.bool,.int .i64,.int .i64,.int .i64,.int .i64,.bool,.int .i64,.int .i64,.int .i64,.int .i64,.bool,.int .i64,.int .i64,.int .i64,.int .i64,.bool,.int .i64,.int .i64,.int .i64,.int .i64,.bool,.int .i64,.int .i64,.int .i64,.int .i64,.bool,.int .i64,.int .i64,.int .i64,.int .i64,.bool,.int .i64,.int .i64,.int .i64,.int .i64,.bool,.int .i64]
theorem Ic:bJ Tryz.prog 288=some FK:=by kernel_rfl
noncomputable def EJ:List KK:=[.int .i64,.int .i64,.int .i64]
theorem F4:bJ Tryz.prog 293=some EJ:=by kernel_rfl
noncomputable def Hq:List KK:=[.int .i64,.int .i64,.int .i64]
theorem zV:bJ Tryz.prog 308=some Hq:=by kernel_rfl
noncomputable def D9:List KK:=[.int .i64,.int .i64,.int .i64,.bool]
theorem I4:bJ Tryz.prog 325=some D9:=by kernel_rfl
noncomputable def yq:List KK:=[.int .i64,.int .i64,.int .i64,.bool]
theorem GJ:bJ Tryz.prog 326=some yq:=by kernel_rfl
noncomputable def kyT:Tr (List KK):=.node none (.node none (.node none (.node (some ky7) (.node none (.node none (.node none (.node (some Gg) .leaf .leaf) .leaf) (.node none (.node none (.node (some EQ) .leaf .leaf) .leaf) .leaf)) (.node none .leaf (.node (some I2) .leaf .leaf))) (.node none .leaf (.node none (.node none (.node none (.node (some zF) .leaf .leaf) .leaf) .leaf) (.node none .leaf (.node (some AF) .leaf .leaf))))) (.node none (.node none (.node none .leaf (.node none .leaf (.node (some yF) .leaf .leaf))) .leaf) .leaf)) (.node none (.node none (.node none (.node (some OT) .leaf .leaf) (.node none .leaf (.node (some HA) .leaf .leaf))) (.node none (.node (some Nk) .leaf .leaf) (.node none (.node (some NS) .leaf .leaf) (.node none (.node (some xj) .leaf .leaf) .leaf)))) (.node none (.node none (.node none (.node none .leaf (.node none (.node (some D9) .leaf .leaf) .leaf)) (.node none (.node none (.node (some EJ) .leaf .leaf) .leaf) .leaf)) (.node none (.node (some MK) .leaf .leaf) (.node none (.node (some FF) .leaf .leaf) .leaf))) (.node none (.node none (.node none (.node (some yX) .leaf .leaf) (.node (some Id) .leaf .leaf)) .leaf) (.node none (.node none (.node (some yJ) .leaf .leaf) .leaf) (.node none (.node (some yw) .leaf .leaf) .leaf)))))) (.node none (.node none (.node (some ky8) (.node none (.node (some O1) .leaf (.node none (.node none (.node (some FK) .leaf .leaf) .leaf) .leaf)) (.node none .leaf (.node (some B1) .leaf .leaf))) (.node none .leaf (.node none (.node none (.node none (.node (some FC) .leaf .leaf) .leaf) .leaf) (.node none (.node (some yy) .leaf .leaf) .leaf)))) (.node none (.node none (.node none .leaf (.node none .leaf (.node (some Bt) .leaf .leaf))) (.node none .leaf (.node none (.node none (.node (some Hq) .leaf .leaf) .leaf) .leaf))) .leaf)) (.node none (.node none .leaf (.node none (.node (some Ol) .leaf .leaf) (.node none (.node (some MW) .leaf .leaf) .leaf))) (.node none (.node none (.node none (.node none .leaf (.node none (.node (some yq) .leaf .leaf) .leaf)) .leaf) (.node none .leaf (.node none .leaf (.node (some xW) .leaf .leaf)))) (.node none (.node none (.node none (.node (some Aw) .leaf .leaf) (.node (some zM) .leaf .leaf)) .leaf) (.node none (.node none (.node (some A9) (.node (some FE) .leaf .leaf) .leaf) .leaf) (.node (some GW) (.node (some Bi) .leaf .leaf) .leaf))))))
theorem BE:kyT.toL=[(7,ky7),(127,Gg),(287,EQ),(111,I2),(279,zF),(247,AF),(227,yF),(33,OT),(113,HA),(41,Nk),(89,NS),(185,xj),(325,D9),(293,EJ),(85,MK),(181,FF),(141,yX),(205,Id),(157,yJ),(189,yw),(8,ky8),(32,O1),(288,FK),(112,B1),(280,FC),(184,yy),(228,Bt),(308,Hq),(42,Ol),(90,MW),(326,yq),(246,xW),(142,Aw),(206,zM),(158,A9),(286,FE),(126,GW),(190,Bi)]:=by kernel_rfl
theorem ML:∀ t ks,kyT.get t=some ks→oZ Tryz.prog t ks:=by
 refine Tr.all_get (p:=fun t ks=>oZ Tryz.prog t ks) ?_
 rw [BE]
 exact .cons (aI Oo) (.cons (aI Am) (.cons (aI xN) (.cons (aI I9) (.cons (aI Hj) (.cons (aI DW) (.cons (aI FR) (.cons (aI Lu) (.cons (aI Cw) (.cons (aI Jg) (.cons (aI K6) (.cons (aI HC) (.cons (aI I4) (.cons (aI F4) (.cons (aI JS) (.cons (aI Dx) (.cons (aI xn) (.cons (aI Db) (.cons (aI AW) (.cons (aI Io) (.cons (aI NE) (.cons (aI K_) (.cons (aI Ic) (.cons (aI zQ) (.cons (aI Fe) (.cons (aI DO) (.cons (aI HG) (.cons (aI zV) (.cons (aI Ll) (.cons (aI JL) (.cons (aI GJ) (.cons (aI AU) (.cons (aI Dm) (.cons (aI EE) (.cons (aI xA) (.cons (aI AH) (.cons (aI BZ) (.cons (aI xI) (.nil))))))))))))))))))))))))))))))))))))))
noncomputable def CX (σ:Sig) (kn:List (bP × Bool)) (hkn:oI σ kn):Ctx Tryz.prog:=⟨tiT.get,nG,kyT.get,ML,σ,kn,hkn⟩
theorem vp:Tryz.prog.follows .mixedOrders=true:=by kernel_rfl
noncomputable abbrev CZ (σ:Sig):Ctx Tryz.prog:=CX σ [] vX
def jr (j:Nat→AV):Nat→Nat→List AV
  | _,0=>[]
  | a,n+1=>j a::jr j (a+1) n
noncomputable abbrev fQ (f:Func) (σ:Sig) (K:AV→Hp→Prop):=fnQ (CZ σ).ti f.results.toList K
theorem gwp {σ:Sig} (g:Nat) {f:Nat} {fn:Func} {c:Code} {xs:List AV} {H:Hp} {K:AV→Hp→Prop} (hf:fnT.get f=some fn) (hb:fn.body=some c) (h:wp (CZ σ) g c (xs++List.replicate (fn.ntmps - xs.length) (.lit undef)) H (fnQ (CZ σ).ti fn.results.toList K)):∃ r H',aq Tryz.prog σ f xs H r H'∧K r H' :=
  uz (CZ σ) vp g (uK f fn hf).1 hb (uK f fn hf).2 h
theorem lrd {σ:Sig} {g:Nat} {c:Code} {T:List AV} {H:Hp} {Q:Exit→List AV→Hp→Prop} (h:wp (CZ σ) g c T H (nx Q fun T1 H1=>∀ js,ck (CZ σ) c (ga g js 0 T1) H1 Q)):ck (CZ σ) c T H Q :=
  ck.round (CZ σ) vp h
end Go.Proofs.YtegioimlblnajaaGreat.Ev
namespace Go.Proofs.YtegioimlblnajaaGreat.Ev
set_option maxRecDepth 100000
set_option maxHeartbeats 4000000
abbrev fu:Nat:=8
abbrev hJ:Nat:=15
abbrev ig:Nat:=16
abbrev iF:Nat:=17
abbrev cI:Nat:=18
abbrev dm:Nat:=21
abbrev dG:Nat:=23
abbrev gg:Nat:=24
abbrev c_:Nat:=26
abbrev cX:Nat:=27
abbrev eK:Nat:=28
abbrev dP:Nat:=30
abbrev dc:Nat:=34
abbrev dQ:Nat:=36
abbrev dL:Nat:=37
abbrev iO:Nat:=38
abbrev iN:Nat:=39
abbrev iS:Nat:=40
abbrev d_:Nat:=43
abbrev ey:Nat:=47
abbrev c0:Nat:=54
abbrev gv:Nat:=55
abbrev eU:Nat:=56
abbrev dD:Nat:=59
abbrev dN:Nat:=61
abbrev fX:Nat:=62
abbrev dh:Nat:=68
abbrev eN:Nat:=70
abbrev gM:Nat:=71
abbrev eD:Nat:=72
abbrev eW:Nat:=73
abbrev fk:Nat:=74
abbrev jg:Nat:=75
abbrev nK:Nat:=76
abbrev c9:Nat:=77
abbrev cQ:Nat:=78
abbrev bZ:Nat:=79
abbrev dB:Nat:=80
abbrev ff:Nat:=81
abbrev e_:Nat:=82
abbrev qY:Nat:=93
abbrev bE:Nat:=100
abbrev bt:Nat:=101
abbrev bz:Nat:=102
abbrev bf:Nat:=103
abbrev bF:Nat:=104
abbrev gF:Nat:=105
abbrev dV:Nat:=109
abbrev dW:Nat:=122
abbrev fK:Nat:=123
abbrev cC:Nat:=124
abbrev nf:Nat:=125
abbrev gR:Nat:=126
abbrev i7:Nat:=127
abbrev qi:Nat:=128
abbrev fH:Nat:=129
abbrev cy:Nat:=135
abbrev cK:Nat:=136
abbrev dI:Nat:=137
abbrev bM:Nat:=138
abbrev dM:Nat:=139
abbrev fT:Nat:=140
abbrev d6:Nat:=141
abbrev eP:Nat:=142
abbrev cG:Nat:=143
abbrev dv:Nat:=144
abbrev dH:Nat:=145
abbrev fR:Nat:=146
abbrev fq:Nat:=147
abbrev dC:Nat:=148
abbrev dx:Nat:=149
abbrev dA:Nat:=163
abbrev iH:Nat:=164
abbrev gC:Nat:=165
abbrev aN:Nat:=169
abbrev bx:Nat:=170
abbrev bi:Nat:=171
abbrev eh:Nat:=173
abbrev nX:Nat:=174
abbrev bX:Nat:=175
abbrev cH:Nat:=176
abbrev gE:Nat:=181
abbrev eT:Nat:=182
abbrev lf:Nat:=183
abbrev ik:Nat:=184
abbrev fL:Nat:=185
abbrev aO:Nat:=192
abbrev aX:Nat:=193
abbrev bp:Nat:=196
abbrev bI:Nat:=197
abbrev cj:Nat:=198
abbrev bK:Nat:=199
abbrev bQ:Nat:=200
abbrev d8:Nat:=210
abbrev aT:Nat:=218
abbrev bU:Nat:=219
abbrev bn:Nat:=220
abbrev bu:Nat:=221
abbrev bS:Nat:=222
abbrev b_:Nat:=231
abbrev cb:Nat:=232
abbrev aK:Nat:=233
abbrev bg:Nat:=234
abbrev cD:Nat:=235
abbrev bH:Nat:=236
abbrev bj:Nat:=243
abbrev cm:Nat:=244
abbrev fw:Nat:=3
abbrev OU:Nat:=4
abbrev fN:Nat:=9
abbrev cV:Nat:=22
abbrev hU:Nat:=53
abbrev fJ:Nat:=54
abbrev jJ:Nat:=56
abbrev mt:Nat:=75
abbrev jX:Nat:=127
abbrev qt:Nat:=154
abbrev pA:Nat:=156
abbrev qo:Nat:=254
abbrev oa:Nat:=255
abbrev qa:Nat:=257
abbrev tZ:Nat:=259
abbrev rx:Nat:=262
abbrev ui:Nat:=280
theorem tq:∃ i,tiT.get fw=some i∧i.d=.int .i64∧i.size=1:=⟨_,(by kernel_rfl:tiT.get fw=some ti3),by kernel_rfl,by kernel_rfl⟩
theorem kU:∃ i,tiT.get fN=some i∧i.d=.string∧i.size=1:=⟨_,(by kernel_rfl:tiT.get fN=some ti9),by kernel_rfl,by kernel_rfl⟩
theorem jC:∃ i,tiT.get cV=some i∧i.d=.slice jJ∧i.size=1:=⟨_,(by kernel_rfl:tiT.get cV=some Ky),by kernel_rfl,by kernel_rfl⟩
theorem oU:∃ i,tiT.get hU=some i∧i.d=.slice fN∧i.size=1:=⟨_,(by kernel_rfl:tiT.get hU=some Ln),by kernel_rfl,by kernel_rfl⟩
theorem nI:∃ i,tiT.get fJ=some i∧i.d=.slice jX∧i.size=1:=⟨_,(by kernel_rfl:tiT.get fJ=some Kz),by kernel_rfl,by kernel_rfl⟩
theorem lj:∃ i,tiT.get jJ=some i∧i.d=.struct [(0,fw),(1,fN),(2,fN),(3,hU),(4,fJ)]∧i.size=5:=⟨_,(by kernel_rfl:tiT.get jJ=some LU),by kernel_rfl,by kernel_rfl⟩
theorem ll:∃ i,tiT.get jX=some i∧i.d=.struct [(0,fN),(1,fN)]∧i.size=2:=⟨_,(by kernel_rfl:tiT.get jX=some vo),by kernel_rfl,by kernel_rfl⟩
end Go.Proofs.YtegioimlblnajaaGreat.Ev
