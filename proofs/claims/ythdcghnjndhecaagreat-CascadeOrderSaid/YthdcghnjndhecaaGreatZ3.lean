/- The walks, part 3: the evaluator, the functions, the laws. Conditions: none. -/
import Derived.Lib.Index
import Derived.Lib.Strings
import Derived.Test.YthdcghnjndhecaaGreatProg
import Derived.Test.YthdcghnjndhecaaGreatZ2
namespace Go.Proofs.YthdcghnjndhecaaGreat.Ev
set_option linter.unusedVariables false
set_option linter.unusedSimpArgs false
structure At where
 name:ByteArray
 op:Int
 text:ByteArray
mutual
inductive Pt where
 | mk (comb:Int) (c:Cp)
inductive Cp where
 | mk (tag:ByteArray) (ids classes:List ByteArray) (attrs:List At) (pseudos:List Ps)
inductive Ps where
 | mk (kind a b:Int) (list:List (List Pt))
end
def Pt.comb:Pt→Int | .mk k _=>k
def Pt.c:Pt→Cp | .mk _ c=>c
def Cp.tag:Cp→ByteArray | .mk t _ _ _ _=>t
def Cp.ids:Cp→List ByteArray | .mk _ i _ _ _=>i
def Cp.classes:Cp→List ByteArray | .mk _ _ c _ _=>c
def Cp.attrs:Cp→List At | .mk _ _ _ a _=>a
def Cp.pseudos:Cp→List Ps | .mk _ _ _ _ p=>p
def Ps.kind:Ps→Int | .mk k _ _ _=>k
def Ps.a:Ps→Int | .mk _ a _ _=>a
def Ps.b:Ps→Int | .mk _ _ b _=>b
def Ps.list:Ps→List (List Pt) | .mk _ _ _ l=>l
abbrev Sl:=List Pt
structure ST where
 prop:Int
 kind:Int
 n:Int
 imp:Bool
structure RL where
 sels:List Sl
 sets:List ST
structure Nd where
 parent:Int
 tag:ByteArray
 id:ByteArray
 classes:List ByteArray
 attrs:List (ByteArray × ByteArray)
def dn (a:At):List AV:=[Sx a.name,I a.op,Sx a.text]
def dq (l:List ByteArray):AV:=.imm 1 (l.map fun s=>[Sx s])
mutual
def ba:Pt→List AV
 | .mk k c=>I k::cR c
def cR:Cp→List AV
 | .mk t i c a p=>[Sx t,dq i,dq c,.imm 3 (a.map dn),.imm 4 (lP p)]
def bu:Ps→List AV
 | .mk k a b l=>[I k,I a,I b,.imm 1 (lc l)]
def lQ:List Pt→List (List AV)
 | []=>[]
 | p::r=>ba p::lQ r
def lP:List Ps→List (List AV)
 | []=>[]
 | p::r=>bu p::lP r
def lc:List (List Pt)→List (List AV)
 | []=>[]
 | s::r=>[.imm 6 (lQ s)]::lc r
end
theorem j4:∀ (l:List Pt),lQ l=l.map ba
 | []=>rfl
 | p::r=>by rw [lQ,j4 r]; rfl
theorem nZ:∀ (l:List Ps),lP l=l.map bu
 | []=>rfl
 | p::r=>by rw [lP,nZ r]; rfl
def aI (s:Sl):List AV:=[.imm 6 (s.map ba)]
theorem mZ:∀ (l:List Sl),lc l=l.map aI
 | []=>rfl
 | s::r=>by rw [lc,mZ r,j4]; rfl
theorem dO (p:Pt):ba p=I p.comb::cR p.c:=by cases p; rfl
theorem cy (c:Cp):cR c=[Sx c.tag,dq c.ids,dq c.classes,.imm 3 (c.attrs.map dn),.imm 4 (c.pseudos.map bu)]:=by
 cases c; rw [cR,nZ]; rfl
theorem dP (p:Ps):bu p=[I p.kind,I p.a,I p.b,.imm 1 (p.list.map aI)]:=by
 cases p; rw [bu,mZ]; rfl
@[simp] theorem lS (p:Pt):(ba p).length=6:=by rw [dO,cy]; rfl
@[simp] theorem uq (p:Cp):(cR p).length=5:=by rw [cy]; rfl
@[simp] theorem oH (p:Ps):(bu p).length=4:=by rw [dP]; rfl
@[simp] theorem Ki (p:Sl):(aI p).length=1:=rfl
@[simp] theorem J_ (p:At):(dn p).length=3:=rfl
def sls (l:List Sl):AV:=.imm 1 (l.map aI)
def aU (s:ST):List AV:=[I s.prop,I s.kind,I s.n,Bo s.imp]
def iK (r:RL):List AV:=[sls r.sels,.imm 4 (r.sets.map aU)]
def rls (l:List RL):AV:=.imm 2 (l.map iK)
def cI (p:ByteArray × ByteArray):List AV:=[Sx p.1,Sx p.2]
def a_ (n:Nd):List AV:=[I n.parent,Sx n.tag,Sx n.id,dq n.classes,.imm 2 (n.attrs.map cI)]
def nds (l:List Nd):AV:=.imm 5 (l.map a_)
theorem bi {α:Type} (f:α→List AV) (hf:∀ x,aC (f x)=true):∀ l:List α,cS (l.map f)=true
 | []=>rfl
 | x::r=>by simp only [List.map_cons,cS,hf,bi f hf r,Bool.and_self]
@[simp] theorem ju (l:List ByteArray):bf (dq l)=true:=by
 unfold dq; simp only [bf]; exact bi _ (fun _=>rfl) l
theorem pj (a:At):aC (dn a)=true:=rfl
mutual
theorem tL:∀ (p:Pt),aC (ba p)=true
 | .mk k c=>by rw [ba]; simp only [aC,bf,mF c,Bool.and_self]
theorem mF:∀ (c:Cp),aC (cR c)=true
 | .mk t i c a p=>by rw [cR]; simp only [aC,bf,ju,bi _ pj,re p,Bool.and_self]
theorem FG:∀ (p:Ps),aC (bu p)=true
 | .mk k a b l=>by rw [bu]; simp only [aC,bf,qd l,Bool.and_self]
theorem m_:∀ (l:List Pt),cS (lQ l)=true
 | []=>rfl
 | p::r=>by rw [lQ]; simp only [cS,tL p,m_ r,Bool.and_self]
theorem re:∀ (l:List Ps),cS (lP l)=true
 | []=>rfl
 | p::r=>by rw [lP]; simp only [cS,FG p,re r,Bool.and_self]
theorem qd:∀ (l:List (List Pt)),cS (lc l)=true
 | []=>rfl
 | s::r=>by rw [lc]; simp only [cS,aC,bf,m_ s,qd r,Bool.and_self]
end
theorem jC (s:Sl):aC (aI s)=true:=by
 unfold aI; rw [← j4]; simp only [aC,bf,m_,Bool.and_self]
@[simp] theorem hU (l:List Sl):bf (sls l)=true:=by unfold sls; simp only [bf]; exact bi _ jC l
theorem EE (s:ST):aC (aU s)=true:=rfl
theorem El (r:RL):aC (iK r)=true:=by unfold iK; simp only [aC,bf,hU,bi _ EE,Bool.and_self]
@[simp] theorem Kt (l:List RL):bf (rls l)=true:=by unfold rls; simp only [bf]; exact bi _ El l
theorem kJ (n:Nd):aC (a_ n)=true:=by unfold a_; simp only [aC,bf,ju,bi cI (fun _=>rfl),Bool.and_self]
@[simp] theorem KU (l:List Nd):bf (nds l)=true:=by unfold nds; simp only [bf]; exact bi _ kJ l
end Go.Proofs.YthdcghnjndhecaaGreat.Ev
namespace Go.Proofs.YthdcghnjndhecaaGreat.Ev
@[simp] theorem Ku (l:List ByteArray):AV.one (dq l)=true:=rfl
@[simp] theorem JL (c:Cp):(cR c).all AV.one=true:=by rw [cy]; rfl
@[simp] theorem Mg (p:Pt):(ba p).all AV.one=true:=by rw [dO,List.all_cons,JL]; rfl
@[simp] theorem LX (p:Ps):(bu p).all AV.one=true:=by rw [dP]; rfl
@[simp] theorem L_ (p:Sl):(aI p).all AV.one=true:=rfl
@[simp] theorem LO (p:At):(dn p).all AV.one=true:=rfl
@[simp] theorem LJ (p:RL):(iK p).all AV.one=true:=rfl
@[simp] theorem Mb (p:Nd):(a_ p).all AV.one=true:=rfl
@[simp] theorem Md (p:ST):(aU p).all AV.one=true:=rfl
@[simp] theorem Ke (p:RL):(iK p).length=2:=rfl
@[simp] theorem Kh (p:Nd):(a_ p).length=5:=rfl
@[simp] theorem Kd (p:ST):(aU p).length=4:=rfl
theorem cn {α:Type} {l:List α} {k:Nat} {x:α} (h:l[k]?=some x):l.drop k=x::l.drop (k+1):=by
 obtain ⟨hlt,rfl⟩:=List.getElem?_eq_some_iff.1 h
 exact List.drop_eq_getElem_cons hlt
theorem bQ {α:Type} {l:List α} {k:Nat} (h:k<l.length):∃ x,l[k]?=some x:=⟨l[k],List.getElem?_eq_getElem h⟩
end Go.Proofs.YthdcghnjndhecaaGreat.Ev
namespace Go.Proofs.YthdcghnjndhecaaGreat.Ev
def i64 (n:Int):Prop:=-9223372036854775808≤n∧n≤9223372036854775807
def pe (N:Nat) (l:List ByteArray):Prop:=l.length≤N∧∀ s ∈ l,s.data.size≤N
mutual
def Pt.wf (N:Nat):Pt→Prop
 | .mk k c=>i64 k∧Cp.wf N c
def Cp.wf (N:Nat):Cp→Prop
 | .mk t i c a p=>t.data.size≤N∧pe N i∧pe N c∧(a.length≤N∧∀ x ∈ a,x.name.data.size≤N∧i64 x.op∧x.text.data.size≤N)∧p.length≤N∧nA N p
def Ps.wf (N:Nat):Ps→Prop
 | .mk k a b l=>i64 k∧i64 a∧i64 b∧l.length≤N∧nl N l
def nJ (N:Nat):List Pt→Prop
 | []=>True
 | p::r=>Pt.wf N p∧nJ N r
def nA (N:Nat):List Ps→Prop
 | []=>True
 | p::r=>Ps.wf N p∧nA N r
def nl (N:Nat):List (List Pt)→Prop
 | []=>True
 | s::r=>(s.length≤N∧nJ N s)∧nl N r
end
theorem oR {N:Nat}:∀ {l:List Pt},nJ N l→∀ p ∈ l,Pt.wf N p
 | p::r,h,q,hq=>by
  rw [nJ] at h
  rcases List.mem_cons.1 hq with rfl | hq
  ·exact h.1
  ·exact oR h.2 q hq
theorem oT {N:Nat}:∀ {l:List Ps},nA N l→∀ p ∈ l,Ps.wf N p
 | p::r,h,q,hq=>by
  rw [nA] at h
  rcases List.mem_cons.1 hq with rfl | hq
  ·exact h.1
  ·exact oT h.2 q hq
def pJ (N:Nat) (s:Sl):Prop:=s.length≤N∧∀ p ∈ s,Pt.wf N p
theorem oO {N:Nat}:∀ {l:List Sl},nl N l→∀ s ∈ l,pJ N s
 | s::r,h,q,hq=>by
  rw [nl] at h
  rcases List.mem_cons.1 hq with rfl | hq
  ·exact ⟨h.1.1,oR h.1.2⟩
  ·exact oO h.2 q hq
theorem qN {N:Nat}:∀ {l:List Pt},(∀ p ∈ l,Pt.wf N p)→nJ N l
 | [],_=>by rw [nJ]; trivial
 | p::r,h=>by rw [nJ]; exact ⟨h p (by simp),qN fun q hq=>h q (by simp [hq])⟩
theorem p9 {N:Nat}:∀ {l:List Ps},(∀ p ∈ l,Ps.wf N p)→nA N l
 | [],_=>by rw [nA]; trivial
 | p::r,h=>by rw [nA]; exact ⟨h p (by simp),p9 fun q hq=>h q (by simp [hq])⟩
theorem ql {N:Nat}:∀ {l:List Sl},(∀ p ∈ l,pJ N p)→nl N l
 | [],_=>by rw [nl]; trivial
 | p::r,h=>by rw [nl]; exact ⟨⟨(h p (by simp)).1,qN (h p (by simp)).2⟩,ql fun q hq=>h q (by simp [hq])⟩
def kz (N:Nat) (l:List Sl):Prop:=l.length≤N∧∀ s ∈ l,pJ N s
structure BM (N:Nat) (c:Cp):Prop where
 tag:c.tag.data.size≤N
 ids:pe N c.ids
 classes:pe N c.classes
 attrsL:c.attrs.length≤N
 attrs:∀ x ∈ c.attrs,x.name.data.size≤N∧i64 x.op∧x.text.data.size≤N
 psL:c.pseudos.length≤N
 ps:∀ p ∈ c.pseudos,Ps.wf N p
theorem Cp.wf_iff {N:Nat} {c:Cp}:Cp.wf N c ↔ BM N c:=by
 cases c
 rw [Cp.wf]
 exact ⟨fun ⟨a,b,c,d,e,f⟩=>⟨a,b,c,d.1,d.2,e,oT f⟩,fun ⟨a,b,c,d,d',e,f⟩=>⟨a,b,c,⟨d,d'⟩,e,p9 f⟩⟩
theorem Pt.wf_iff {N:Nat} {p:Pt}:Pt.wf N p ↔ i64 p.comb∧BM N p.c:=by
 cases p; rw [Pt.wf,Cp.wf_iff]; rfl
theorem Ps.wf_iff {N:Nat} {p:Ps}:Ps.wf N p ↔ i64 p.kind∧i64 p.a∧i64 p.b∧kz N p.list:=by
 cases p; rw [Ps.wf]
 exact ⟨fun ⟨a,b,c,d,e⟩=>⟨a,b,c,d,oO e⟩,fun ⟨a,b,c,d⟩=>⟨a,b,c,d.1,ql d.2⟩⟩
abbrev gW:Nat:=9223372036854775807
theorem dE {k n N:Nat} (h:k<n) (hn:n≤N) (hN:N≤gW:=by decide):wr .i64 ((k:Int)+1)=((k+1:Nat):Int):=by
 have:gW=9223372036854775807:=rfl
 rw [eg (by omega) (by omega)]; rfl
end Go.Proofs.YthdcghnjndhecaaGreat.Ev
namespace Go.Proofs.YthdcghnjndhecaaGreat.Ev
@[simp] theorem KD (l:List ByteArray):aY (dq l)=some (.lit (.int .i64 l.length)):=by simp [dq]
@[simp] theorem tV (l:List Sl):aY (sls l)=some (.lit (.int .i64 l.length)):=by simp [sls]
@[simp] theorem tS (l:List RL):aY (rls l)=some (.lit (.int .i64 l.length)):=by simp [rls]
@[simp] theorem LB (l:List Nd):aY (nds l)=some (.lit (.int .i64 l.length)):=by simp [nds]
end Go.Proofs.YthdcghnjndhecaaGreat.Ev
namespace Go.Proofs.YthdcghnjndhecaaGreat.Ev
@[simp] theorem ni (s:Sl):ldL true 1 (aI s)=some (.agg (aI s)):=rfl
@[simp] theorem ve (s:Pt):ldL true 6 (ba s)=some (.agg (ba s)):=cr (lS s)
@[simp] theorem Ju (s:Cp):ldL true 5 (cR s)=some (.agg (cR s)):=cr (uq s)
@[simp] theorem pK (s:Ps):ldL true 4 (bu s)=some (.agg (bu s)):=cr (oH s)
@[simp] theorem Jl (s:At):ldL true 3 (dn s)=some (.agg (dn s)):=rfl
@[simp] theorem Jz (s:Nd):ldL true 5 (a_ s)=some (.agg (a_ s)):=rfl
@[simp] theorem LW (s:RL):ldL true 2 (iK s)=some (.agg (iK s)):=rfl
@[simp] theorem LM (s:ST):ldL true 4 (aU s)=some (.agg (aU s)):=rfl
@[simp] theorem L6 (s:ByteArray × ByteArray):ldL true 2 (cI s)=some (.agg (cI s)):=rfl
@[simp] theorem Mn (c:AV) (s:Sl):aP [c] 0 (aI s)=aI s:=rfl
end Go.Proofs.YthdcghnjndhecaaGreat.Ev
namespace Go.Proofs.YthdcghnjndhecaaGreat.Ev
@[simp] theorem Ia (p:Pt):(ba p).tail=cR p.c:=by rw [dO]; rfl
end Go.Proofs.YthdcghnjndhecaaGreat.Ev
namespace Go.Proofs.YthdcghnjndhecaaGreat.Ev
@[simp] theorem yz (x:Ps):ldL false 1 (bu x)=some (I x.kind):=by rw [dP]; rfl
@[simp] theorem KP (x:Ps):ldL false 1 (bu x).tail=some (I x.a):=by rw [dP]; rfl
@[simp] theorem Lw (x:Ps):ldL false 1 ((bu x).drop 2)=some (I x.b):=by rw [dP]; rfl
@[simp] theorem qF (x:Ps):ldL false 1 ((bu x).drop 3)=some (.imm 1 (x.list.map aI)):=by rw [dP]; rfl
@[simp] theorem Km (x:Cp):ldL false 1 (cR x)=some (Sx x.tag):=by rw [cy]; rfl
@[simp] theorem KT (x:Cp):ldL false 1 (cR x).tail=some (dq x.ids):=by rw [cy]; rfl
@[simp] theorem Kv (x:Cp):ldL false 1 ((cR x).drop 2)=some (dq x.classes):=by rw [cy]; rfl
@[simp] theorem Lj (x:Cp):ldL false 1 ((cR x).drop 3)=some (.imm 3 (x.attrs.map dn)):=by rw [cy]; rfl
@[simp] theorem D3 (x:Cp):ldL false 1 ((cR x).drop 4)=some (.imm 4 (x.pseudos.map bu)):=by rw [cy]; rfl
@[simp] theorem KC (x:Pt):ldL false 1 (ba x)=some (I x.comb):=by rw [dO]; rfl
@[simp] theorem rk (x:Sl):ldL false 1 (aI x)=some (.imm 6 (x.map ba)):=rfl
@[simp] theorem KI (x:At):ldL false 1 (dn x)=some (Sx x.name):=rfl
@[simp] theorem KL (x:At):ldL false 1 (dn x).tail=some (I x.op):=rfl
@[simp] theorem Lg (x:At):ldL false 1 ((dn x).drop 2)=some (Sx x.text):=rfl
@[simp] theorem Kx (x:Nd):ldL false 1 (a_ x)=some (I x.parent):=rfl
@[simp] theorem KJ (x:Nd):ldL false 1 (a_ x).tail=some (Sx x.tag):=rfl
@[simp] theorem Ld (x:Nd):ldL false 1 ((a_ x).drop 2)=some (Sx x.id):=rfl
@[simp] theorem Lm (x:Nd):ldL false 1 ((a_ x).drop 3)=some (dq x.classes):=rfl
@[simp] theorem K9 (x:Nd):ldL false 1 ((a_ x).drop 4)=some (.imm 2 (x.attrs.map cI)):=rfl
@[simp] theorem Lf (x:RL):ldL false 1 (iK x)=some (sls x.sels):=rfl
@[simp] theorem Lb (x:RL):ldL false 1 (iK x).tail=some (.imm 4 (x.sets.map aU)):=rfl
@[simp] theorem KE (x:ST):ldL false 1 (aU x)=some (I x.prop):=rfl
@[simp] theorem K4 (x:ST):ldL false 1 (aU x).tail=some (I x.kind):=rfl
@[simp] theorem K3 (x:ST):ldL false 1 ((aU x).drop 2)=some (I x.n):=rfl
@[simp] theorem KM (x:ST):ldL false 1 ((aU x).drop 3)=some (Bo x.imp):=rfl
@[simp] theorem Lc (x:ByteArray × ByteArray):ldL false 1 (cI x)=some (Sx x.1):=rfl
@[simp] theorem Lu (x:ByteArray × ByteArray):ldL false 1 (cI x).tail=some (Sx x.2):=rfl
theorem Ad {l:List AV} (x:Ps) (h:l.length=4):aP l 0 (bu x)=bu x:=aE (by rw [oH,h])
theorem Hk {l:List AV} (x:Pt) (h:l.length=6):aP l 0 (ba x)=ba x:=aE (by rw [lS,h])
end Go.Proofs.YthdcghnjndhecaaGreat.Ev
namespace Go.Proofs.YthdcghnjndhecaaGreat.Ev
set_option linter.unusedVariables false
set_option linter.unusedSimpArgs false
theorem ic {sz:Nat}:∀ {rows:List (List AV)} {w:Nat} (hs:∀ r ∈ rows,r.length=sz) (h:w<rows.length),rows.flatten.drop (w*sz)=rows[w]++(rows.drop (w+1)).flatten
 | r::rs,0,hs,h=>by simp
 | r::rs,w+1,hs,h=>by
  have hr:r.length=sz:=hs r (by simp)
  have e:(w+1)*sz=sz+w*sz:=by rw [Nat.succ_mul,Nat.add_comm]
  have e1:(r++rs.flatten).drop sz=rs.flatten:=by rw [← hr]; simp
  rw [List.flatten_cons,e,← List.drop_drop,e1]
  exact ic (fun r hr=>hs r (by simp [hr])) (by simpa using h)
theorem kr {a b:List AV} {k:Nat} {xs:List AV}:aP (a++b) (a.length+k) xs=a++aP b k xs:=by
 unfold aP
 rw [Nat.add_assoc,List.take_append,List.drop_append,List.take_of_length_le (by omega),List.drop_eq_nil_of_le (by omega)]
 simp
theorem lG {a b:List AV} {k:Nat} {xs:List AV} (h:k+xs.length≤a.length):aP (a++b) k xs=aP a k xs++b:=by
 unfold aP
 rw [List.take_append_of_le_length (by omega),List.drop_append_of_le_length h]
 simp
theorem eI {sz:Nat} {xs:List AV} {k:Nat} (hk:k+xs.length≤sz):∀ {rows:List (List AV)} {w:Nat} (hs:∀ r ∈ rows,r.length=sz) (h:w<rows.length),aP rows.flatten (w*sz+k) xs=(rows.set w (aP rows[w] k xs)).flatten
 | r::rs,0,hs,h=>by
  have hr:r.length=sz:=hs r (by simp)
  simp only [Nat.zero_mul,Nat.zero_add,List.flatten_cons,List.getElem_cons_zero,List.set_cons_zero]
  exact lG (by omega)
 | r::rs,w+1,hs,h=>by
  have hr:r.length=sz:=hs r (by simp)
  have e:(w+1)*sz+k=r.length+(w*sz+k):=by rw [Nat.succ_mul,hr]; omega
  simp only [List.flatten_cons,List.getElem_cons_succ,List.set_cons_succ]
  rw [e,kr,eI hk (fun r hr=>hs r (by simp [hr])) (by simpa using h)]
end Go.Proofs.YthdcghnjndhecaaGreat.Ev
namespace Go.Proofs.YthdcghnjndhecaaGreat.Ev
set_option linter.unusedVariables false
set_option linter.unusedSimpArgs false
def Nd.none:Nd:=⟨0,⟨#[]⟩,⟨#[]⟩,[],[]⟩
def cw (L:List Nd) (i:Nat):Nd:=L.getD i Nd.none
def par (L:List Nd) (i:Nat):Int:=(cw L i).parent
def gu (L:List Nd) (m e:Nat):List Nat:=(List.range m).filter fun j=>decide (0<j)&&decide (par L j=e)
def nc (L:List Nd) (e:Nat):List Nat:=(List.range e).filter fun j=>decide (0<j)&&decide (par L j=par L e)
def o4 (l:List Nat):Int:=match l.getLast? with | some j=>j | none=>-1
def b8 (L:List Nd) (e:Nat):Int:=(nc L e).length+1
def gc (L:List Nd) (e:Nat):Int:=o4 (nc L e)
structure ee (L:List Nd) (m:Nat) (d:List Nat):Prop where
 len:d.length=m
 le:m≤L.length
 root:0<m→par L 0=-1∧d[0]?=some 0
 step:∀ i,0<i→i<m→∃ p x:Nat,par L i=p∧p<i∧d[p]?=some x∧d[i]?=some (x+1)∧x+1≤256
theorem ee.nil (L:List Nd):ee L 0 []:=⟨rfl,Nat.zero_le _,fun h=>absurd h (Nat.lt_irrefl 0),fun i h0 h=>absurd h (Nat.not_lt_zero i)⟩
theorem ee.first {L:List Nd} (hl:0<L.length) (h:par L 0=-1):ee L 1 [0]:=⟨rfl,hl,fun _=>⟨h,rfl⟩,fun i h0 h=>by omega⟩
theorem ee.next {L:List Nd} {m p x:Nat} {d:List Nat} (h:ee L m d) (hm:0<m) (hl:m<L.length) (hp:par L m=p) (hlt:p<m) (hx:d[p]?=some x) (h256:x+1≤256):ee L (m+1) (d++[x+1]):=by
 have hlen:=h.len
 refine ⟨by simp [hlen],hl,fun _=>⟨(h.root hm).1,?_⟩,fun i h0 hi=>?_⟩
 ·rw [List.getElem?_append_left (by omega)]; exact (h.root hm).2
 ·by_cases him:i<m
  ·obtain ⟨p',x',e1,e2,e3,e4,e5⟩:=h.step i h0 him
   exact ⟨p',x',e1,e2,by rw [List.getElem?_append_left (by omega)]; exact e3,by rw [List.getElem?_append_left (by omega)]; exact e4,e5⟩
  ·have:i=m:=by omega
   subst this
   exact ⟨p,x,hp,hlt,by rw [List.getElem?_append_left (by omega)]; exact hx,by rw [List.getElem?_append_right (by omega),hlen]; simp,h256⟩
theorem lM (L:List Nd) (m e:Nat):gu L (m+1) e=gu L m e++if 0<m∧par L m=e then [m] else []:=by
 unfold gu
 rw [List.range_succ,List.filter_append]
 congr 1
 by_cases h:0<m∧par L m=(e:Int)
 ·simp [h]
 ·rw [if_neg h]
  simp only [List.filter_cons,List.filter_nil]
  rw [if_neg (by simpa using h)]
theorem o8 {L:List Nd} {m p:Nat} (hp:par L m=p):gu L m p=nc L m:=by unfold gu nc; rw [hp]
theorem EM {L:List Nd} {N:Nat} {d:List Nat} (hB:ee L N d) {m:Nat} (hm:m≤N) {e:Nat} (he:m≤e+1):gu L m e=[]:=by
 unfold gu
 rw [List.filter_eq_nil_iff]
 intro j hj
 simp only [List.mem_range] at hj
 simp only [Bool.and_eq_true,decide_eq_true_eq,not_and]
 intro h0 h1
 obtain ⟨p,x,e1,e2,_⟩:=hB.step j h0 (by omega)
 rw [e1] at h1
 omega
def eT (L:List Nd) (d:List Nat) (i:Nat) (c:AV) (low:Nd→Nd):List AV:=a_ (low (cw L i))++[c,I (d.getD i 0),I (b8 L i),I (gc L i)]
@[simp] theorem zb (L:List Nd) (d:List Nat) (i:Nat) (c:AV) (low:Nd→Nd):(eT L d i c low).length=9:=rfl
def cN (L:List Nd) (d:List Nat) (ch:List AV) (low:Nd→Nd):List (List AV):=ch.mapIdx fun i c=>eT L d i c low
theorem dF (L:List Nd) (d:List Nat) (ch:List AV) (low:Nd→Nd):(cN L d ch low).length=ch.length:=by simp [cN]
theorem kd {L:List Nd} {d:List Nat} {ch:List AV} {low:Nd→Nd}:∀ row ∈ cN L d ch low,row.length=9:=by
 intro row h
 unfold cN at h
 obtain ⟨i,hi,rfl⟩:=List.mem_mapIdx.1 h
 rfl
theorem lR {L:List Nd} {d:List Nat} {ch:List AV} {low:Nd→Nd} {k:Nat} {c:AV} (h:ch[k]?=some c):(cN L d ch low)[k]?=some (eT L d k c low):=by
 unfold cN
 rw [List.getElem?_mapIdx,h]; rfl
theorem ul {L:List Nd} {d:List Nat} {ch:List AV} {low:Nd→Nd} {k:Nat} {c':AV}:cN L d (ch.set k c') low=(cN L d ch low).set k (eT L d k c' low):=by
 apply List.ext_getElem?
 intro i
 unfold cN
 rw [List.getElem?_mapIdx,List.getElem?_set,List.getElem?_set,List.getElem?_mapIdx]
 by_cases hi:k=i
 ·subst hi
  simp only [if_true,List.length_mapIdx]
  by_cases hk:k<ch.length
  ·simp [hk]
  ·simp [hk]
 ·simp [hi]
theorem uH {L:List Nd} {d:List Nat} {ch:List AV} {low:Nd→Nd} {c:AV}:cN L d (ch++[c]) low=cN L d ch low++[eT L d ch.length c low]:=by
 simp [cN,List.mapIdx_append]
theorem s4 {L:List Nd} {d:List Nat} {ch:List AV} {low:Nd→Nd} {k:Nat} {c:AV} (h:ch[k]?=some c):∃ r,(cN L d ch low).flatten.drop (k*9)=eT L d k c low++r:=by
 have hk:=(List.getElem?_eq_some_iff.1 h).1
 have e:=lR (L:=L) (d:=d) (low:=low) h
 have hk':k<(cN L d ch low).length:=by rw [dF]; exact hk
 refine ⟨((cN L d ch low).drop (k+1)).flatten,?_⟩
 rw [ic kd hk']
 congr 1
 rw [List.getElem?_eq_getElem hk'] at e
 exact Option.some.inj e
theorem jj {L:List Nd} {d:List Nat} {ch:List AV} {low:Nd→Nd} {k:Nat} {c:AV} (h:ch[k]?=some c) (j:Nat) (hj:j≤9):∃ r,(cN L d ch low).flatten.drop (k*9+j)=(eT L d k c low).drop j++r:=by
 obtain ⟨r,e⟩:=s4 (L:=L) (d:=d) (low:=low) h
 refine ⟨r,?_⟩
 rw [← List.drop_drop,e,List.drop_append_of_le_length (by simpa using hj)]
theorem uZ {L:List Nd} {d:List Nat} {ch:List AV} {low:Nd→Nd} {k:Nat} {c c':AV} (h:ch[k]?=some c):aP (cN L d ch low).flatten (k*9+5) [c']=(cN L d (ch.set k c') low).flatten:=by
 have hk:=(List.getElem?_eq_some_iff.1 h).1
 have hk':k<(cN L d ch low).length:=by rw [dF]; exact hk
 rw [eI (sz:=9) (by simp) kd hk',ul]
 congr 2
 have e:=lR (L:=L) (d:=d) (low:=low) h
 rw [List.getElem?_eq_getElem hk'] at e
 rw [Option.some.inj e]
 rfl
end Go.Proofs.YthdcghnjndhecaaGreat.Ev
namespace Go.Proofs.YthdcghnjndhecaaGreat.Ev
set_option linter.unusedVariables false
set_option linter.unusedSimpArgs false
abbrev tl (s:ByteArray):List UInt8:=s.data.toList
def mk (l:List UInt8):ByteArray:=⟨l.toArray⟩
@[simp] theorem lT (l:List UInt8):tl (mk l)=l:=by simp [tl,mk]
@[simp] theorem CO (s:ByteArray):mk (tl s)=s:=by simp [tl,mk]
theorem sd {a b:List UInt8} (h:mk a=mk b):a=b:=by rw [← lT a,h,lT]
theorem fG (s:ByteArray):(tl s).length=s.data.size:=by simp [tl]
theorem GO (l:List UInt8):(mk l).data.size=l.length:=by simp [mk]
theorem yE {s:ByteArray} {k:Nat} {c:UInt8} (h:(tl s)[k]?=some c):rg (Sx s) (I (k:Int))=some (.lit (.int .u8 c.toNat)):=by
 simp only [rg,eK]
 simp [h]
theorem ta {s:ByteArray} {b:Nat} (h2:b≤s.data.size):eV (Sx s) none (some (I (b:Int)))=some (Sx (mk ((tl s).take b))):=by
 have h3:b≤s.size:=h2
 simp [eV,ml,eK,bU,dS,je,mk,tl,h3]
theorem tM {s:ByteArray} {a:Nat} (h1:a≤s.data.size):eV (Sx s) (some (I (a:Int))) none=some (Sx (mk ((tl s).drop a))):=by
 have h3:a≤s.size:=h1
 simp [eV,ml,eK,bU,dS,je,mk,tl,h3]
 exact List.take_of_length_le (by simp)
theorem HL {a b:ByteArray} (h:a.data.size+b.data.size≤9223372036854775807):am .add (Sx a) (Sx b)=some (Sx (mk (tl a++tl b))):=by
 have e:a.data++b.data=(a.data.toList++b.data.toList).toArray:=by
  apply Array.ext'
  simp
 have h3:a.size+b.size≤9223372036854775807:=h
 simp [am,lit?,d6,s7,h3,mk,tl,e]
def pY (s p:List UInt8):Bool:=p.isPrefixOf s
def rG (s p:List UInt8):Bool:=p.isSuffixOf s
theorem BK (s p:List UInt8) (h:p.length≤s.length):decide (mk (s.take p.length)=mk p)=pY s p:=by
 have:=Go.Lib.hasPrefix_of_take s p
 simp only [h,decide_true,Bool.true_and,Go.Lib.hasPrefix] at this
 unfold pY
 rw [← this]
 by_cases e:s.take p.length=p
 ·simp [e]
 ·have:¬ (mk (s.take p.length)=mk p):=fun h=>e (sd h)
  simp [e,this]
theorem zH (s p:List UInt8) (h:p.length≤s.length):decide (mk (s.drop (s.length - p.length))=mk p)=rG s p:=by
 have:=Go.Lib.hasSuffix_of_drop s p
 simp only [h,decide_true,Bool.true_and,Go.Lib.hasSuffix] at this
 unfold rG
 rw [← this]
 by_cases e:s.drop (s.length - p.length)=p
 ·simp [e]
 ·have:¬ (mk (s.drop (s.length - p.length))=mk p):=fun h=>e (sd h)
  simp [e,this]
theorem u0 {s p:List UInt8} (h:s.length<p.length):pY s p=false:=by
 have:=Go.Lib.hasPrefix_of_take s p
 rw [show decide (p.length≤s.length)=false by simp; omega] at this
 simpa [pY,Go.Lib.hasPrefix] using this.symm
theorem Bx {s p:List UInt8} (h:s.length<p.length):rG s p=false:=by
 have:=Go.Lib.hasSuffix_of_drop s p
 rw [show decide (p.length≤s.length)=false by simp; omega] at this
 simpa [rG,Go.Lib.hasSuffix] using this.symm
def wht (c:UInt8):Bool:=c.toNat == 9||(c.toNat == 10||(c.toNat == 12||(c.toNat == 13||c.toNat == 32)))
def nw (c:UInt8):Bool:=!wht c
def wl (l:List UInt8):Nat:=(l.takeWhile nw).length
theorem He:∀ (l:List UInt8),wl l≤l.length
 | []=>Nat.le_refl _
 | c::l=>by
  unfold wl
  rw [List.takeWhile_cons]
  split
  ·have:=He l; unfold wl at this; simp; exact this
  ·simp
theorem Hm:∀ {l:List UInt8} {k:Nat},k<wl l→∃ c,l[k]?=some c∧wht c=false
 | [],k,h=>by simp [wl] at h
 | c::l,k,h=>by
  unfold wl at h
  rw [List.takeWhile_cons] at h
  split at h
  ·rename_i hc
   cases k with
   | zero=>exact ⟨c,rfl,by simpa [nw] using hc⟩
   | succ k=>exact Hm (l:=l) (by unfold wl; simpa using h)
  ·simp at h
theorem Hl:∀ {l:List UInt8} {c:UInt8},l[wl l]?=some c→wht c=true
 | [],c,h=>by simp at h
 | d::l,c,h=>by
  unfold wl at h
  rw [List.takeWhile_cons] at h
  split at h
  ·exact Hl (l:=l) (by unfold wl; simpa using h)
  ·rename_i hc
   simp at h
   subst h
   simpa [nw] using hc
def ji:Nat→List UInt8→List (List UInt8)
 | 0,_=>[]
 | f+1,l=>if l=[] then [] else if wl l=0 then ji f (l.drop 1) else l.take (wl l)::ji f (l.drop (wl l+1))
theorem jB:∀ (f g:Nat) (l:List UInt8),l.length<f→l.length<g→ji f l=ji g l
 | 0,g,l,h,_=>by omega
 | f+1,0,l,_,h=>by omega
 | f+1,g+1,l,h1,h2=>by
  unfold ji
  by_cases hl:l=[]
  ·rw [if_pos hl,if_pos hl]
  ·have hpos:0<l.length:=List.length_pos_iff.2 hl
   rw [if_neg hl,if_neg hl,jB f g (l.drop 1) (by simp; omega) (by simp; omega),jB f g (l.drop (wl l+1)) (by simp; omega) (by simp; omega)]
def jh (l:List UInt8):List (List UInt8):=ji (l.length+1) l
theorem sT:jh []=[]:=rfl
theorem ut {l:List UInt8} (hl:l≠[]):jh l=if wl l=0 then jh (l.drop 1) else l.take (wl l)::jh (l.drop (wl l+1)):=by
 have hpos:0<l.length:=List.length_pos_iff.2 hl
 show ji (l.length+1) l=_
 unfold ji
 rw [if_neg hl]
 unfold jh
 rw [jB l.length ((l.drop 1).length+1) (l.drop 1) (by simp; omega) (by simp),jB l.length ((l.drop (wl l+1)).length+1) (l.drop (wl l+1)) (by simp; omega) (by simp)]
end Go.Proofs.YthdcghnjndhecaaGreat.Ev
namespace Go.Proofs.YthdcghnjndhecaaGreat.Ev
set_option maxRecDepth 100000
set_option maxHeartbeats 4000000
noncomputable def ti1:TI:=⟨.func,1,8,[.nilFunc]⟩
theorem Ja:al Tryz.prog 1=some ti1:=by kernel_rfl
noncomputable def ti2:TI:=⟨.int .i64,1,8,[.int .i64 0]⟩
theorem IE:al Tryz.prog 2=some ti2:=by kernel_rfl
noncomputable def ti3:TI:=⟨.int .i64,1,8,[.int .i64 0]⟩
theorem HO:al Tryz.prog 3=some ti3:=by kernel_rfl
noncomputable def ti4:TI:=⟨.bool,1,1,[.bool false]⟩
theorem Jo:al Tryz.prog 4=some ti4:=by kernel_rfl
noncomputable def ti5:TI:=⟨.int .u8,1,1,[.int .u8 0]⟩
theorem HP:al Tryz.prog 5=some ti5:=by kernel_rfl
noncomputable def ti6:TI:=⟨.int .u8,1,1,[.int .u8 0]⟩
theorem Jp:al Tryz.prog 6=some ti6:=by kernel_rfl
noncomputable def ti7:TI:=⟨.struct [(0,2),(1,3),(2,4),(3,6)],4,24,[.int .i64 0,.int .i64 0,.bool false,.int .u8 0]⟩
theorem I7:al Tryz.prog 7=some ti7:=by kernel_rfl
noncomputable def ti8:TI:=⟨.struct [(0,2),(1,3),(2,4),(3,6)],4,24,[.int .i64 0,.int .i64 0,.bool false,.int .u8 0]⟩
theorem Jq:al Tryz.prog 8=some ti8:=by kernel_rfl
noncomputable def ti9:TI:=⟨.string,1,16,[.string ⟨#[]⟩]⟩
theorem IW:al Tryz.prog 9=some ti9:=by kernel_rfl
noncomputable def HH:TI:=⟨.string,1,16,[.string ⟨#[]⟩]⟩
theorem Gc:al Tryz.prog 10=some HH:=by kernel_rfl
noncomputable def It:TI:=⟨.string,1,16,[.string ⟨#[]⟩]⟩
theorem FA:al Tryz.prog 11=some It:=by kernel_rfl
noncomputable def JM:TI:=⟨.int .u64,1,8,[.int .u64 0]⟩
theorem EP:al Tryz.prog 12=some JM:=by kernel_rfl
noncomputable def HE:TI:=⟨.struct [(0,9),(1,12)],2,24,[.string ⟨#[]⟩,.int .u64 0]⟩
theorem FS:al Tryz.prog 13=some HE:=by kernel_rfl
noncomputable def II:TI:=⟨.struct [(0,9),(1,12)],2,24,[.string ⟨#[]⟩,.int .u64 0]⟩
theorem Eo:al Tryz.prog 14=some II:=by kernel_rfl
noncomputable def JD:TI:=⟨.ptr 262,1,8,[.pointer none]⟩
theorem F_:al Tryz.prog 15=some JD:=by kernel_rfl
noncomputable def IP:TI:=⟨.ptr 265,1,8,[.pointer none]⟩
theorem FH:al Tryz.prog 16=some IP:=by kernel_rfl
noncomputable def Hu:TI:=⟨.ptr 273,1,8,[.pointer none]⟩
theorem GS:al Tryz.prog 17=some Hu:=by kernel_rfl
noncomputable def JA:TI:=⟨.struct [(0,17)],1,8,[.pointer none]⟩
theorem Ee:al Tryz.prog 18=some JA:=by kernel_rfl
noncomputable def Jb:TI:=⟨.struct [(0,17)],1,8,[.pointer none]⟩
theorem EF:al Tryz.prog 19=some Jb:=by kernel_rfl
noncomputable def Hs:TI:=⟨.int .i32,1,4,[.int .i32 0]⟩
theorem Gx:al Tryz.prog 21=some Hs:=by kernel_rfl
noncomputable def HA:TI:=⟨.slice 41,1,24,[.slice none 0 0]⟩
theorem Gn:al Tryz.prog 22=some HA:=by kernel_rfl
noncomputable def HR:TI:=⟨.slice 49,1,24,[.slice none 0 0]⟩
theorem EI:al Tryz.prog 23=some HR:=by kernel_rfl
noncomputable def JS:TI:=⟨.func,1,8,[.nilFunc]⟩
theorem EN:al Tryz.prog 24=some JS:=by kernel_rfl
noncomputable def JY:TI:=⟨.func,1,8,[.nilFunc]⟩
theorem G5:al Tryz.prog 25=some JY:=by kernel_rfl
noncomputable def Jw:TI:=⟨.ptr 92,1,8,[.pointer none]⟩
theorem FN:al Tryz.prog 26=some Jw:=by kernel_rfl
noncomputable def Ih:TI:=⟨.ptr 113,1,8,[.pointer none]⟩
theorem FX:al Tryz.prog 27=some Ih:=by kernel_rfl
noncomputable def IY:TI:=⟨.func,1,8,[.nilFunc]⟩
theorem Gb:al Tryz.prog 29=some IY:=by kernel_rfl
noncomputable def J5:TI:=⟨.struct [(0,3),(1,3)],2,16,[.int .i64 0,.int .i64 0]⟩
theorem Fs:al Tryz.prog 30=some J5:=by kernel_rfl
noncomputable def ER:TI:=⟨.struct [(0,3),(1,3)],2,16,[.int .i64 0,.int .i64 0]⟩
theorem F8:al Tryz.prog 31=some ER:=by kernel_rfl
noncomputable def Hr:TI:=⟨.array 8 31,16,128,[.int .i64 0,.int .i64 0,.int .i64 0,.int .i64 0,.int .i64 0,.int .i64 0,.int .i64 0,.int .i64 0,.int .i64 0,.int .i64 0,.int .i64 0,.int .i64 0,.int .i64 0,.int .i64 0,.int .i64 0,.int .i64 0]⟩
theorem EB:al Tryz.prog 32=some Hr:=by kernel_rfl
noncomputable def In:TI:=⟨.func,1,8,[.nilFunc]⟩
theorem FY:al Tryz.prog 33=some In:=by kernel_rfl
noncomputable def Ht:TI:=⟨.func,1,8,[.nilFunc]⟩
theorem Gf:al Tryz.prog 34=some Ht:=by kernel_rfl
noncomputable def Hv:TI:=⟨.func,1,8,[.nilFunc]⟩
theorem Gl:al Tryz.prog 35=some Hv:=by kernel_rfl
noncomputable def I5:TI:=⟨.struct [(0,3),(1,31),(3,4)],4,32,[.int .i64 0,.int .i64 0,.int .i64 0,.bool false]⟩
theorem ET:al Tryz.prog 36=some I5:=by kernel_rfl
noncomputable def GQ:TI:=⟨.struct [(0,3),(1,31),(3,4)],4,32,[.int .i64 0,.int .i64 0,.int .i64 0,.bool false]⟩
theorem EZ:al Tryz.prog 37=some GQ:=by kernel_rfl
noncomputable def HZ:TI:=⟨.slice 9,1,24,[.slice none 0 0]⟩
theorem ES:al Tryz.prog 38=some HZ:=by kernel_rfl
noncomputable def Jj:TI:=⟨.slice 126,1,24,[.slice none 0 0]⟩
theorem Es:al Tryz.prog 39=some Jj:=by kernel_rfl
noncomputable def Im:TI:=⟨.struct [(0,3),(1,9),(2,9),(3,38),(4,39)],5,88,[.int .i64 0,.string ⟨#[]⟩,.string ⟨#[]⟩,.slice none 0 0,.slice none 0 0]⟩
theorem EK:al Tryz.prog 40=some Im:=by kernel_rfl
noncomputable def JN:TI:=⟨.struct [(0,3),(1,9),(2,9),(3,38),(4,39)],5,88,[.int .i64 0,.string ⟨#[]⟩,.string ⟨#[]⟩,.slice none 0 0,.slice none 0 0]⟩
theorem FU:al Tryz.prog 41=some JN:=by kernel_rfl
noncomputable def ID:TI:=⟨.int .i64,1,8,[.int .i64 0]⟩
theorem EY:al Tryz.prog 42=some ID:=by kernel_rfl
noncomputable def J7:TI:=⟨.func,1,8,[.nilFunc]⟩
theorem GI:al Tryz.prog 44=some J7:=by kernel_rfl
noncomputable def JC:TI:=⟨.slice 61,1,24,[.slice none 0 0]⟩
theorem Fy:al Tryz.prog 45=some JC:=by kernel_rfl
noncomputable def JV:TI:=⟨.func,1,8,[.nilFunc]⟩
theorem FF:al Tryz.prog 46=some JV:=by kernel_rfl
noncomputable def IN:TI:=⟨.slice 37,1,24,[.slice none 0 0]⟩
theorem Ge:al Tryz.prog 47=some IN:=by kernel_rfl
noncomputable def Jc:TI:=⟨.struct [(0,45),(1,47)],2,48,[.slice none 0 0,.slice none 0 0]⟩
theorem GE:al Tryz.prog 48=some Jc:=by kernel_rfl
noncomputable def I6:TI:=⟨.struct [(0,45),(1,47)],2,48,[.slice none 0 0,.slice none 0 0]⟩
theorem FI:al Tryz.prog 49=some I6:=by kernel_rfl
noncomputable def IM:TI:=⟨.func,1,8,[.nilFunc]⟩
theorem Gm:al Tryz.prog 50=some IM:=by kernel_rfl
noncomputable def Ix:TI:=⟨.func,1,8,[.nilFunc]⟩
theorem GG:al Tryz.prog 51=some Ix:=by kernel_rfl
noncomputable def Iw:TI:=⟨.func,1,8,[.nilFunc]⟩
theorem Er:al Tryz.prog 52=some Iw:=by kernel_rfl
noncomputable def Jy:TI:=⟨.slice 215,1,24,[.slice none 0 0]⟩
theorem Gd:al Tryz.prog 53=some Jy:=by kernel_rfl
noncomputable def JI:TI:=⟨.slice 167,1,24,[.slice none 0 0]⟩
theorem EJ:al Tryz.prog 54=some JI:=by kernel_rfl
noncomputable def Id:TI:=⟨.struct [(0,9),(1,38),(2,38),(3,53),(4,54)],5,112,[.string ⟨#[]⟩,.slice none 0 0,.slice none 0 0,.slice none 0 0,.slice none 0 0]⟩
theorem Fq:al Tryz.prog 55=some Id:=by kernel_rfl
noncomputable def JX:TI:=⟨.struct [(0,9),(1,38),(2,38),(3,53),(4,54)],5,112,[.string ⟨#[]⟩,.slice none 0 0,.slice none 0 0,.slice none 0 0,.slice none 0 0]⟩
theorem EV:al Tryz.prog 56=some JX:=by kernel_rfl
noncomputable def HY:TI:=⟨.struct [(0,3),(1,56)],6,120,[.int .i64 0,.string ⟨#[]⟩,.slice none 0 0,.slice none 0 0,.slice none 0 0,.slice none 0 0]⟩
theorem FP:al Tryz.prog 57=some HY:=by kernel_rfl
noncomputable def Jh:TI:=⟨.struct [(0,3),(1,56)],6,120,[.int .i64 0,.string ⟨#[]⟩,.slice none 0 0,.slice none 0 0,.slice none 0 0,.slice none 0 0]⟩
theorem FM:al Tryz.prog 58=some Jh:=by kernel_rfl
noncomputable def JK:TI:=⟨.slice 58,1,24,[.slice none 0 0]⟩
theorem GD:al Tryz.prog 59=some JK:=by kernel_rfl
noncomputable def HU:TI:=⟨.struct [(0,59)],1,24,[.slice none 0 0]⟩
theorem GA:al Tryz.prog 60=some HU:=by kernel_rfl
noncomputable def Iy:TI:=⟨.struct [(0,59)],1,24,[.slice none 0 0]⟩
theorem F9:al Tryz.prog 61=some Iy:=by kernel_rfl
noncomputable def I9:TI:=⟨.func,1,8,[.nilFunc]⟩
theorem F5:al Tryz.prog 62=some I9:=by kernel_rfl
noncomputable def IU:TI:=⟨.slice 3,1,24,[.slice none 0 0]⟩
theorem GH:al Tryz.prog 63=some IU:=by kernel_rfl
noncomputable def HX:TI:=⟨.ptr 104,1,8,[.pointer none]⟩
theorem FK:al Tryz.prog 64=some HX:=by kernel_rfl
noncomputable def Ij:TI:=⟨.func,1,8,[.nilFunc]⟩
theorem FO:al Tryz.prog 65=some Ij:=by kernel_rfl
noncomputable def HD:TI:=⟨.array 1024 5,1024,1024,(List.replicate 1024 (.int .u8 0))⟩
theorem E9:al Tryz.prog 66=some HD:=by kernel_rfl
noncomputable def I8:TI:=⟨.struct [(0,66)],1024,1024,(List.replicate 1024 (.int .u8 0))⟩
theorem Ft:al Tryz.prog 67=some I8:=by kernel_rfl
noncomputable def IS:TI:=⟨.struct [(0,66)],1024,1024,(List.replicate 1024 (.int .u8 0))⟩
theorem FE:al Tryz.prog 68=some IS:=by kernel_rfl
noncomputable def JO:TI:=⟨.func,1,8,[.nilFunc]⟩
theorem E3:al Tryz.prog 69=some JO:=by kernel_rfl
noncomputable def Ii:TI:=⟨.func,1,8,[.nilFunc]⟩
theorem Fa:al Tryz.prog 70=some Ii:=by kernel_rfl
noncomputable def IG:TI:=⟨.func,1,8,[.nilFunc]⟩
theorem ED:al Tryz.prog 71=some IG:=by kernel_rfl
noncomputable def JG:TI:=⟨.func,1,8,[.nilFunc]⟩
theorem E5:al Tryz.prog 72=some JG:=by kernel_rfl
noncomputable def JT:TI:=⟨.func,1,8,[.nilFunc]⟩
theorem Fu:al Tryz.prog 73=some JT:=by kernel_rfl
noncomputable def Je:TI:=⟨.ptr 68,1,8,[.pointer none]⟩
theorem Gq:al Tryz.prog 74=some Je:=by kernel_rfl
noncomputable def HM:TI:=⟨.func,1,8,[.nilFunc]⟩
theorem Gu:al Tryz.prog 75=some HM:=by kernel_rfl
noncomputable def Jg:TI:=⟨.func,1,8,[.nilFunc]⟩
theorem GX:al Tryz.prog 76=some Jg:=by kernel_rfl
noncomputable def IR:TI:=⟨.slice 5,1,24,[.slice none 0 0]⟩
theorem F6:al Tryz.prog 77=some IR:=by kernel_rfl
noncomputable def Jv:TI:=⟨.func,1,8,[.nilFunc]⟩
theorem Fv:al Tryz.prog 78=some Jv:=by kernel_rfl
noncomputable def Jx:TI:=⟨.func,1,8,[.nilFunc]⟩
theorem Eg:al Tryz.prog 79=some Jx:=by kernel_rfl
noncomputable def HQ:TI:=⟨.func,1,8,[.nilFunc]⟩
theorem Gk:al Tryz.prog 81=some HQ:=by kernel_rfl
noncomputable def I_:TI:=⟨.func,1,8,[.nilFunc]⟩
theorem GL:al Tryz.prog 82=some I_:=by kernel_rfl
noncomputable def IQ:TI:=⟨.func,1,8,[.nilFunc]⟩
theorem EA:al Tryz.prog 83=some IQ:=by kernel_rfl
noncomputable def IC:TI:=⟨.func,1,8,[.nilFunc]⟩
theorem G4:al Tryz.prog 84=some IC:=by kernel_rfl
noncomputable def Js:TI:=⟨.func,1,8,[.nilFunc]⟩
theorem EU:al Tryz.prog 85=some Js:=by kernel_rfl
noncomputable def I2:TI:=⟨.array 8 3,8,64,[.int .i64 0,.int .i64 0,.int .i64 0,.int .i64 0,.int .i64 0,.int .i64 0,.int .i64 0,.int .i64 0]⟩
theorem F7:al Tryz.prog 86=some I2:=by kernel_rfl
noncomputable def JF:TI:=⟨.array 8 4,8,8,[.bool false,.bool false,.bool false,.bool false,.bool false,.bool false,.bool false,.bool false]⟩
theorem Fl:al Tryz.prog 87=some JF:=by kernel_rfl
noncomputable def Hy:TI:=⟨.func,1,8,[.nilFunc]⟩
theorem Fm:al Tryz.prog 89=some Hy:=by kernel_rfl
noncomputable def Iz:TI:=⟨.slice 135,1,24,[.slice none 0 0]⟩
theorem GT:al Tryz.prog 90=some Iz:=by kernel_rfl
noncomputable def IK:TI:=⟨.struct [(0,90)],1,24,[.slice none 0 0]⟩
theorem EG:al Tryz.prog 91=some IK:=by kernel_rfl
noncomputable def Jr:TI:=⟨.struct [(0,90)],1,24,[.slice none 0 0]⟩
theorem GP:al Tryz.prog 92=some Jr:=by kernel_rfl
noncomputable def HG:TI:=⟨.func,1,8,[.nilFunc]⟩
theorem Eh:al Tryz.prog 93=some HG:=by kernel_rfl
noncomputable def Jm:TI:=⟨.func,1,8,[.nilFunc]⟩
theorem Ef:al Tryz.prog 95=some Jm:=by kernel_rfl
noncomputable def JZ:TI:=⟨.slice 145,1,24,[.slice none 0 0]⟩
theorem Ei:al Tryz.prog 96=some JZ:=by kernel_rfl
noncomputable def JW:TI:=⟨.func,1,8,[.nilFunc]⟩
theorem GY:al Tryz.prog 97=some JW:=by kernel_rfl
noncomputable def If:TI:=⟨.func,1,8,[.nilFunc]⟩
theorem Fj:al Tryz.prog 98=some If:=by kernel_rfl
noncomputable def IF:TI:=⟨.func,1,8,[.nilFunc]⟩
theorem FJ:al Tryz.prog 99=some IF:=by kernel_rfl
noncomputable def AZ:TI:=⟨.map 107 63,1,8,[.map none]⟩
theorem vV:al Tryz.prog 100=some AZ:=by kernel_rfl
noncomputable def vf:TI:=⟨.struct [(0,100)],1,8,[.map none]⟩
theorem w5:al Tryz.prog 101=some vf:=by kernel_rfl
noncomputable def yP:TI:=⟨.struct [(0,100)],1,8,[.map none]⟩
theorem Dq:al Tryz.prog 102=some yP:=by kernel_rfl
noncomputable def BR:TI:=⟨.struct [(0,102),(1,3)],2,16,[.map none,.int .i64 0]⟩
theorem DL:al Tryz.prog 103=some BR:=by kernel_rfl
noncomputable def xS:TI:=⟨.struct [(0,102),(1,3)],2,16,[.map none,.int .i64 0]⟩
theorem Dd:al Tryz.prog 104=some xS:=by kernel_rfl
noncomputable def Db:TI:=⟨.func,1,8,[.nilFunc]⟩
theorem CA:al Tryz.prog 105=some Db:=by kernel_rfl
noncomputable def AO:TI:=⟨.struct [(0,3),(1,9)],2,24,[.int .i64 0,.string ⟨#[]⟩]⟩
theorem AE:al Tryz.prog 106=some AO:=by kernel_rfl
noncomputable def yQ:TI:=⟨.struct [(0,3),(1,9)],2,24,[.int .i64 0,.string ⟨#[]⟩]⟩
theorem yp:al Tryz.prog 107=some yQ:=by kernel_rfl
noncomputable def B7:TI:=⟨.func,1,8,[.nilFunc]⟩
theorem Be:al Tryz.prog 108=some B7:=by kernel_rfl
noncomputable def wm:TI:=⟨.func,1,8,[.nilFunc]⟩
theorem w9:al Tryz.prog 109=some wm:=by kernel_rfl
noncomputable def A0:TI:=⟨.func,1,8,[.nilFunc]⟩
theorem ww:al Tryz.prog 110=some A0:=by kernel_rfl
noncomputable def Dk:TI:=⟨.func,1,8,[.nilFunc]⟩
theorem Am:al Tryz.prog 111=some Dk:=by kernel_rfl
noncomputable def yn:TI:=⟨.struct [(0,22),(1,63)],2,48,[.slice none 0 0,.slice none 0 0]⟩
theorem vO:al Tryz.prog 112=some yn:=by kernel_rfl
noncomputable def DI:TI:=⟨.struct [(0,22),(1,63)],2,48,[.slice none 0 0,.slice none 0 0]⟩
theorem w4:al Tryz.prog 113=some DI:=by kernel_rfl
noncomputable def vz:TI:=⟨.func,1,8,[.nilFunc]⟩
theorem vY:al Tryz.prog 114=some vz:=by kernel_rfl
noncomputable def wO:TI:=⟨.func,1,8,[.nilFunc]⟩
theorem vW:al Tryz.prog 115=some wO:=by kernel_rfl
noncomputable def zE:TI:=⟨.func,1,8,[.nilFunc]⟩
theorem AP:al Tryz.prog 116=some zE:=by kernel_rfl
noncomputable def CT:TI:=⟨.slice 120,1,24,[.slice none 0 0]⟩
theorem Ap:al Tryz.prog 117=some CT:=by kernel_rfl
noncomputable def DY:TI:=⟨.func,1,8,[.nilFunc]⟩
theorem B_:al Tryz.prog 118=some DY:=by kernel_rfl
noncomputable def vu:TI:=⟨.struct [(0,96),(1,96)],2,48,[.slice none 0 0,.slice none 0 0]⟩
theorem wB:al Tryz.prog 119=some vu:=by kernel_rfl
noncomputable def xe:TI:=⟨.struct [(0,96),(1,96)],2,48,[.slice none 0 0,.slice none 0 0]⟩
theorem Bh:al Tryz.prog 120=some xe:=by kernel_rfl
noncomputable def Dc:TI:=⟨.func,1,8,[.nilFunc]⟩
theorem Ce:al Tryz.prog 121=some Dc:=by kernel_rfl
noncomputable def yc:TI:=⟨.slice 161,1,24,[.slice none 0 0]⟩
theorem zd:al Tryz.prog 122=some yc:=by kernel_rfl
noncomputable def AR:TI:=⟨.func,1,8,[.nilFunc]⟩
theorem BQ:al Tryz.prog 123=some AR:=by kernel_rfl
noncomputable def Al:TI:=⟨.func,1,8,[.nilFunc]⟩
theorem xz:al Tryz.prog 124=some Al:=by kernel_rfl
noncomputable def Cd:TI:=⟨.struct [(0,9),(1,9)],2,32,[.string ⟨#[]⟩,.string ⟨#[]⟩]⟩
theorem xD:al Tryz.prog 125=some Cd:=by kernel_rfl
noncomputable def xn:TI:=⟨.struct [(0,9),(1,9)],2,32,[.string ⟨#[]⟩,.string ⟨#[]⟩]⟩
theorem xX:al Tryz.prog 126=some xn:=by kernel_rfl
noncomputable def va:TI:=⟨.func,1,8,[.nilFunc]⟩
theorem yG:al Tryz.prog 127=some va:=by kernel_rfl
noncomputable def wg:TI:=⟨.struct [(0,37),(4,3)],5,40,[.int .i64 0,.int .i64 0,.int .i64 0,.bool false,.int .i64 0]⟩
theorem xg:al Tryz.prog 128=some wg:=by kernel_rfl
noncomputable def BS:TI:=⟨.struct [(0,37),(4,3)],5,40,[.int .i64 0,.int .i64 0,.int .i64 0,.bool false,.int .i64 0]⟩
theorem vN:al Tryz.prog 129=some BS:=by kernel_rfl
noncomputable def DO:TI:=⟨.array 8 129,40,320,[.int .i64 0,.int .i64 0,.int .i64 0,.bool false,.int .i64 0,.int .i64 0,.int .i64 0,.int .i64 0,.bool false,.int .i64 0,.int .i64 0,.int .i64 0,.int .i64 0,.bool false,.int .i64 0,.int .i64 0,.int .i64 0,.int .i64 0,.bool false,.int .i64 0,.int .i64 0,.int .i64 0,.int .i64 0,.bool false,.int .i64 0,.int .i64 0,.int .i64 0,.int .i64 0,.bool false,.int .i64 0,.int .i64 0,.int .i64 0,.int .i64 0,.bool false,.int .i64 0,.int .i64 0,.int .i64 0,.int .i64 0,.bool false,.int .i64 0]⟩
theorem wu:al Tryz.prog 130=some DO:=by kernel_rfl
noncomputable def xr:TI:=⟨.func,1,8,[.nilFunc]⟩
theorem v_:al Tryz.prog 131=some xr:=by kernel_rfl
noncomputable def Cr:TI:=⟨.func,1,8,[.nilFunc]⟩
theorem yA:al Tryz.prog 132=some Cr:=by kernel_rfl
noncomputable def D4:TI:=⟨.func,1,8,[.nilFunc]⟩
theorem vE:al Tryz.prog 133=some D4:=by kernel_rfl
noncomputable def Bf:TI:=⟨.struct [(0,41),(5,63),(6,3),(7,3),(8,3)],9,136,[.int .i64 0,.string ⟨#[]⟩,.string ⟨#[]⟩,.slice none 0 0,.slice none 0 0,.slice none 0 0,.int .i64 0,.int .i64 0,.int .i64 0]⟩
theorem Cg:al Tryz.prog 134=some Bf:=by kernel_rfl
noncomputable def Ao:TI:=⟨.struct [(0,41),(5,63),(6,3),(7,3),(8,3)],9,136,[.int .i64 0,.string ⟨#[]⟩,.string ⟨#[]⟩,.slice none 0 0,.slice none 0 0,.slice none 0 0,.int .i64 0,.int .i64 0,.int .i64 0]⟩
theorem u9:al Tryz.prog 135=some Ao:=by kernel_rfl
noncomputable def By:TI:=⟨.ptr 135,1,8,[.pointer none]⟩
theorem Ab:al Tryz.prog 136=some By:=by kernel_rfl
noncomputable def vZ:TI:=⟨.ptr 139,1,8,[.pointer none]⟩
theorem xw:al Tryz.prog 137=some vZ:=by kernel_rfl
noncomputable def De:TI:=⟨.struct [(0,96),(1,3),(2,4),(3,3)],4,48,[.slice none 0 0,.int .i64 0,.bool false,.int .i64 0]⟩
theorem Bq:al Tryz.prog 138=some De:=by kernel_rfl
noncomputable def yI:TI:=⟨.struct [(0,96),(1,3),(2,4),(3,3)],4,48,[.slice none 0 0,.int .i64 0,.bool false,.int .i64 0]⟩
theorem wa:al Tryz.prog 139=some yI:=by kernel_rfl
noncomputable def C4:TI:=⟨.func,1,8,[.nilFunc]⟩
theorem zN:al Tryz.prog 140=some C4:=by kernel_rfl
noncomputable def Cw:TI:=⟨.ptr 143,1,8,[.pointer none]⟩
theorem A3:al Tryz.prog 141=some Cw:=by kernel_rfl
noncomputable def C_:TI:=⟨.struct [(0,63),(1,3)],2,32,[.slice none 0 0,.int .i64 0]⟩
theorem zi:al Tryz.prog 142=some C_:=by kernel_rfl
noncomputable def Du:TI:=⟨.struct [(0,63),(1,3)],2,32,[.slice none 0 0,.int .i64 0]⟩
theorem Di:al Tryz.prog 143=some Du:=by kernel_rfl
noncomputable def u_:TI:=⟨.struct [(0,3),(1,9),(2,3),(3,4),(4,3)],5,48,[.int .i64 0,.string ⟨#[]⟩,.int .i64 0,.bool false,.int .i64 0]⟩
theorem BG:al Tryz.prog 144=some u_:=by kernel_rfl
noncomputable def yq:TI:=⟨.struct [(0,3),(1,9),(2,3),(3,4),(4,3)],5,48,[.int .i64 0,.string ⟨#[]⟩,.int .i64 0,.bool false,.int .i64 0]⟩
theorem u6:al Tryz.prog 145=some yq:=by kernel_rfl
noncomputable def AN:TI:=⟨.func,1,8,[.nilFunc]⟩
theorem CV:al Tryz.prog 146=some AN:=by kernel_rfl
noncomputable def Aq:TI:=⟨.func,1,8,[.nilFunc]⟩
theorem xQ:al Tryz.prog 147=some Aq:=by kernel_rfl
noncomputable def Dj:TI:=⟨.func,1,8,[.nilFunc]⟩
theorem vQ:al Tryz.prog 148=some Dj:=by kernel_rfl
noncomputable def A6:TI:=⟨.func,1,8,[.nilFunc]⟩
theorem DJ:al Tryz.prog 149=some A6:=by kernel_rfl
noncomputable def wz:TI:=⟨.ptr 102,1,8,[.pointer none]⟩
theorem BX:al Tryz.prog 150=some wz:=by kernel_rfl
noncomputable def zr:TI:=⟨.func,1,8,[.nilFunc]⟩
theorem zv:al Tryz.prog 152=some zr:=by kernel_rfl
noncomputable def BP:TI:=⟨.func,1,8,[.nilFunc]⟩
theorem Ay:al Tryz.prog 153=some BP:=by kernel_rfl
noncomputable def vk:TI:=⟨.func,1,8,[.nilFunc]⟩
theorem vR:al Tryz.prog 154=some vk:=by kernel_rfl
noncomputable def Bn:TI:=⟨.func,1,8,[.nilFunc]⟩
theorem CE:al Tryz.prog 155=some Bn:=by kernel_rfl
noncomputable def vr:TI:=⟨.func,1,8,[.nilFunc]⟩
theorem yK:al Tryz.prog 156=some vr:=by kernel_rfl
noncomputable def vB:TI:=⟨.func,1,8,[.nilFunc]⟩
theorem Cl:al Tryz.prog 157=some vB:=by kernel_rfl
noncomputable def Cf:TI:=⟨.func,1,8,[.nilFunc]⟩
theorem vp:al Tryz.prog 158=some Cf:=by kernel_rfl
noncomputable def Cq:TI:=⟨.func,1,8,[.nilFunc]⟩
theorem BU:al Tryz.prog 159=some Cq:=by kernel_rfl
noncomputable def wd:TI:=⟨.struct [(0,9),(1,96),(2,4)],3,48,[.string ⟨#[]⟩,.slice none 0 0,.bool false]⟩
theorem Cv:al Tryz.prog 160=some wd:=by kernel_rfl
noncomputable def yW:TI:=⟨.struct [(0,9),(1,96),(2,4)],3,48,[.string ⟨#[]⟩,.slice none 0 0,.bool false]⟩
theorem yg:al Tryz.prog 161=some yW:=by kernel_rfl
noncomputable def zW:TI:=⟨.func,1,8,[.nilFunc]⟩
theorem vh:al Tryz.prog 163=some zW:=by kernel_rfl
noncomputable def Dn:TI:=⟨.func,1,8,[.nilFunc]⟩
theorem Ci:al Tryz.prog 165=some Dn:=by kernel_rfl
noncomputable def DK:TI:=⟨.struct [(0,3),(1,3),(2,3),(3,45)],4,48,[.int .i64 0,.int .i64 0,.int .i64 0,.slice none 0 0]⟩
theorem Bg:al Tryz.prog 166=some DK:=by kernel_rfl
noncomputable def Bk:TI:=⟨.struct [(0,3),(1,3),(2,3),(3,45)],4,48,[.int .i64 0,.int .i64 0,.int .i64 0,.slice none 0 0]⟩
theorem Dh:al Tryz.prog 167=some Bk:=by kernel_rfl
noncomputable def CH:TI:=⟨.func,1,8,[.nilFunc]⟩
theorem vv:al Tryz.prog 168=some CH:=by kernel_rfl
noncomputable def xM:TI:=⟨.func,1,8,[.nilFunc]⟩
theorem xl:al Tryz.prog 169=some xM:=by kernel_rfl
noncomputable def zB:TI:=⟨.func,1,8,[.nilFunc]⟩
theorem ya:al Tryz.prog 170=some zB:=by kernel_rfl
noncomputable def AW:TI:=⟨.func,1,8,[.nilFunc]⟩
theorem CS:al Tryz.prog 171=some AW:=by kernel_rfl
noncomputable def yN:TI:=⟨.func,1,8,[.nilFunc]⟩
theorem Ck:al Tryz.prog 172=some yN:=by kernel_rfl
noncomputable def xB:TI:=⟨.func,1,8,[.nilFunc]⟩
theorem Ea:al Tryz.prog 173=some xB:=by kernel_rfl
noncomputable def zM:TI:=⟨.func,1,8,[.nilFunc]⟩
theorem A8:al Tryz.prog 174=some zM:=by kernel_rfl
noncomputable def xR:TI:=⟨.func,1,8,[.nilFunc]⟩
theorem BH:al Tryz.prog 175=some xR:=by kernel_rfl
noncomputable def Ai:TI:=⟨.func,1,8,[.nilFunc]⟩
theorem BE:al Tryz.prog 176=some Ai:=by kernel_rfl
noncomputable def yx:TI:=⟨.func,1,8,[.nilFunc]⟩
theorem xW:al Tryz.prog 177=some yx:=by kernel_rfl
noncomputable def wK:TI:=⟨.int .u32,1,4,[.int .u32 0]⟩
theorem zZ:al Tryz.prog 178=some wK:=by kernel_rfl
noncomputable def Cm:TI:=⟨.slice 63,1,24,[.slice none 0 0]⟩
theorem zo:al Tryz.prog 179=some Cm:=by kernel_rfl
noncomputable def Dm:TI:=⟨.func,1,8,[.nilFunc]⟩
theorem zw:al Tryz.prog 180=some Dm:=by kernel_rfl
noncomputable def yw:TI:=⟨.func,1,8,[.nilFunc]⟩
theorem vC:al Tryz.prog 181=some yw:=by kernel_rfl
noncomputable def CM:TI:=⟨.func,1,8,[.nilFunc]⟩
theorem DM:al Tryz.prog 182=some CM:=by kernel_rfl
noncomputable def vn:TI:=⟨.int .u64,1,8,[.int .u64 0]⟩
theorem BO:al Tryz.prog 183=some vn:=by kernel_rfl
noncomputable def wZ:TI:=⟨.func,1,8,[.nilFunc]⟩
theorem BA:al Tryz.prog 184=some wZ:=by kernel_rfl
noncomputable def wP:TI:=⟨.func,1,8,[.nilFunc]⟩
theorem C6:al Tryz.prog 185=some wP:=by kernel_rfl
noncomputable def D_:TI:=⟨.func,1,8,[.nilFunc]⟩
theorem DS:al Tryz.prog 186=some D_:=by kernel_rfl
noncomputable def xA:TI:=⟨.func,1,8,[.nilFunc]⟩
theorem Ax:al Tryz.prog 187=some xA:=by kernel_rfl
noncomputable def Dr:TI:=⟨.func,1,8,[.nilFunc]⟩
theorem yk:al Tryz.prog 188=some Dr:=by kernel_rfl
noncomputable def vq:TI:=⟨.func,1,8,[.nilFunc]⟩
theorem AD:al Tryz.prog 189=some vq:=by kernel_rfl
noncomputable def vg:TI:=⟨.func,1,8,[.nilFunc]⟩
theorem wW:al Tryz.prog 190=some vg:=by kernel_rfl
noncomputable def xx:TI:=⟨.func,1,8,[.nilFunc]⟩
theorem C7:al Tryz.prog 191=some xx:=by kernel_rfl
noncomputable def Cz:TI:=⟨.array 3 3,3,24,[.int .i64 0,.int .i64 0,.int .i64 0]⟩
theorem zq:al Tryz.prog 192=some Cz:=by kernel_rfl
noncomputable def yU:TI:=⟨.func,1,8,[.nilFunc]⟩
theorem CL:al Tryz.prog 193=some yU:=by kernel_rfl
noncomputable def CY:TI:=⟨.func,1,8,[.nilFunc]⟩
theorem CP:al Tryz.prog 194=some CY:=by kernel_rfl
noncomputable def wn:TI:=⟨.func,1,8,[.nilFunc]⟩
theorem vL:al Tryz.prog 195=some wn:=by kernel_rfl
noncomputable def DU:TI:=⟨.int .i64,1,8,[.int .i64 0]⟩
theorem Do:al Tryz.prog 196=some DU:=by kernel_rfl
noncomputable def A_:TI:=⟨.func,1,8,[.nilFunc]⟩
theorem zQ:al Tryz.prog 198=some A_:=by kernel_rfl
noncomputable def Cj:TI:=⟨.func,1,8,[.nilFunc]⟩
theorem yh:al Tryz.prog 199=some Cj:=by kernel_rfl
noncomputable def Au:TI:=⟨.func,1,8,[.nilFunc]⟩
theorem yC:al Tryz.prog 200=some Au:=by kernel_rfl
noncomputable def DH:TI:=⟨.func,1,8,[.nilFunc]⟩
theorem BB:al Tryz.prog 201=some DH:=by kernel_rfl
noncomputable def DN:TI:=⟨.func,1,8,[.nilFunc]⟩
theorem wQ:al Tryz.prog 202=some DN:=by kernel_rfl
noncomputable def xf:TI:=⟨.func,1,8,[.nilFunc]⟩
theorem Ca:al Tryz.prog 203=some xf:=by kernel_rfl
noncomputable def zc:TI:=⟨.func,1,8,[.nilFunc]⟩
theorem yo:al Tryz.prog 204=some zc:=by kernel_rfl
noncomputable def Dv:TI:=⟨.int .u64,1,8,[.int .u64 0]⟩
theorem vM:al Tryz.prog 205=some Dv:=by kernel_rfl
noncomputable def Eb:TI:=⟨.func,1,8,[.nilFunc]⟩
theorem zJ:al Tryz.prog 206=some Eb:=by kernel_rfl
noncomputable def C5:TI:=⟨.ptr 230,1,8,[.pointer none]⟩
theorem yS:al Tryz.prog 207=some C5:=by kernel_rfl
noncomputable def vt:TI:=⟨.func,1,8,[.nilFunc]⟩
theorem xP:al Tryz.prog 208=some vt:=by kernel_rfl
noncomputable def Da:TI:=⟨.func,1,8,[.nilFunc]⟩
theorem u3:al Tryz.prog 209=some Da:=by kernel_rfl
noncomputable def zT:TI:=⟨.func,1,8,[.nilFunc]⟩
theorem Ae:al Tryz.prog 210=some zT:=by kernel_rfl
noncomputable def vw:TI:=⟨.func,1,8,[.nilFunc]⟩
theorem yY:al Tryz.prog 211=some vw:=by kernel_rfl
noncomputable def B4:TI:=⟨.array 3 3,3,24,[.int .i64 0,.int .i64 0,.int .i64 0]⟩
theorem wG:al Tryz.prog 212=some B4:=by kernel_rfl
noncomputable def Dx:TI:=⟨.func,1,8,[.nilFunc]⟩
theorem Dw:al Tryz.prog 213=some Dx:=by kernel_rfl
noncomputable def BL:TI:=⟨.struct [(0,9),(1,3),(2,9)],3,40,[.string ⟨#[]⟩,.int .i64 0,.string ⟨#[]⟩]⟩
theorem xF:al Tryz.prog 214=some BL:=by kernel_rfl
noncomputable def AF:TI:=⟨.struct [(0,9),(1,3),(2,9)],3,40,[.string ⟨#[]⟩,.int .i64 0,.string ⟨#[]⟩]⟩
theorem wC:al Tryz.prog 215=some AF:=by kernel_rfl
noncomputable def vD:TI:=⟨.func,1,8,[.nilFunc]⟩
theorem DW:al Tryz.prog 216=some vD:=by kernel_rfl
noncomputable def Bp:TI:=⟨.func,1,8,[.nilFunc]⟩
theorem wA:al Tryz.prog 217=some Bp:=by kernel_rfl
noncomputable def D7:TI:=⟨.func,1,8,[.nilFunc]⟩
theorem B8:al Tryz.prog 218=some D7:=by kernel_rfl
noncomputable def vG:TI:=⟨.func,1,8,[.nilFunc]⟩
theorem C8:al Tryz.prog 219=some vG:=by kernel_rfl
noncomputable def Aj:TI:=⟨.func,1,8,[.nilFunc]⟩
theorem CJ:al Tryz.prog 220=some Aj:=by kernel_rfl
noncomputable def zm:TI:=⟨.int .u64,1,8,[.int .u64 0]⟩
theorem Dy:al Tryz.prog 221=some zm:=by kernel_rfl
noncomputable def zn:TI:=⟨.func,1,8,[.nilFunc]⟩
theorem xE:al Tryz.prog 222=some zn:=by kernel_rfl
noncomputable def Bc:TI:=⟨.func,1,8,[.nilFunc]⟩
theorem wh:al Tryz.prog 223=some Bc:=by kernel_rfl
noncomputable def wE:TI:=⟨.func,1,8,[.nilFunc]⟩
theorem vj:al Tryz.prog 224=some wE:=by kernel_rfl
noncomputable def zy:TI:=⟨.ptr 3,1,8,[.pointer none]⟩
theorem zk:al Tryz.prog 225=some zy:=by kernel_rfl
noncomputable def Cc:TI:=⟨.func,1,8,[.nilFunc]⟩
theorem wo:al Tryz.prog 226=some Cc:=by kernel_rfl
noncomputable def Ah:TI:=⟨.map 246 4,1,8,[.map none]⟩
theorem CF:al Tryz.prog 227=some Ah:=by kernel_rfl
noncomputable def BF:TI:=⟨.slice 231,1,24,[.slice none 0 0]⟩
theorem zj:al Tryz.prog 228=some BF:=by kernel_rfl
noncomputable def xO:TI:=⟨.struct [(0,26),(1,228),(2,227)],3,40,[.pointer none,.slice none 0 0,.map none]⟩
theorem we:al Tryz.prog 229=some xO:=by kernel_rfl
noncomputable def xp:TI:=⟨.struct [(0,26),(1,228),(2,227)],3,40,[.pointer none,.slice none 0 0,.map none]⟩
theorem xH:al Tryz.prog 230=some xp:=by kernel_rfl
noncomputable def y_:TI:=⟨.slice 234,1,24,[.slice none 0 0]⟩
theorem zx:al Tryz.prog 231=some y_:=by kernel_rfl
noncomputable def xa:TI:=⟨.func,1,8,[.nilFunc]⟩
theorem DZ:al Tryz.prog 232=some xa:=by kernel_rfl
noncomputable def BJ:TI:=⟨.struct [(0,58),(6,179)],7,144,[.int .i64 0,.string ⟨#[]⟩,.slice none 0 0,.slice none 0 0,.slice none 0 0,.slice none 0 0,.slice none 0 0]⟩
theorem Aw:al Tryz.prog 233=some BJ:=by kernel_rfl
noncomputable def A5:TI:=⟨.struct [(0,58),(6,179)],7,144,[.int .i64 0,.string ⟨#[]⟩,.slice none 0 0,.slice none 0 0,.slice none 0 0,.slice none 0 0,.slice none 0 0]⟩
theorem D9:al Tryz.prog 234=some A5:=by kernel_rfl
noncomputable def yj:TI:=⟨.ptr 212,1,8,[.pointer none]⟩
theorem DA:al Tryz.prog 235=some yj:=by kernel_rfl
noncomputable def wU:TI:=⟨.func,1,8,[.nilFunc]⟩
theorem vX:al Tryz.prog 236=some wU:=by kernel_rfl
noncomputable def AC:TI:=⟨.func,1,8,[.nilFunc]⟩
theorem vF:al Tryz.prog 237=some AC:=by kernel_rfl
noncomputable def w7:TI:=⟨.func,1,8,[.nilFunc]⟩
theorem zG:al Tryz.prog 238=some w7:=by kernel_rfl
noncomputable def vH:TI:=⟨.func,1,8,[.nilFunc]⟩
theorem Bu:al Tryz.prog 239=some vH:=by kernel_rfl
noncomputable def xI:TI:=⟨.func,1,8,[.nilFunc]⟩
theorem D6:al Tryz.prog 240=some xI:=by kernel_rfl
noncomputable def B5:TI:=⟨.func,1,8,[.nilFunc]⟩
theorem AI:al Tryz.prog 241=some B5:=by kernel_rfl
noncomputable def DD:TI:=⟨.ptr 221,1,8,[.pointer none]⟩
theorem Dg:al Tryz.prog 242=some DD:=by kernel_rfl
noncomputable def Av:TI:=⟨.func,1,8,[.nilFunc]⟩
theorem DQ:al Tryz.prog 243=some Av:=by kernel_rfl
noncomputable def Bb:TI:=⟨.func,1,8,[.nilFunc]⟩
theorem Ag:al Tryz.prog 244=some Bb:=by kernel_rfl
noncomputable def wI:TI:=⟨.struct [(0,3),(1,3),(2,3),(3,4)],4,32,[.int .i64 0,.int .i64 0,.int .i64 0,.bool false]⟩
theorem AH:al Tryz.prog 245=some wI:=by kernel_rfl
noncomputable def yd:TI:=⟨.struct [(0,3),(1,3),(2,3),(3,4)],4,32,[.int .i64 0,.int .i64 0,.int .i64 0,.bool false]⟩
theorem B3:al Tryz.prog 246=some yd:=by kernel_rfl
noncomputable def xc:TI:=⟨.func,1,8,[.nilFunc]⟩
theorem Bm:al Tryz.prog 247=some xc:=by kernel_rfl
noncomputable def zp:TI:=⟨.func,1,8,[.nilFunc]⟩
theorem C9:al Tryz.prog 248=some zp:=by kernel_rfl
noncomputable def xt:TI:=⟨.func,1,8,[.nilFunc]⟩
theorem zI:al Tryz.prog 250=some xt:=by kernel_rfl
noncomputable def Ct:TI:=⟨.func,1,8,[.nilFunc]⟩
theorem yL:al Tryz.prog 251=some Ct:=by kernel_rfl
noncomputable def yf:TI:=⟨.func,1,8,[.nilFunc]⟩
theorem w6:al Tryz.prog 252=some yf:=by kernel_rfl
noncomputable def DR:TI:=⟨.func,1,8,[.nilFunc]⟩
theorem xC:al Tryz.prog 253=some DR:=by kernel_rfl
noncomputable def ze:TI:=⟨.func,1,8,[.nilFunc]⟩
theorem Aa:al Tryz.prog 254=some ze:=by kernel_rfl
noncomputable def yJ:TI:=⟨.func,1,8,[.nilFunc]⟩
theorem xJ:al Tryz.prog 255=some yJ:=by kernel_rfl
noncomputable def yy:TI:=⟨.func,1,8,[.nilFunc]⟩
theorem wS:al Tryz.prog 256=some yy:=by kernel_rfl
noncomputable def vS:TI:=⟨.func,1,8,[.nilFunc]⟩
theorem B9:al Tryz.prog 257=some vS:=by kernel_rfl
noncomputable def Ch:TI:=⟨.func,1,8,[.nilFunc]⟩
theorem xN:al Tryz.prog 258=some Ch:=by kernel_rfl
noncomputable def xV:TI:=⟨.func,1,8,[.nilFunc]⟩
theorem yR:al Tryz.prog 260=some xV:=by kernel_rfl
noncomputable def CI:TI:=⟨.struct [(0,17),(1,17),(2,17),(3,9)],4,40,[.pointer none,.pointer none,.pointer none,.string ⟨#[]⟩]⟩
theorem Bv:al Tryz.prog 261=some CI:=by kernel_rfl
noncomputable def xG:TI:=⟨.struct [(0,17),(1,17),(2,17),(3,9)],4,40,[.pointer none,.pointer none,.pointer none,.string ⟨#[]⟩]⟩
theorem CN:al Tryz.prog 262=some xG:=by kernel_rfl
noncomputable def yO:TI:=⟨.array 0 16,0,0,[]⟩
theorem xo:al Tryz.prog 263=some yO:=by kernel_rfl
noncomputable def zY:TI:=⟨.struct [(0,263)],0,0,[]⟩
theorem Dp:al Tryz.prog 264=some zY:=by kernel_rfl
noncomputable def Cy:TI:=⟨.struct [(0,263)],0,0,[]⟩
theorem wT:al Tryz.prog 265=some Cy:=by kernel_rfl
noncomputable def z_:TI:=⟨.int .u8,1,1,[.int .u8 0]⟩
theorem BT:al Tryz.prog 266=some z_:=by kernel_rfl
noncomputable def Cb:TI:=⟨.int .u8,1,1,[.int .u8 0]⟩
theorem w8:al Tryz.prog 267=some Cb:=by kernel_rfl
noncomputable def CG:TI:=⟨.func,1,8,[.nilFunc]⟩
theorem A7:al Tryz.prog 268=some CG:=by kernel_rfl
noncomputable def wq:TI:=⟨.ptr 5,1,8,[.pointer none]⟩
theorem yT:al Tryz.prog 269=some wq:=by kernel_rfl
noncomputable def BD:TI:=⟨.int .i32,1,4,[.int .i32 0]⟩
theorem ws:al Tryz.prog 270=some BD:=by kernel_rfl
noncomputable def BI:TI:=⟨.int .i32,1,4,[.int .i32 0]⟩
theorem u7:al Tryz.prog 271=some BI:=by kernel_rfl
noncomputable def D0:TI:=⟨.struct [(0,12),(1,12),(2,178),(3,266),(4,5),(5,5),(6,267),(7,268),(8,269),(9,270),(10,271)],11,48,[.int .u64 0,.int .u64 0,.int .u32 0,.int .u8 0,.int .u8 0,.int .u8 0,.int .u8 0,.nilFunc,.pointer none,.int .i32 0,.int .i32 0]⟩
theorem zR:al Tryz.prog 272=some D0:=by kernel_rfl
noncomputable def xU:TI:=⟨.struct [(0,12),(1,12),(2,178),(3,266),(4,5),(5,5),(6,267),(7,268),(8,269),(9,270),(10,271)],11,48,[.int .u64 0,.int .u64 0,.int .u32 0,.int .u8 0,.int .u8 0,.int .u8 0,.int .u8 0,.nilFunc,.pointer none,.int .i32 0,.int .i32 0]⟩
theorem wH:al Tryz.prog 273=some xU:=by kernel_rfl
noncomputable def tiT:Tr TI:=.node none (.node (some ti1) (.node (some ti3) (.node (some ti7) (.node (some JD) (.node (some ER) (.node (some IU) (.node (some va) (.node (some yJ) .leaf .leaf) .leaf) (.node (some xx) .leaf .leaf)) (.node (some Jm) (.node (some Cq) .leaf .leaf) (.node (some Bc) .leaf .leaf))) (.node (some IN) (.node (some Jx) (.node (some Du) (.node (some BI) .leaf .leaf) .leaf) (.node (some C5) .leaf .leaf)) (.node (some Dk) (.node (some xR) .leaf .leaf) (.node (some vH) .leaf .leaf)))) (.node (some HR) (.node (some Jj) (.node (some IG) (.node (some Ao) (.node (some yO) .leaf .leaf) .leaf) (.node (some Cj) .leaf .leaf)) (.node (some BR) (.node (some Bk) .leaf .leaf) (.node (some y_) .leaf .leaf))) (.node (some Id) (.node (some JF) .leaf (.node (some AF) .leaf .leaf)) (.node (some vu) (.node (some vn) .leaf .leaf) (.node (some xc) .leaf .leaf))))) (.node (some It) (.node (some Jb) (.node (some Hv) (.node (some I8) (.node (some xr) .leaf .leaf) (.node (some wn) .leaf .leaf)) (.node (some IF) (.node (some zW) .leaf .leaf) (.node (some Ah) .leaf .leaf))) (.node (some Ix) (.node (some IQ) (.node (some Aq) .leaf .leaf) (.node (some vw) .leaf .leaf)) (.node (some wO) (.node (some Cm) .leaf .leaf) (.node (some Av) .leaf .leaf)))) (.node (some Ih) (.node none (.node (some HM) (.node (some yI) (.node (some Cb) .leaf .leaf) .leaf) (.node (some xf) .leaf .leaf)) (.node (some yQ) (.node (some AW) .leaf .leaf) (.node (some yj) .leaf .leaf))) (.node (some JK) (.node (some IK) (.node (some Bn) .leaf .leaf) (.node (some vG) .leaf .leaf)) (.node (some AR) (.node (some xA) .leaf .leaf) (.node (some Ct) .leaf .leaf)))))) (.node (some ti5) (.node (some ti9) (.node (some Hu) (.node (some In) (.node (some Ij) (.node (some BS) (.node (some vS) .leaf .leaf) .leaf) (.node (some yU) .leaf .leaf)) (.node (some JW) (.node (some yW) .leaf .leaf) (.node (some zy) .leaf .leaf))) (.node (some I6) (.node (some HQ) (.node (some yq) (.node (some xU) .leaf .leaf) .leaf) (.node (some Da) .leaf .leaf)) (.node (some DI) (.node (some yx) .leaf .leaf) (.node (some B5) .leaf .leaf)))) (.node (some JY) (.node (some JN) (.node (some JT) (.node (some vZ) (.node (some Cy) .leaf .leaf) .leaf) (.node (some DH) .leaf .leaf)) (.node (some Db) (.node (some xM) .leaf .leaf) (.node (some BJ) .leaf .leaf))) (.node (some HY) (.node (some Hy) (.node (some BP) .leaf .leaf) (.node (some Bp) .leaf .leaf)) (.node (some Dc) (.node (some wP) .leaf .leaf) .leaf)))) (.node (some HE) (.node (some Hs) (.node (some GQ) (.node (some JO) (.node (some D4) (.node (some CI) .leaf .leaf) .leaf) .leaf) (.node (some vf) (.node (some Dn) .leaf .leaf) (.node (some xO) .leaf .leaf))) (.node (some Jy) (.node (some Js) (.node (some A6) .leaf .leaf) (.node (some Dx) .leaf .leaf)) (.node (some CT) (.node (some yw) .leaf .leaf) (.node (some wI) .leaf .leaf)))) (.node (some IY) (.node (some JC) (.node (some IR) (.node (some Cw) (.node (some wq) .leaf .leaf) .leaf) (.node (some Dv) .leaf .leaf)) (.node (some wm) (.node (some xB) .leaf .leaf) (.node (some AC) .leaf .leaf))) (.node (some Iy) (.node (some HG) (.node (some vB) .leaf .leaf) (.node (some zm) .leaf .leaf)) (.node (some Cd) (.node (some vq) .leaf .leaf) (.node (some DR) .leaf .leaf))))))) (.node (some ti2) (.node (some ti4) (.node (some ti8) (.node (some IP) (.node (some Hr) (.node (some HX) (.node (some wg) (.node (some yy) .leaf .leaf) .leaf) (.node (some Cz) .leaf .leaf)) (.node (some JZ) (.node (some wd) .leaf .leaf) (.node (some wE) .leaf .leaf))) (.node (some Jc) (.node none (.node (some u_) (.node (some D0) .leaf .leaf) .leaf) (.node (some vt) .leaf .leaf)) (.node (some yn) (.node (some Ai) .leaf .leaf) (.node (some xI) .leaf .leaf)))) (.node (some JS) (.node (some Im) (.node (some JG) (.node (some By) (.node (some zY) .leaf .leaf) .leaf) (.node (some Au) .leaf .leaf)) (.node (some xS) (.node (some CH) .leaf .leaf) (.node (some xa) .leaf .leaf))) (.node (some JX) (.node none (.node (some zr) .leaf .leaf) (.node (some vD) .leaf .leaf)) (.node (some xe) (.node (some wZ) .leaf .leaf) (.node (some zp) .leaf .leaf))))) (.node (some JM) (.node none (.node (some I5) (.node (some IS) (.node (some Cr) (.node (some xV) .leaf .leaf) .leaf) (.node (some DU) .leaf .leaf)) (.node (some AZ) .leaf (.node (some BF) .leaf .leaf))) (.node (some Iw) (.node (some IC) (.node (some Dj) .leaf .leaf) (.node (some B4) .leaf .leaf)) (.node (some zE) (.node (some Dm) .leaf .leaf) (.node (some Bb) .leaf .leaf)))) (.node none (.node (some J7) (.node (some Jg) (.node (some C4) (.node (some CG) .leaf .leaf) .leaf) (.node (some zc) .leaf .leaf)) (.node (some B7) (.node (some yN) .leaf .leaf) (.node (some wU) .leaf .leaf))) (.node (some HU) (.node (some Jr) (.node (some vr) .leaf .leaf) (.node (some Aj) .leaf .leaf)) (.node (some Al) (.node (some Dr) .leaf .leaf) (.node (some yf) .leaf .leaf)))))) (.node (some ti6) (.node (some HH) (.node (some JA) (.node (some Ht) (.node (some HD) (.node (some DO) (.node (some Ch) .leaf .leaf) .leaf) (.node (some CY) .leaf .leaf)) (.node (some If) .leaf (.node (some Cc) .leaf .leaf))) (.node (some IM) (.node (some I_) (.node (some AN) .leaf .leaf) (.node (some zT) .leaf .leaf)) (.node (some vz) (.node (some wK) .leaf .leaf) (.node (some DD) .leaf .leaf)))) (.node (some Jw) (.node (some ID) (.node (some Je) (.node (some De) (.node (some z_) .leaf .leaf) .leaf) (.node (some DN) .leaf .leaf)) (.node (some AO) (.node (some zB) .leaf .leaf) (.node (some A5) .leaf .leaf))) (.node (some Jh) (.node (some Iz) (.node (some vk) .leaf .leaf) (.node (some D7) .leaf .leaf)) (.node (some yc) (.node (some D_) .leaf .leaf) (.node (some xt) .leaf .leaf))))) (.node (some II) (.node (some HA) (.node (some HZ) (.node (some Ii) (.node (some Bf) (.node (some xG) .leaf .leaf) .leaf) (.node (some A_) .leaf .leaf)) (.node (some yP) (.node (some DK) .leaf .leaf) (.node (some xp) .leaf .leaf))) (.node (some JI) (.node (some I2) (.node (some wz) .leaf .leaf) (.node (some BL) .leaf .leaf)) (.node (some DY) (.node (some CM) .leaf .leaf) (.node (some yd) .leaf .leaf)))) (.node (some J5) (.node (some JV) (.node (some Jv) (.node (some C_) (.node (some BD) .leaf .leaf) .leaf) (.node (some Eb) .leaf .leaf)) (.node (some A0) (.node (some zM) .leaf .leaf) (.node (some w7) .leaf .leaf))) (.node (some I9) (.node none (.node (some Cf) .leaf .leaf) (.node (some zn) .leaf .leaf)) (.node (some xn) (.node (some vg) .leaf .leaf) (.node (some ze) .leaf .leaf)))))))
theorem DG:tiT.toL=[(1,ti1),(3,ti3),(7,ti7),(15,JD),(31,ER),(63,IU),(127,va),(255,yJ),(191,xx),(95,Jm),(159,Cq),(223,Bc),(47,IN),(79,Jx),(143,Du),(271,BI),(207,C5),(111,Dk),(175,xR),(239,vH),(23,HR),(39,Jj),(71,IG),(135,Ao),(263,yO),(199,Cj),(103,BR),(167,Bk),(231,y_),(55,Id),(87,JF),(215,AF),(119,vu),(183,vn),(247,xc),(11,It),(19,Jb),(35,Hv),(67,I8),(131,xr),(195,wn),(99,IF),(163,zW),(227,Ah),(51,Ix),(83,IQ),(147,Aq),(211,vw),(115,wO),(179,Cm),(243,Av),(27,Ih),(75,HM),(139,yI),(267,Cb),(203,xf),(107,yQ),(171,AW),(235,yj),(59,JK),(91,IK),(155,Bn),(219,vG),(123,AR),(187,xA),(251,Ct),(5,ti5),(9,ti9),(17,Hu),(33,In),(65,Ij),(129,BS),(257,vS),(193,yU),(97,JW),(161,yW),(225,zy),(49,I6),(81,HQ),(145,yq),(273,xU),(209,Da),(113,DI),(177,yx),(241,B5),(25,JY),(41,JN),(73,JT),(137,vZ),(265,Cy),(201,DH),(105,Db),(169,xM),(233,BJ),(57,HY),(89,Hy),(153,BP),(217,Bp),(121,Dc),(185,wP),(13,HE),(21,Hs),(37,GQ),(69,JO),(133,D4),(261,CI),(101,vf),(165,Dn),(229,xO),(53,Jy),(85,Js),(149,A6),(213,Dx),(117,CT),(181,yw),(245,wI),(29,IY),(45,JC),(77,IR),(141,Cw),(269,wq),(205,Dv),(109,wm),(173,xB),(237,AC),(61,Iy),(93,HG),(157,vB),(221,zm),(125,Cd),(189,vq),(253,DR),(2,ti2),(4,ti4),(8,ti8),(16,IP),(32,Hr),(64,HX),(128,wg),(256,yy),(192,Cz),(96,JZ),(160,wd),(224,wE),(48,Jc),(144,u_),(272,D0),(208,vt),(112,yn),(176,Ai),(240,xI),(24,JS),(40,Im),(72,JG),(136,By),(264,zY),(200,Au),(104,xS),(168,CH),(232,xa),(56,JX),(152,zr),(216,vD),(120,xe),(184,wZ),(248,zp),(12,JM),(36,I5),(68,IS),(132,Cr),(260,xV),(196,DU),(100,AZ),(228,BF),(52,Iw),(84,IC),(148,Dj),(212,B4),(116,zE),(180,Dm),(244,Bb),(44,J7),(76,Jg),(140,C4),(268,CG),(204,zc),(108,B7),(172,yN),(236,wU),(60,HU),(92,Jr),(156,vr),(220,Aj),(124,Al),(188,Dr),(252,yf),(6,ti6),(10,HH),(18,JA),(34,Ht),(66,HD),(130,DO),(258,Ch),(194,CY),(98,If),(226,Cc),(50,IM),(82,I_),(146,AN),(210,zT),(114,vz),(178,wK),(242,DD),(26,Jw),(42,ID),(74,Je),(138,De),(266,z_),(202,DN),(106,AO),(170,zB),(234,A5),(58,Jh),(90,Iz),(154,vk),(218,D7),(122,yc),(186,D_),(250,xt),(14,II),(22,HA),(38,HZ),(70,Ii),(134,Bf),(262,xG),(198,A_),(102,yP),(166,DK),(230,xp),(54,JI),(86,I2),(150,wz),(214,BL),(118,DY),(182,CM),(246,yd),(30,J5),(46,JV),(78,Jv),(142,C_),(270,BD),(206,Eb),(110,A0),(174,zM),(238,w7),(62,I9),(158,Cf),(222,zn),(126,xn),(190,vg),(254,ze)]:=by kernel_rfl
theorem mX:∀ t i,tiT.get t=some i→al Tryz.prog t=some i:=by
 refine Tr.all_get (p:=fun t i=>al Tryz.prog t=some i) ?_
 rw [DG]
 exact .cons Ja (.cons HO (.cons I7 (.cons F_ (.cons F8 (.cons GH (.cons yG (.cons xJ (.cons C7 (.cons Ef (.cons BU (.cons wh (.cons Ge (.cons Eg (.cons Di (.cons u7 (.cons yS (.cons Am (.cons BH (.cons Bu (.cons EI (.cons Es (.cons ED (.cons u9 (.cons xo (.cons yh (.cons DL (.cons Dh (.cons zx (.cons Fq (.cons Fl (.cons wC (.cons wB (.cons BO (.cons Bm (.cons FA (.cons EF (.cons Gl (.cons Ft (.cons v_ (.cons vL (.cons FJ (.cons vh (.cons CF (.cons GG (.cons EA (.cons xQ (.cons yY (.cons vW (.cons zo (.cons DQ (.cons FX (.cons Gu (.cons wa (.cons w8 (.cons Ca (.cons yp (.cons CS (.cons DA (.cons GD (.cons EG (.cons CE (.cons C8 (.cons BQ (.cons Ax (.cons yL (.cons HP (.cons IW (.cons GS (.cons FY (.cons FO (.cons vN (.cons B9 (.cons CL (.cons GY (.cons yg (.cons zk (.cons FI (.cons Gk (.cons u6 (.cons wH (.cons u3 (.cons w4 (.cons xW (.cons AI (.cons G5 (.cons FU (.cons Fu (.cons xw (.cons wT (.cons BB (.cons CA (.cons xl (.cons Aw (.cons FP (.cons Fm (.cons Ay (.cons wA (.cons Ce (.cons C6 (.cons FS (.cons Gx (.cons EZ (.cons E3 (.cons vE (.cons Bv (.cons w5 (.cons Ci (.cons we (.cons Gd (.cons EU (.cons DJ (.cons Dw (.cons Ap (.cons vC (.cons AH (.cons Gb (.cons Fy (.cons F6 (.cons A3 (.cons yT (.cons vM (.cons w9 (.cons Ea (.cons vF (.cons F9 (.cons Eh (.cons Cl (.cons Dy (.cons xD (.cons AD (.cons xC (.cons IE (.cons Jo (.cons Jq (.cons FH (.cons EB (.cons FK (.cons xg (.cons wS (.cons zq (.cons Ei (.cons Cv (.cons vj (.cons GE (.cons BG (.cons zR (.cons xP (.cons vO (.cons BE (.cons D6 (.cons EN (.cons EK (.cons E5 (.cons Ab (.cons Dp (.cons yC (.cons Dd (.cons vv (.cons DZ (.cons EV (.cons zv (.cons DW (.cons Bh (.cons BA (.cons C9 (.cons EP (.cons ET (.cons FE (.cons yA (.cons yR (.cons Do (.cons vV (.cons zj (.cons Er (.cons G4 (.cons vQ (.cons wG (.cons AP (.cons zw (.cons Ag (.cons GI (.cons GX (.cons zN (.cons A7 (.cons yo (.cons Be (.cons Ck (.cons vX (.cons GA (.cons GP (.cons yK (.cons CJ (.cons xz (.cons yk (.cons w6 (.cons Jp (.cons Gc (.cons Ee (.cons Gf (.cons E9 (.cons wu (.cons xN (.cons CP (.cons Fj (.cons wo (.cons Gm (.cons GL (.cons CV (.cons Ae (.cons vY (.cons zZ (.cons Dg (.cons FN (.cons EY (.cons Gq (.cons Bq (.cons BT (.cons wQ (.cons AE (.cons ya (.cons D9 (.cons FM (.cons GT (.cons vR (.cons B8 (.cons zd (.cons DS (.cons zI (.cons Eo (.cons Gn (.cons ES (.cons Fa (.cons Cg (.cons CN (.cons zQ (.cons Dq (.cons Bg (.cons xH (.cons EJ (.cons F7 (.cons BX (.cons xF (.cons B_ (.cons DM (.cons B3 (.cons Fs (.cons FF (.cons Fv (.cons zi (.cons ws (.cons zJ (.cons ww (.cons A8 (.cons zG (.cons F5 (.cons vp (.cons xE (.cons xX (.cons wW (.cons Aa (.nil)))))))))))))))))))))))))))))))))))))))))))))))))))))))))))))))))))))))))))))))))))))))))))))))))))))))))))))))))))))))))))))))))))))))))))))))))))))))))))))))))))))))))))))))))))))))))))))))))))))))))))))))))))))))))))))))))))))))))))))))))))))))))))))))))))))
noncomputable def fnT:Tr Func:=.node none (.node none (.node (some Tryz.f3) (.node (some Tryz.f7) (.node (some Tryz.f15) (.node (some Tryz.f31) (.node (some Tryz.f63) (.node (some Tryz.f127) .leaf .leaf) (.node (some Tryz.f191) .leaf .leaf)) (.node (some Tryz.f95) (.node (some Tryz.f159) .leaf .leaf) .leaf)) (.node (some Tryz.f47) (.node (some Tryz.f79) (.node (some Tryz.f143) .leaf .leaf) (.node (some Tryz.f207) .leaf .leaf)) (.node (some Tryz.f111) (.node (some Tryz.f175) .leaf .leaf) .leaf))) (.node (some Tryz.f23) (.node (some Tryz.f39) (.node (some Tryz.f71) (.node (some Tryz.f135) .leaf .leaf) (.node (some Tryz.f199) .leaf .leaf)) (.node (some Tryz.f103) (.node (some Tryz.f167) .leaf .leaf) .leaf)) (.node (some Tryz.f55) (.node (some Tryz.f87) (.node (some Tryz.f151) .leaf .leaf) .leaf) (.node (some Tryz.f119) (.node (some Tryz.f183) .leaf .leaf) .leaf)))) (.node (some Tryz.f11) (.node (some Tryz.f19) (.node (some Tryz.f35) (.node (some Tryz.f67) (.node (some Tryz.f131) .leaf .leaf) (.node (some Tryz.f195) .leaf .leaf)) (.node (some Tryz.f99) (.node (some Tryz.f163) .leaf .leaf) .leaf)) (.node (some Tryz.f51) (.node (some Tryz.f83) (.node (some Tryz.f147) .leaf .leaf) .leaf) (.node (some Tryz.f115) (.node (some Tryz.f179) .leaf .leaf) .leaf))) (.node (some Tryz.f27) (.node (some Tryz.f43) (.node (some Tryz.f75) (.node (some Tryz.f139) .leaf .leaf) (.node (some Tryz.f203) .leaf .leaf)) (.node (some Tryz.f107) (.node (some Tryz.f171) .leaf .leaf) .leaf)) (.node (some Tryz.f59) (.node (some Tryz.f91) (.node (some Tryz.f155) .leaf .leaf) .leaf) (.node (some Tryz.f123) (.node (some Tryz.f187) .leaf .leaf) .leaf))))) (.node (some Tryz.f5) (.node (some Tryz.f9) (.node (some Tryz.f17) (.node (some Tryz.f33) (.node (some Tryz.f65) (.node (some Tryz.f129) .leaf .leaf) (.node (some Tryz.f193) .leaf .leaf)) (.node (some Tryz.f97) (.node (some Tryz.f161) .leaf .leaf) .leaf)) (.node (some Tryz.f49) (.node (some Tryz.f81) (.node (some Tryz.f145) .leaf .leaf) (.node (some Tryz.f209) .leaf .leaf)) (.node (some Tryz.f113) (.node (some Tryz.f177) .leaf .leaf) .leaf))) (.node (some Tryz.f25) (.node (some Tryz.f41) (.node (some Tryz.f73) (.node (some Tryz.f137) .leaf .leaf) (.node (some Tryz.f201) .leaf .leaf)) (.node (some Tryz.f105) (.node (some Tryz.f169) .leaf .leaf) .leaf)) (.node (some Tryz.f57) (.node (some Tryz.f89) (.node (some Tryz.f153) .leaf .leaf) .leaf) (.node (some Tryz.f121) (.node (some Tryz.f185) .leaf .leaf) .leaf)))) (.node (some Tryz.f13) (.node (some Tryz.f21) (.node (some Tryz.f37) (.node (some Tryz.f69) (.node (some Tryz.f133) .leaf .leaf) (.node (some Tryz.f197) .leaf .leaf)) (.node (some Tryz.f101) (.node (some Tryz.f165) .leaf .leaf) .leaf)) (.node (some Tryz.f53) (.node (some Tryz.f85) (.node (some Tryz.f149) .leaf .leaf) .leaf) (.node (some Tryz.f117) (.node (some Tryz.f181) .leaf .leaf) .leaf))) (.node (some Tryz.f29) (.node (some Tryz.f45) (.node (some Tryz.f77) (.node (some Tryz.f141) .leaf .leaf) (.node (some Tryz.f205) .leaf .leaf)) (.node (some Tryz.f109) (.node (some Tryz.f173) .leaf .leaf) .leaf)) (.node (some Tryz.f61) (.node (some Tryz.f93) (.node (some Tryz.f157) .leaf .leaf) .leaf) (.node (some Tryz.f125) (.node (some Tryz.f189) .leaf .leaf) .leaf)))))) (.node none (.node (some Tryz.f4) (.node (some Tryz.f8) (.node (some Tryz.f16) (.node (some Tryz.f32) (.node (some Tryz.f64) (.node (some Tryz.f128) .leaf .leaf) (.node (some Tryz.f192) .leaf .leaf)) (.node (some Tryz.f96) (.node (some Tryz.f160) .leaf .leaf) .leaf)) (.node (some Tryz.f48) (.node (some Tryz.f80) (.node (some Tryz.f144) .leaf .leaf) (.node (some Tryz.f208) .leaf .leaf)) (.node (some Tryz.f112) (.node (some Tryz.f176) .leaf .leaf) .leaf))) (.node (some Tryz.f24) (.node (some Tryz.f40) (.node (some Tryz.f72) (.node (some Tryz.f136) .leaf .leaf) (.node (some Tryz.f200) .leaf .leaf)) (.node (some Tryz.f104) (.node (some Tryz.f168) .leaf .leaf) .leaf)) (.node (some Tryz.f56) (.node (some Tryz.f88) (.node (some Tryz.f152) .leaf .leaf) .leaf) (.node (some Tryz.f120) (.node (some Tryz.f184) .leaf .leaf) .leaf)))) (.node (some Tryz.f12) (.node (some Tryz.f20) (.node (some Tryz.f36) (.node (some Tryz.f68) (.node (some Tryz.f132) .leaf .leaf) (.node (some Tryz.f196) .leaf .leaf)) (.node (some Tryz.f100) (.node (some Tryz.f164) .leaf .leaf) .leaf)) (.node (some Tryz.f52) (.node (some Tryz.f84) (.node (some Tryz.f148) .leaf .leaf) .leaf) (.node (some Tryz.f116) (.node (some Tryz.f180) .leaf .leaf) .leaf))) (.node (some Tryz.f28) (.node (some Tryz.f44) (.node (some Tryz.f76) (.node (some Tryz.f140) .leaf .leaf) (.node (some Tryz.f204) .leaf .leaf)) (.node (some Tryz.f108) (.node (some Tryz.f172) .leaf .leaf) .leaf)) (.node (some Tryz.f60) (.node (some Tryz.f92) (.node (some Tryz.f156) .leaf .leaf) .leaf) (.node (some Tryz.f124) (.node (some Tryz.f188) .leaf .leaf) .leaf))))) (.node (some Tryz.f6) (.node (some Tryz.f10) (.node (some Tryz.f18) (.node (some Tryz.f34) (.node (some Tryz.f66) (.node (some Tryz.f130) .leaf .leaf) (.node (some Tryz.f194) .leaf .leaf)) (.node (some Tryz.f98) (.node (some Tryz.f162) .leaf .leaf) .leaf)) (.node (some Tryz.f50) (.node (some Tryz.f82) (.node (some Tryz.f146) .leaf .leaf) .leaf) (.node (some Tryz.f114) (.node (some Tryz.f178) .leaf .leaf) .leaf))) (.node (some Tryz.f26) (.node (some Tryz.f42) (.node (some Tryz.f74) (.node (some Tryz.f138) .leaf .leaf) (.node (some Tryz.f202) .leaf .leaf)) (.node (some Tryz.f106) (.node (some Tryz.f170) .leaf .leaf) .leaf)) (.node (some Tryz.f58) (.node (some Tryz.f90) (.node (some Tryz.f154) .leaf .leaf) .leaf) (.node (some Tryz.f122) (.node (some Tryz.f186) .leaf .leaf) .leaf)))) (.node (some Tryz.f14) (.node (some Tryz.f22) (.node (some Tryz.f38) (.node (some Tryz.f70) (.node (some Tryz.f134) .leaf .leaf) (.node (some Tryz.f198) .leaf .leaf)) (.node (some Tryz.f102) (.node (some Tryz.f166) .leaf .leaf) .leaf)) (.node (some Tryz.f54) (.node (some Tryz.f86) (.node (some Tryz.f150) .leaf .leaf) .leaf) (.node (some Tryz.f118) (.node (some Tryz.f182) .leaf .leaf) .leaf))) (.node (some Tryz.f30) (.node (some Tryz.f46) (.node (some Tryz.f78) (.node (some Tryz.f142) .leaf .leaf) (.node (some Tryz.f206) .leaf .leaf)) (.node (some Tryz.f110) (.node (some Tryz.f174) .leaf .leaf) .leaf)) (.node (some Tryz.f62) (.node (some Tryz.f94) (.node (some Tryz.f158) .leaf .leaf) .leaf) (.node (some Tryz.f126) (.node (some Tryz.f190) .leaf .leaf) .leaf))))))
theorem DB:fnT.toL=[(3,Tryz.f3),(7,Tryz.f7),(15,Tryz.f15),(31,Tryz.f31),(63,Tryz.f63),(127,Tryz.f127),(191,Tryz.f191),(95,Tryz.f95),(159,Tryz.f159),(47,Tryz.f47),(79,Tryz.f79),(143,Tryz.f143),(207,Tryz.f207),(111,Tryz.f111),(175,Tryz.f175),(23,Tryz.f23),(39,Tryz.f39),(71,Tryz.f71),(135,Tryz.f135),(199,Tryz.f199),(103,Tryz.f103),(167,Tryz.f167),(55,Tryz.f55),(87,Tryz.f87),(151,Tryz.f151),(119,Tryz.f119),(183,Tryz.f183),(11,Tryz.f11),(19,Tryz.f19),(35,Tryz.f35),(67,Tryz.f67),(131,Tryz.f131),(195,Tryz.f195),(99,Tryz.f99),(163,Tryz.f163),(51,Tryz.f51),(83,Tryz.f83),(147,Tryz.f147),(115,Tryz.f115),(179,Tryz.f179),(27,Tryz.f27),(43,Tryz.f43),(75,Tryz.f75),(139,Tryz.f139),(203,Tryz.f203),(107,Tryz.f107),(171,Tryz.f171),(59,Tryz.f59),(91,Tryz.f91),(155,Tryz.f155),(123,Tryz.f123),(187,Tryz.f187),(5,Tryz.f5),(9,Tryz.f9),(17,Tryz.f17),(33,Tryz.f33),(65,Tryz.f65),(129,Tryz.f129),(193,Tryz.f193),(97,Tryz.f97),(161,Tryz.f161),(49,Tryz.f49),(81,Tryz.f81),(145,Tryz.f145),(209,Tryz.f209),(113,Tryz.f113),(177,Tryz.f177),(25,Tryz.f25),(41,Tryz.f41),(73,Tryz.f73),(137,Tryz.f137),(201,Tryz.f201),(105,Tryz.f105),(169,Tryz.f169),(57,Tryz.f57),(89,Tryz.f89),(153,Tryz.f153),(121,Tryz.f121),(185,Tryz.f185),(13,Tryz.f13),(21,Tryz.f21),(37,Tryz.f37),(69,Tryz.f69),(133,Tryz.f133),(197,Tryz.f197),(101,Tryz.f101),(165,Tryz.f165),(53,Tryz.f53),(85,Tryz.f85),(149,Tryz.f149),(117,Tryz.f117),(181,Tryz.f181),(29,Tryz.f29),(45,Tryz.f45),(77,Tryz.f77),(141,Tryz.f141),(205,Tryz.f205),(109,Tryz.f109),(173,Tryz.f173),(61,Tryz.f61),(93,Tryz.f93),(157,Tryz.f157),(125,Tryz.f125),(189,Tryz.f189),(4,Tryz.f4),(8,Tryz.f8),(16,Tryz.f16),(32,Tryz.f32),(64,Tryz.f64),(128,Tryz.f128),(192,Tryz.f192),(96,Tryz.f96),(160,Tryz.f160),(48,Tryz.f48),(80,Tryz.f80),(144,Tryz.f144),(208,Tryz.f208),(112,Tryz.f112),(176,Tryz.f176),(24,Tryz.f24),(40,Tryz.f40),(72,Tryz.f72),(136,Tryz.f136),(200,Tryz.f200),(104,Tryz.f104),(168,Tryz.f168),(56,Tryz.f56),(88,Tryz.f88),(152,Tryz.f152),(120,Tryz.f120),(184,Tryz.f184),(12,Tryz.f12),(20,Tryz.f20),(36,Tryz.f36),(68,Tryz.f68),(132,Tryz.f132),(196,Tryz.f196),(100,Tryz.f100),(164,Tryz.f164),(52,Tryz.f52),(84,Tryz.f84),(148,Tryz.f148),(116,Tryz.f116),(180,Tryz.f180),(28,Tryz.f28),(44,Tryz.f44),(76,Tryz.f76),(140,Tryz.f140),(204,Tryz.f204),(108,Tryz.f108),(172,Tryz.f172),(60,Tryz.f60),(92,Tryz.f92),(156,Tryz.f156),(124,Tryz.f124),(188,Tryz.f188),(6,Tryz.f6),(10,Tryz.f10),(18,Tryz.f18),(34,Tryz.f34),(66,Tryz.f66),(130,Tryz.f130),(194,Tryz.f194),(98,Tryz.f98),(162,Tryz.f162),(50,Tryz.f50),(82,Tryz.f82),(146,Tryz.f146),(114,Tryz.f114),(178,Tryz.f178),(26,Tryz.f26),(42,Tryz.f42),(74,Tryz.f74),(138,Tryz.f138),(202,Tryz.f202),(106,Tryz.f106),(170,Tryz.f170),(58,Tryz.f58),(90,Tryz.f90),(154,Tryz.f154),(122,Tryz.f122),(186,Tryz.f186),(14,Tryz.f14),(22,Tryz.f22),(38,Tryz.f38),(70,Tryz.f70),(134,Tryz.f134),(198,Tryz.f198),(102,Tryz.f102),(166,Tryz.f166),(54,Tryz.f54),(86,Tryz.f86),(150,Tryz.f150),(118,Tryz.f118),(182,Tryz.f182),(30,Tryz.f30),(46,Tryz.f46),(78,Tryz.f78),(142,Tryz.f142),(206,Tryz.f206),(110,Tryz.f110),(174,Tryz.f174),(62,Tryz.f62),(94,Tryz.f94),(158,Tryz.f158),(126,Tryz.f126),(190,Tryz.f190)]:=by kernel_rfl
def fnP (k : Nat) (f : Func) : Prop := Tryz.prog.funcs[k]? = some f ∧ (f.name == "runtime.NumGoroutine") = false
theorem pg : ∀ k f, fnT.get k = some f → Tryz.prog.funcs[k]? = some f ∧ (f.name == "runtime.NumGoroutine") = false := by
 refine Tr.all_get (p:=fnP) ?_
 rw [DB]
 exact .cons ⟨Tryz.func3,by kernel_rfl⟩ (.cons ⟨Tryz.func7,by kernel_rfl⟩ (.cons ⟨Tryz.func15,by kernel_rfl⟩ (.cons ⟨Tryz.func31,by kernel_rfl⟩ (.cons ⟨Tryz.func63,by kernel_rfl⟩ (.cons ⟨Tryz.func127,by kernel_rfl⟩ (.cons ⟨Tryz.func191,by kernel_rfl⟩ (.cons ⟨Tryz.func95,by kernel_rfl⟩ (.cons ⟨Tryz.func159,by kernel_rfl⟩ (.cons ⟨Tryz.func47,by kernel_rfl⟩ (.cons ⟨Tryz.func79,by kernel_rfl⟩ (.cons ⟨Tryz.func143,by kernel_rfl⟩ (.cons ⟨Tryz.func207,by kernel_rfl⟩ (.cons ⟨Tryz.func111,by kernel_rfl⟩ (.cons ⟨Tryz.func175,by kernel_rfl⟩ (.cons ⟨Tryz.func23,by kernel_rfl⟩ (.cons ⟨Tryz.func39,by kernel_rfl⟩ (.cons ⟨Tryz.func71,by kernel_rfl⟩ (.cons ⟨Tryz.func135,by kernel_rfl⟩ (.cons ⟨Tryz.func199,by kernel_rfl⟩ (.cons ⟨Tryz.func103,by kernel_rfl⟩ (.cons ⟨Tryz.func167,by kernel_rfl⟩ (.cons ⟨Tryz.func55,by kernel_rfl⟩ (.cons ⟨Tryz.func87,by kernel_rfl⟩ (.cons ⟨Tryz.func151,by kernel_rfl⟩ (.cons ⟨Tryz.func119,by kernel_rfl⟩ (.cons ⟨Tryz.func183,by kernel_rfl⟩ (.cons ⟨Tryz.func11,by kernel_rfl⟩ (.cons ⟨Tryz.func19,by kernel_rfl⟩ (.cons ⟨Tryz.func35,by kernel_rfl⟩ (.cons ⟨Tryz.func67,by kernel_rfl⟩ (.cons ⟨Tryz.func131,by kernel_rfl⟩ (.cons ⟨Tryz.func195,by kernel_rfl⟩ (.cons ⟨Tryz.func99,by kernel_rfl⟩ (.cons ⟨Tryz.func163,by kernel_rfl⟩ (.cons ⟨Tryz.func51,by kernel_rfl⟩ (.cons ⟨Tryz.func83,by kernel_rfl⟩ (.cons ⟨Tryz.func147,by kernel_rfl⟩ (.cons ⟨Tryz.func115,by kernel_rfl⟩ (.cons ⟨Tryz.func179,by kernel_rfl⟩ (.cons ⟨Tryz.func27,by kernel_rfl⟩ (.cons ⟨Tryz.func43,by kernel_rfl⟩ (.cons ⟨Tryz.func75,by kernel_rfl⟩ (.cons ⟨Tryz.func139,by kernel_rfl⟩ (.cons ⟨Tryz.func203,by kernel_rfl⟩ (.cons ⟨Tryz.func107,by kernel_rfl⟩ (.cons ⟨Tryz.func171,by kernel_rfl⟩ (.cons ⟨Tryz.func59,by kernel_rfl⟩ (.cons ⟨Tryz.func91,by kernel_rfl⟩ (.cons ⟨Tryz.func155,by kernel_rfl⟩ (.cons ⟨Tryz.func123,by kernel_rfl⟩ (.cons ⟨Tryz.func187,by kernel_rfl⟩ (.cons ⟨Tryz.func5,by kernel_rfl⟩ (.cons ⟨Tryz.func9,by kernel_rfl⟩ (.cons ⟨Tryz.func17,by kernel_rfl⟩ (.cons ⟨Tryz.func33,by kernel_rfl⟩ (.cons ⟨Tryz.func65,by kernel_rfl⟩ (.cons ⟨Tryz.func129,by kernel_rfl⟩ (.cons ⟨Tryz.func193,by kernel_rfl⟩ (.cons ⟨Tryz.func97,by kernel_rfl⟩ (.cons ⟨Tryz.func161,by kernel_rfl⟩ (.cons ⟨Tryz.func49,by kernel_rfl⟩ (.cons ⟨Tryz.func81,by kernel_rfl⟩ (.cons ⟨Tryz.func145,by kernel_rfl⟩ (.cons ⟨Tryz.func209,by kernel_rfl⟩ (.cons ⟨Tryz.func113,by kernel_rfl⟩ (.cons ⟨Tryz.func177,by kernel_rfl⟩ (.cons ⟨Tryz.func25,by kernel_rfl⟩ (.cons ⟨Tryz.func41,by kernel_rfl⟩ (.cons ⟨Tryz.func73,by kernel_rfl⟩ (.cons ⟨Tryz.func137,by kernel_rfl⟩ (.cons ⟨Tryz.func201,by kernel_rfl⟩ (.cons ⟨Tryz.func105,by kernel_rfl⟩ (.cons ⟨Tryz.func169,by kernel_rfl⟩ (.cons ⟨Tryz.func57,by kernel_rfl⟩ (.cons ⟨Tryz.func89,by kernel_rfl⟩ (.cons ⟨Tryz.func153,by kernel_rfl⟩ (.cons ⟨Tryz.func121,by kernel_rfl⟩ (.cons ⟨Tryz.func185,by kernel_rfl⟩ (.cons ⟨Tryz.func13,by kernel_rfl⟩ (.cons ⟨Tryz.func21,by kernel_rfl⟩ (.cons ⟨Tryz.func37,by kernel_rfl⟩ (.cons ⟨Tryz.func69,by kernel_rfl⟩ (.cons ⟨Tryz.func133,by kernel_rfl⟩ (.cons ⟨Tryz.func197,by kernel_rfl⟩ (.cons ⟨Tryz.func101,by kernel_rfl⟩ (.cons ⟨Tryz.func165,by kernel_rfl⟩ (.cons ⟨Tryz.func53,by kernel_rfl⟩ (.cons ⟨Tryz.func85,by kernel_rfl⟩ (.cons ⟨Tryz.func149,by kernel_rfl⟩ (.cons ⟨Tryz.func117,by kernel_rfl⟩ (.cons ⟨Tryz.func181,by kernel_rfl⟩ (.cons ⟨Tryz.func29,by kernel_rfl⟩ (.cons ⟨Tryz.func45,by kernel_rfl⟩ (.cons ⟨Tryz.func77,by kernel_rfl⟩ (.cons ⟨Tryz.func141,by kernel_rfl⟩ (.cons ⟨Tryz.func205,by kernel_rfl⟩ (.cons ⟨Tryz.func109,by kernel_rfl⟩ (.cons ⟨Tryz.func173,by kernel_rfl⟩ (.cons ⟨Tryz.func61,by kernel_rfl⟩ (.cons ⟨Tryz.func93,by kernel_rfl⟩ (.cons ⟨Tryz.func157,by kernel_rfl⟩ (.cons ⟨Tryz.func125,by kernel_rfl⟩ (.cons ⟨Tryz.func189,by kernel_rfl⟩ (.cons ⟨Tryz.func4,by kernel_rfl⟩ (.cons ⟨Tryz.func8,by kernel_rfl⟩ (.cons ⟨Tryz.func16,by kernel_rfl⟩ (.cons ⟨Tryz.func32,by kernel_rfl⟩ (.cons ⟨Tryz.func64,by kernel_rfl⟩ (.cons ⟨Tryz.func128,by kernel_rfl⟩ (.cons ⟨Tryz.func192,by kernel_rfl⟩ (.cons ⟨Tryz.func96,by kernel_rfl⟩ (.cons ⟨Tryz.func160,by kernel_rfl⟩ (.cons ⟨Tryz.func48,by kernel_rfl⟩ (.cons ⟨Tryz.func80,by kernel_rfl⟩ (.cons ⟨Tryz.func144,by kernel_rfl⟩ (.cons ⟨Tryz.func208,by kernel_rfl⟩ (.cons ⟨Tryz.func112,by kernel_rfl⟩ (.cons ⟨Tryz.func176,by kernel_rfl⟩ (.cons ⟨Tryz.func24,by kernel_rfl⟩ (.cons ⟨Tryz.func40,by kernel_rfl⟩ (.cons ⟨Tryz.func72,by kernel_rfl⟩ (.cons ⟨Tryz.func136,by kernel_rfl⟩ (.cons ⟨Tryz.func200,by kernel_rfl⟩ (.cons ⟨Tryz.func104,by kernel_rfl⟩ (.cons ⟨Tryz.func168,by kernel_rfl⟩ (.cons ⟨Tryz.func56,by kernel_rfl⟩ (.cons ⟨Tryz.func88,by kernel_rfl⟩ (.cons ⟨Tryz.func152,by kernel_rfl⟩ (.cons ⟨Tryz.func120,by kernel_rfl⟩ (.cons ⟨Tryz.func184,by kernel_rfl⟩ (.cons ⟨Tryz.func12,by kernel_rfl⟩ (.cons ⟨Tryz.func20,by kernel_rfl⟩ (.cons ⟨Tryz.func36,by kernel_rfl⟩ (.cons ⟨Tryz.func68,by kernel_rfl⟩ (.cons ⟨Tryz.func132,by kernel_rfl⟩ (.cons ⟨Tryz.func196,by kernel_rfl⟩ (.cons ⟨Tryz.func100,by kernel_rfl⟩ (.cons ⟨Tryz.func164,by kernel_rfl⟩ (.cons ⟨Tryz.func52,by kernel_rfl⟩ (.cons ⟨Tryz.func84,by kernel_rfl⟩ (.cons ⟨Tryz.func148,by kernel_rfl⟩ (.cons ⟨Tryz.func116,by kernel_rfl⟩ (.cons ⟨Tryz.func180,by kernel_rfl⟩ (.cons ⟨Tryz.func28,by kernel_rfl⟩ (.cons ⟨Tryz.func44,by kernel_rfl⟩ (.cons ⟨Tryz.func76,by kernel_rfl⟩ (.cons ⟨Tryz.func140,by kernel_rfl⟩ (.cons ⟨Tryz.func204,by kernel_rfl⟩ (.cons ⟨Tryz.func108,by kernel_rfl⟩ (.cons ⟨Tryz.func172,by kernel_rfl⟩ (.cons ⟨Tryz.func60,by kernel_rfl⟩ (.cons ⟨Tryz.func92,by kernel_rfl⟩ (.cons ⟨Tryz.func156,by kernel_rfl⟩ (.cons ⟨Tryz.func124,by kernel_rfl⟩ (.cons ⟨Tryz.func188,by kernel_rfl⟩ (.cons ⟨Tryz.func6,by kernel_rfl⟩ (.cons ⟨Tryz.func10,by kernel_rfl⟩ (.cons ⟨Tryz.func18,by kernel_rfl⟩ (.cons ⟨Tryz.func34,by kernel_rfl⟩ (.cons ⟨Tryz.func66,by kernel_rfl⟩ (.cons ⟨Tryz.func130,by kernel_rfl⟩ (.cons ⟨Tryz.func194,by kernel_rfl⟩ (.cons ⟨Tryz.func98,by kernel_rfl⟩ (.cons ⟨Tryz.func162,by kernel_rfl⟩ (.cons ⟨Tryz.func50,by kernel_rfl⟩ (.cons ⟨Tryz.func82,by kernel_rfl⟩ (.cons ⟨Tryz.func146,by kernel_rfl⟩ (.cons ⟨Tryz.func114,by kernel_rfl⟩ (.cons ⟨Tryz.func178,by kernel_rfl⟩ (.cons ⟨Tryz.func26,by kernel_rfl⟩ (.cons ⟨Tryz.func42,by kernel_rfl⟩ (.cons ⟨Tryz.func74,by kernel_rfl⟩ (.cons ⟨Tryz.func138,by kernel_rfl⟩ (.cons ⟨Tryz.func202,by kernel_rfl⟩ (.cons ⟨Tryz.func106,by kernel_rfl⟩ (.cons ⟨Tryz.func170,by kernel_rfl⟩ (.cons ⟨Tryz.func58,by kernel_rfl⟩ (.cons ⟨Tryz.func90,by kernel_rfl⟩ (.cons ⟨Tryz.func154,by kernel_rfl⟩ (.cons ⟨Tryz.func122,by kernel_rfl⟩ (.cons ⟨Tryz.func186,by kernel_rfl⟩ (.cons ⟨Tryz.func14,by kernel_rfl⟩ (.cons ⟨Tryz.func22,by kernel_rfl⟩ (.cons ⟨Tryz.func38,by kernel_rfl⟩ (.cons ⟨Tryz.func70,by kernel_rfl⟩ (.cons ⟨Tryz.func134,by kernel_rfl⟩ (.cons ⟨Tryz.func198,by kernel_rfl⟩ (.cons ⟨Tryz.func102,by kernel_rfl⟩ (.cons ⟨Tryz.func166,by kernel_rfl⟩ (.cons ⟨Tryz.func54,by kernel_rfl⟩ (.cons ⟨Tryz.func86,by kernel_rfl⟩ (.cons ⟨Tryz.func150,by kernel_rfl⟩ (.cons ⟨Tryz.func118,by kernel_rfl⟩ (.cons ⟨Tryz.func182,by kernel_rfl⟩ (.cons ⟨Tryz.func30,by kernel_rfl⟩ (.cons ⟨Tryz.func46,by kernel_rfl⟩ (.cons ⟨Tryz.func78,by kernel_rfl⟩ (.cons ⟨Tryz.func142,by kernel_rfl⟩ (.cons ⟨Tryz.func206,by kernel_rfl⟩ (.cons ⟨Tryz.func110,by kernel_rfl⟩ (.cons ⟨Tryz.func174,by kernel_rfl⟩ (.cons ⟨Tryz.func62,by kernel_rfl⟩ (.cons ⟨Tryz.func94,by kernel_rfl⟩ (.cons ⟨Tryz.func158,by kernel_rfl⟩ (.cons ⟨Tryz.func126,by kernel_rfl⟩ (.cons ⟨Tryz.func190,by kernel_rfl⟩ (.nil)))))))))))))))))))))))))))))))))))))))))))))))))))))))))))))))))))))))))))))))))))))))))))))))))))))))))))))))))))))))))))))))))))))))))))))))))))))))))))))))))))))))))))))))))))))))))))))))))))))))))))))))
noncomputable def ky7:List KK:=[.int .i64,.int .i64,.bool,.int .u8]
theorem Ir:co Tryz.prog 7=some ky7:=by kernel_rfl
noncomputable def ky8:List KK:=[.int .i64,.int .i64,.bool,.int .u8]
theorem IT:co Tryz.prog 8=some ky8:=by kernel_rfl
noncomputable def Ji:List KK:=[.int .i64,.int .i64]
theorem Gv:co Tryz.prog 30=some Ji:=by kernel_rfl
noncomputable def Io:List KK:=[.int .i64,.int .i64]
theorem GU:co Tryz.prog 31=some Io:=by kernel_rfl
noncomputable def JU:List KK:=[.int .i64,.int .i64,.int .i64,.int .i64,.int .i64,.int .i64,.int .i64,.int .i64,.int .i64,.int .i64,.int .i64,.int .i64,.int .i64,.int .i64,.int .i64,.int .i64]
theorem GV:co Tryz.prog 32=some JU:=by kernel_rfl
noncomputable def HV:List KK:=[.int .i64,.int .i64,.int .i64,.bool]
theorem Fb:co Tryz.prog 36=some HV:=by kernel_rfl
noncomputable def I0:List KK:=[.int .i64,.int .i64,.int .i64,.bool]
theorem Ey:co Tryz.prog 37=some I0:=by kernel_rfl
noncomputable def Ie:List KK:=[.int .i64,.int .i64,.int .i64,.int .i64,.int .i64,.int .i64,.int .i64,.int .i64]
theorem Gp:co Tryz.prog 86=some Ie:=by kernel_rfl
noncomputable def HC:List KK:=[.bool,.bool,.bool,.bool,.bool,.bool,.bool,.bool]
theorem Ep:co Tryz.prog 87=some HC:=by kernel_rfl
noncomputable def Co:List KK:=[.int .i64,.string]
theorem Df:co Tryz.prog 106=some Co:=by kernel_rfl
noncomputable def CW:List KK:=[.int .i64,.string]
theorem Cs:co Tryz.prog 107=some CW:=by kernel_rfl
noncomputable def Af:List KK:=[.string,.string]
theorem vP:co Tryz.prog 125=some Af:=by kernel_rfl
noncomputable def yF:List KK:=[.string,.string]
theorem ym:co Tryz.prog 126=some yF:=by kernel_rfl
noncomputable def zA:List KK:=[.int .i64,.int .i64,.int .i64,.bool,.int .i64]
theorem BW:co Tryz.prog 128=some zA:=by kernel_rfl
noncomputable def A9:List KK:=[.int .i64,.int .i64,.int .i64,.bool,.int .i64]
theorem AU:co Tryz.prog 129=some A9:=by kernel_rfl
noncomputable def zD:List KK:=[.int .i64,.int .i64,.int .i64,.bool,.int .i64,.int .i64,.int .i64,.int .i64,.bool,.int .i64,.int .i64,.int .i64,.int .i64,.bool,.int .i64,.int .i64,.int .i64,.int .i64,.bool,.int .i64,.int .i64,.int .i64,.int .i64,.bool,.int .i64,.int .i64,.int .i64,.int .i64,.bool,.int .i64,.int .i64,.int .i64,.int .i64,.bool,.int .i64,.int .i64,.int .i64,.int .i64,.bool,.int .i64]
theorem Bl:co Tryz.prog 130=some zD:=by kernel_rfl
noncomputable def Ak:List KK:=[.int .i64,.string,.int .i64,.bool,.int .i64]
theorem v8:co Tryz.prog 144=some Ak:=by kernel_rfl
noncomputable def zf:List KK:=[.int .i64,.string,.int .i64,.bool,.int .i64]
theorem yH:co Tryz.prog 145=some zf:=by kernel_rfl
noncomputable def DV:List KK:=[.int .i64,.int .i64,.int .i64]
theorem BV:co Tryz.prog 192=some DV:=by kernel_rfl
noncomputable def Bw:List KK:=[.int .i64,.int .i64,.int .i64]
theorem Ec:co Tryz.prog 212=some Bw:=by kernel_rfl
noncomputable def Ac:List KK:=[.string,.int .i64,.string]
theorem w_:co Tryz.prog 214=some Ac:=by kernel_rfl
noncomputable def wL:List KK:=[.string,.int .i64,.string]
theorem Br:co Tryz.prog 215=some wL:=by kernel_rfl
noncomputable def Dz:List KK:=[.int .i64,.int .i64,.int .i64,.bool]
theorem z8:co Tryz.prog 245=some Dz:=by kernel_rfl
noncomputable def DF:List KK:=[.int .i64,.int .i64,.int .i64,.bool]
theorem D8:co Tryz.prog 246=some DF:=by kernel_rfl
noncomputable def kyT:Tr (List KK):=.node none (.node none (.node none (.node (some ky7) (.node none (.node (some Io) .leaf .leaf) .leaf) (.node none .leaf (.node none (.node (some HC) .leaf (.node (some wL) .leaf .leaf)) .leaf))) (.node none .leaf (.node none (.node none .leaf (.node (some CW) .leaf .leaf)) .leaf))) (.node none (.node none (.node none (.node none (.node none (.node (some A9) .leaf .leaf) .leaf) .leaf) (.node none (.node none (.node (some zf) .leaf .leaf) .leaf) .leaf)) .leaf) (.node none (.node none (.node (some I0) .leaf .leaf) (.node none .leaf (.node none .leaf (.node (some Dz) .leaf .leaf)))) (.node none .leaf (.node none .leaf (.node (some Af) .leaf .leaf)))))) (.node none (.node none (.node (some ky8) (.node none (.node (some JU) (.node none (.node (some zA) .leaf .leaf) (.node (some DV) .leaf .leaf)) .leaf) (.node none (.node none (.node (some Ak) .leaf .leaf) .leaf) .leaf)) .leaf) (.node none (.node none (.node (some HV) .leaf .leaf) (.node none (.node none .leaf (.node (some Bw) .leaf .leaf)) .leaf)) .leaf)) (.node none (.node none (.node none (.node none (.node none (.node (some zD) .leaf .leaf) .leaf) .leaf) .leaf) (.node none (.node none .leaf (.node (some Co) .leaf .leaf)) .leaf)) (.node none (.node none .leaf (.node none (.node (some Ie) .leaf (.node (some Ac) .leaf .leaf)) (.node none .leaf (.node (some DF) .leaf .leaf)))) (.node (some Ji) .leaf (.node none .leaf (.node (some yF) .leaf .leaf))))))
theorem zF:kyT.toL=[(7,ky7),(31,Io),(87,HC),(215,wL),(107,CW),(129,A9),(145,zf),(37,I0),(245,Dz),(125,Af),(8,ky8),(32,JU),(128,zA),(192,DV),(144,Ak),(36,HV),(212,Bw),(130,zD),(106,Co),(86,Ie),(214,Ac),(246,DF),(30,Ji),(126,yF)]:=by kernel_rfl
theorem Jt:∀ t ks,kyT.get t=some ks→nR Tryz.prog t ks:=by
 refine Tr.all_get (p:=fun t ks=>nR Tryz.prog t ks) ?_
 rw [zF]
 exact .cons (bg Ir) (.cons (bg GU) (.cons (bg Ep) (.cons (bg Br) (.cons (bg Cs) (.cons (bg AU) (.cons (bg yH) (.cons (bg Ey) (.cons (bg z8) (.cons (bg vP) (.cons (bg IT) (.cons (bg GV) (.cons (bg BW) (.cons (bg BV) (.cons (bg v8) (.cons (bg Fb) (.cons (bg Ec) (.cons (bg Bl) (.cons (bg Df) (.cons (bg Gp) (.cons (bg w_) (.cons (bg D8) (.cons (bg Gv) (.cons (bg ym) (.nil))))))))))))))))))))))))
noncomputable def CX (σ:Sig) (kn:List (bA × Bool)) (hkn:mM σ kn):Ctx Tryz.prog:=⟨tiT.get,mX,kyT.get,Jt,σ,kn,hkn⟩
theorem mixed:Tryz.prog.follows .mixedOrders=true:=by kernel_rfl
noncomputable abbrev CZ (σ:Sig):Ctx Tryz.prog:=CX σ [] ua
def jr (j:Nat→AV):Nat→Nat→List AV
  | _,0=>[]
  | a,n+1=>j a::jr j (a+1) n
noncomputable abbrev fQ (f:Func) (σ:Sig) (K:AV→Hp→Prop):=fnQ (CZ σ).ti f.results.toList K
theorem gwp {σ:Sig} (g:Nat) {f:Nat} {fn:Func} {c:Code} {xs:List AV} {H:Hp} {K:AV→Hp→Prop} (hf:fnT.get f=some fn) (hb:fn.body=some c) (h:wp (CZ σ) g c (xs++List.replicate (fn.ntmps - xs.length) (.lit undef)) H (fnQ (CZ σ).ti fn.results.toList K)):∃ r H',ar Tryz.prog σ f xs H r H'∧K r H' :=
  sH (CZ σ) mixed g (pg f fn hf).1 hb (pg f fn hf).2 h
theorem lrd {σ:Sig} {g:Nat} {c:Code} {T:List AV} {H:Hp} {Q:Exit→List AV→Hp→Prop} (h:wp (CZ σ) g c T H (nx Q fun T1 H1=>∀ js,aZ (CZ σ) c (dx g js 0 T1) H1 Q)):aZ (CZ σ) c T H Q :=
  aZ.round (CZ σ) mixed h
end Go.Proofs.YthdcghnjndhecaaGreat.Ev
namespace Go.Proofs.YthdcghnjndhecaaGreat.Ev
set_option maxRecDepth 100000
set_option maxHeartbeats 4000000
instance:Still:=⟨fun f=>Nat.beq f 15⟩
abbrev cW:Nat:=4
abbrev fg:Nat:=9
abbrev cY:Nat:=12
abbrev fP:Nat:=14
abbrev dB:Nat:=15
abbrev eN:Nat:=23
abbrev dK:Nat:=27
abbrev cV:Nat:=28
abbrev c_:Nat:=29
abbrev eH:Nat:=31
abbrev hO:Nat:=32
abbrev jM:Nat:=33
abbrev i7:Nat:=34
abbrev kG:Nat:=47
abbrev i_:Nat:=48
abbrev iB:Nat:=49
abbrev bZ:Nat:=52
abbrev cA:Nat:=53
abbrev fK:Nat:=54
abbrev eh:Nat:=56
abbrev fI:Nat:=77
abbrev cC:Nat:=78
abbrev dZ:Nat:=86
abbrev iC:Nat:=87
abbrev eJ:Nat:=89
abbrev aK:Nat:=106
abbrev aR:Nat:=107
abbrev gQ:Nat:=115
abbrev dC:Nat:=116
abbrev io:Nat:=136
abbrev gV:Nat:=137
abbrev dQ:Nat:=138
abbrev cu:Nat:=139
abbrev ct:Nat:=140
abbrev b_:Nat:=141
abbrev db:Nat:=142
abbrev eC:Nat:=156
abbrev da:Nat:=157
abbrev cg:Nat:=158
abbrev dm:Nat:=159
abbrev dz:Nat:=160
abbrev cO:Nat:=173
abbrev ev:Nat:=174
abbrev cB:Nat:=175
abbrev bV:Nat:=176
abbrev dc:Nat:=179
abbrev c4:Nat:=180
abbrev cX:Nat:=181
abbrev dJ:Nat:=182
abbrev dD:Nat:=183
abbrev gM:Nat:=184
abbrev fN:Nat:=185
abbrev cv:Nat:=186
abbrev ci:Nat:=187
abbrev cK:Nat:=188
abbrev dh:Nat:=189
abbrev gO:Nat:=190
abbrev dM:Nat:=191
abbrev il:Nat:=192
abbrev fL:Nat:=193
abbrev cz:Nat:=194
abbrev de:Nat:=195
abbrev gB:Nat:=196
abbrev gU:Nat:=197
abbrev bF:Nat:=198
abbrev bE:Nat:=199
abbrev fw:Nat:=201
abbrev fh:Nat:=202
abbrev nP:Nat:=3
abbrev eu:Nat:=4
abbrev CQ:Nat:=9
abbrev oe:Nat:=22
abbrev n7:Nat:=23
abbrev gF:Nat:=31
abbrev cU:Nat:=37
abbrev ru:Nat:=38
abbrev oa:Nat:=39
abbrev sc:Nat:=41
abbrev kh:Nat:=45
abbrev pS:Nat:=47
abbrev s5:Nat:=49
abbrev om:Nat:=53
abbrev mt:Nat:=54
abbrev mH:Nat:=56
abbrev sv:Nat:=58
abbrev oo:Nat:=59
abbrev nY:Nat:=61
abbrev r9:Nat:=126
abbrev pd:Nat:=167
abbrev rR:Nat:=215
theorem B6:∃ i,tiT.get nP=some i∧i.d=.int .i64∧i.size=1:=⟨_,(by kernel_rfl:tiT.get nP=some ti3),by kernel_rfl,by kernel_rfl⟩
theorem oV:∃ i,tiT.get eu=some i∧i.d=.bool∧i.size=1:=⟨_,(by kernel_rfl:tiT.get eu=some ti4),by kernel_rfl,by kernel_rfl⟩
theorem nK:∃ i,tiT.get gF=some i∧i.d=.struct [(0,nP),(1,nP)]∧i.size=2:=⟨_,(by kernel_rfl:tiT.get gF=some ER),by kernel_rfl,by kernel_rfl⟩
theorem kV:∃ i,tiT.get cU=some i∧i.d=.struct [(0,nP),(1,gF),(3,eu)]∧i.size=4:=⟨_,(by kernel_rfl:tiT.get cU=some GQ),by kernel_rfl,by kernel_rfl⟩
end Go.Proofs.YthdcghnjndhecaaGreat.Ev
namespace Go.Proofs.YthdcghnjndhecaaGreat.Ev
set_option maxRecDepth 100000
set_option maxHeartbeats 4000000
set_option linter.unusedVariables false
variable {σ:Sig} {K:AV→Hp→Prop} {H:Hp}
noncomputable def ai.code:Code:=aH Tryz.f4
noncomputable def ai.J0 (σ:Sig) (K:AV→Hp→Prop) (y2 y3 y4 y5 y10 y11 y13 y17 y18 y19 y67:AV) (H:Hp):Prop:=∀ j:Nat→AV,wp (CZ σ) 147573952589677341756 (sR (sR (sR (sR (sR (sR (sR ai.code))))))) ([j 0,j 1,y2,y3,y4,y5,j 6,j 7,j 8,j 9,y10,y11,j 12,y13,j 14,j 15,j 16,y17,y18,y19,j 20,j 21,j 22,j 23,j 24,j 25,j 26,j 27,j 28,j 29,j 30,j 31,j 32,j 33,j 34,j 35,j 36,j 37,j 38,j 39,j 40,j 41,j 42,j 43,j 44,j 45,j 46,j 47,j 48,j 49,j 50,j 51,j 52,j 53,j 54,j 55,j 56,j 57,j 58,j 59,j 60,j 61,j 62,j 63,j 64,j 65,j 66,y67]++jr j 68 26) H (fQ Tryz.f4 σ K)
noncomputable def ai.J1 (σ:Sig) (K:AV→Hp→Prop) (y2 y3 y4 y5 y10 y11 y13 y17 y18 y19 y67:AV) (H:Hp):Prop:=∀ j:Nat→AV,wp (CZ σ) 147573952589677341756 (sR (sR (sR (sR (sR (sR (sR (sR (sR (sR (sR (sR (sR ai.code))))))))))))) ([j 0,j 1,y2,y3,y4,y5,j 6,j 7,j 8,j 9,y10,y11,j 12,y13,j 14,j 15,j 16,y17,y18,y19,j 20,j 21,j 22,j 23,j 24,j 25,j 26,j 27,j 28,j 29,j 30,j 31,j 32,j 33,j 34,j 35,j 36,j 37,j 38,j 39,j 40,j 41,j 42,j 43,j 44,j 45,j 46,j 47,j 48,j 49,j 50,j 51,j 52,j 53,j 54,j 55,j 56,j 57,j 58,j 59,j 60,j 61,j 62,j 63,j 64,j 65,j 66,y67]++jr j 68 26) H (fQ Tryz.f4 σ K)
noncomputable def ai.J2 (σ:Sig) (K:AV→Hp→Prop) (y2 y3 y4 y5 y10 y11 y13 y17 y18 y19 y67:AV) (H:Hp):Prop:=∀ j:Nat→AV,wp (CZ σ) 147573952589677341756 (sR (bB (sL (sR (sR (sR (sR (sR (sR (sR (sR (sR (sR (sR (sR (sR (sR (sR ai.code)))))))))))))))))) ([j 0,j 1,y2,y3,y4,y5,j 6,j 7,j 8,j 9,y10,y11,j 12,y13,j 14,j 15,j 16,y17,y18,y19,j 20,j 21,j 22,j 23,j 24,j 25,j 26,j 27,j 28,j 29,j 30,j 31,j 32,j 33,j 34,j 35,j 36,j 37,j 38,j 39,j 40,j 41,j 42,j 43,j 44,j 45,j 46,j 47,j 48,j 49,j 50,j 51,j 52,j 53,j 54,j 55,j 56,j 57,j 58,j 59,j 60,j 61,j 62,j 63,j 64,j 65,j 66,y67]++jr j 68 26) H (fun e T G=>(nx (fQ Tryz.f4 σ K) fun T G=>∀ j,wp (CZ σ) 147573952589677341756 (sR (sR (sR (sR (sR (sR (sR (sR (sR (sR (sR (sR (sR (sR (sR (sR ai.code)))))))))))))))) (dx 147573952589677341756 j 0 T) G (fQ Tryz.f4 σ K)) (au 0 e) T G)
noncomputable def ai.J3 (σ:Sig) (K:AV→Hp→Prop) (y2 y3 y4 y5 y10 y11 y13 y17 y18 y19 y67:AV) (H:Hp):Prop:=∀ j:Nat→AV,wp (CZ σ) 147573952589677341756 (sR (sR (sR (sR (sR (sR (sR (sR (sR (sR (sR (sR (sR (sR (sR (sR ai.code)))))))))))))))) ([j 0,j 1,y2,y3,y4,y5,j 6,j 7,j 8,j 9,y10,y11,j 12,y13,j 14,j 15,j 16,y17,y18,y19,j 20,j 21,j 22,j 23,j 24,j 25,j 26,j 27,j 28,j 29,j 30,j 31,j 32,j 33,j 34,j 35,j 36,j 37,j 38,j 39,j 40,j 41,j 42,j 43,j 44,j 45,j 46,j 47,j 48,j 49,j 50,j 51,j 52,j 53,j 54,j 55,j 56,j 57,j 58,j 59,j 60,j 61,j 62,j 63,j 64,j 65,j 66,y67]++jr j 68 26) H (fQ Tryz.f4 σ K)
theorem ai.J0_step {y2 y3 y4 y5 y10 y11 y13 y17 y18 y19 y67:AV} (h:bnd (dv [I 0,.lit (.string ⟨#[]⟩),.lit (.string ⟨#[]⟩),.lit (.slice none 0 0),.lit (.slice none 0 0)] [(0,1,(I (-1))),(1,1,(.lit (.string ⟨#[120]⟩))),(2,1,(.lit (.string ⟨#[105]⟩)))]) fun l1=>bnd (bC [.int .i64 0,.string ⟨#[]⟩,.string ⟨#[]⟩,.slice none 0 0,.slice none 0 0] 5 1 H [(0,5,(.agg l1))]) fun p2=>az Tryz.prog σ fP [p2.1] p2.2 fun x3 H4=>bnd (exR x3 0) fun x5=>bnd (exR x3 1) fun x6=>ra Tryz.prog σ dB [y10] H4 fun x7 H8=>bnd (ldA true 4 H8 y4) fun x9=>bnd (bC [.int .i64 0,.int .i64 0,.int .i64 0,.bool false] 4 1 H8 [(0,4,x9)]) fun p10=>bnd (dv [.lit (.slice none 0 0),.lit (.slice none 0 0)] [(0,1,x7),(1,1,p10.1)]) fun l11=>a8 [.lit (.slice none 0 0),.lit (.slice none 0 0)] p10.2 fun x12 H13=>bnd (stA 2 H13 x12 (.agg l11)) fun H14=>ra Tryz.prog σ dB [y11] H14 fun x15 H16=>bnd (ldA true 4 H16 y5) fun x17=>bnd (bC [.int .i64 0,.int .i64 0,.int .i64 0,.bool false] 4 1 H16 [(0,4,x17)]) fun p18=>bnd (dv [.lit (.slice none 0 0),.lit (.slice none 0 0)] [(0,1,x15),(1,1,p18.1)]) fun l19=>a8 [.lit (.slice none 0 0),.lit (.slice none 0 0)] p18.2 fun x20 H21=>bnd (stA 2 H21 x20 (.agg l19)) fun H22=>bnd (ldA true 2 H22 x12) fun x23=>bnd (ldA true 2 H22 x20) fun x24=>bnd (bC [.slice none 0 0,.slice none 0 0] 2 2 H22 [(0,2,x23),(2,2,x24)]) fun p25=>ifB y3 (bnd (ldA true 2 p25.2 x20) fun x26=>bnd (ldA true 2 p25.2 x12) fun x27=>bnd (bC [.slice none 0 0,.slice none 0 0] 2 2 p25.2 [(0,2,x26),(2,2,x27)]) fun p28=>ai.J1 σ K y2 y3 y4 y5 y10 y11 x5 p28.1 y18 y19 y67 p28.2) (ai.J1 σ K y2 y3 y4 y5 y10 y11 x5 p25.1 y18 y19 y67 p25.2)):ai.J0 σ K y2 y3 y4 y5 y10 y11 y13 y17 y18 y19 y67 H :=
 fun j=>Eq.mpr (by kernel_rfl) h
theorem ai.J1_step {y2 y3 y4 y5 y10 y11 y13 y17 y18 y19 y67:AV} (h:az Tryz.prog σ cY [y13,(I 0),y17] H fun x1 H2=>a8 (List.replicate 16 (I 0)) H2 fun x3 H4=>bnd (stA 16 H4 x3 x1) fun H5=>bnd (aj y5 1) fun x6=>bnd (ldA true 2 H5 x6) fun x7=>a8 [I 0,I 0] H5 fun x8 H9=>bnd (stA 2 H9 x8 x7) fun H10=>bnd (aj y4 3) fun x11=>bnd (ldA false 1 H10 x11) fun x12=>ifB x12 (bnd (aj y5 3) fun x13=>bnd (ldA false 1 H10 x13) fun x14=>bnd (unR .not x14) fun x15=>ifB x15 (ai.J2 σ K y2 y3 y4 y5 y10 y11 y13 y17 x3 x8 x15 H10) (bnd (aj y4 3) fun x16=>bnd (ldA false 1 H10 x16) fun x17=>bnd (aj y5 3) fun x18=>bnd (ldA false 1 H10 x18) fun x19=>bnd (gN .eql x17 x19) fun x20=>ifB x20 (ifB y2 (ai.J2 σ K y2 y3 y4 y5 y10 y11 y13 y17 x3 x8 (Bo true) H10) (ai.J2 σ K y2 y3 y4 y5 y10 y11 y13 y17 x3 x8 y3 H10)) (ai.J2 σ K y2 y3 y4 y5 y10 y11 y13 y17 x3 x8 (Bo false) H10))) (bnd (aj y4 3) fun x21=>bnd (ldA false 1 H10 x21) fun x22=>bnd (aj y5 3) fun x23=>bnd (ldA false 1 H10 x23) fun x24=>bnd (gN .eql x22 x24) fun x25=>ifB x25 (ifB y2 (ai.J2 σ K y2 y3 y4 y5 y10 y11 y13 y17 x3 x8 (Bo true) H10) (ai.J2 σ K y2 y3 y4 y5 y10 y11 y13 y17 x3 x8 y3 H10)) (ai.J2 σ K y2 y3 y4 y5 y10 y11 y13 y17 x3 x8 (Bo false) H10))):ai.J1 σ K y2 y3 y4 y5 y10 y11 y13 y17 y18 y19 y67 H :=
 fun j=>Eq.mpr (by kernel_rfl) h
theorem ai.J2_step {y2 y3 y4 y5 y10 y11 y13 y17 y18 y19 y67:AV} (h:ifB y67 (bnd (aj y4 1) fun x1=>bnd (ldA true 2 H x1) fun x2=>bnd (stA 2 H y19 x2) fun H3=>ai.J3 σ K y2 y3 y4 y5 y10 y11 y13 y17 y18 y19 y67 H3) (ai.J3 σ K y2 y3 y4 y5 y10 y11 y13 y17 y18 y19 y67 H)):ai.J2 σ K y2 y3 y4 y5 y10 y11 y13 y17 y18 y19 y67 H :=
 fun j=>Eq.mpr (by kernel_rfl) h
theorem ai.J3_step {y2 y3 y4 y5 y10 y11 y13 y17 y18 y19 y67:AV} (h:bnd (aj y4 0) fun x1=>bnd (ldA false 1 H x1) fun x2=>bnd (bS 8 2 y18 x2) fun x3=>bnd (ldA true 2 H x3) fun x4=>bnd (ldA true 2 H y19) fun x5=>bnd (iT [.int .i64,.int .i64] .eql x4 x5) fun x6=>K x6 H):ai.J3 σ K y2 y3 y4 y5 y10 y11 y13 y17 y18 y19 y67 H :=
 fun j=>Eq.mpr (by kernel_rfl) h
theorem ai.run {a0 a1 a2 a3:AV} (h:cL a0 H fun x1 H2=>cL a1 H2 fun x3 H4=>az Tryz.prog σ fg [] H4 fun x5 H6=>bnd (unR .not x5) fun x7=>ifB x7 (K x5 H6) (bnd (aj x1 0) fun x8=>bnd (ldA false 1 H6 x8) fun x9=>bnd (am .lss x9 (I 0)) fun x10=>ifB x10 (K x5 H6) (bnd (aj x1 0) fun x11=>bnd (ldA false 1 H6 x11) fun x12=>bnd (am .gtr x12 (I 7)) fun x13=>ifB x13 (K x5 H6) (bnd (aj x1 0) fun x14=>bnd (ldA false 1 H6 x14) fun x15=>bnd (aj x3 0) fun x16=>bnd (stA 1 H6 x16 x15) fun H17=>ifB a2 (ai.J0 σ K a2 a3 x1 x3 (.lit (.string ⟨#[35,105]⟩)) (.lit (.string ⟨#[120]⟩)) (.lit undef) (.lit undef) (.lit undef) (.lit undef) (.lit undef) H17) (ai.J0 σ K a2 a3 x1 x3 (.lit (.string ⟨#[120]⟩)) (.lit (.string ⟨#[120]⟩)) (.lit undef) (.lit undef) (.lit undef) (.lit undef) (.lit undef) H17))))):∃ r H1,ar Tryz.prog σ cW [a0,a1,a2,a3] H r H1∧K r H1 :=
 gwp 147573952589677341756 (fn:=Tryz.f4) (f:=cW) (c:=ai.code) (by kernel_rfl) (by kernel_rfl) (Eq.mpr (by kernel_rfl) h)
noncomputable def iR.code:Code:=aH Tryz.f9
theorem iR.run (h:bnd (bC [.int .u8 0] 1 24 H [(0,1,(.lit (.int .u8 97))),(1,1,(.lit (.int .u8 123))),(2,1,(.lit (.int .u8 119))),(3,1,(.lit (.int .u8 105))),(4,1,(.lit (.int .u8 100))),(5,1,(.lit (.int .u8 116))),(6,1,(.lit (.int .u8 104))),(7,1,(.lit (.int .u8 58))),(8,1,(.lit (.int .u8 49))),(9,1,(.lit (.int .u8 112))),(10,1,(.lit (.int .u8 120))),(11,1,(.lit (.int .u8 125))),(12,1,(.lit (.int .u8 97))),(13,1,(.lit (.int .u8 123))),(14,1,(.lit (.int .u8 119))),(15,1,(.lit (.int .u8 105))),(16,1,(.lit (.int .u8 100))),(17,1,(.lit (.int .u8 116))),(18,1,(.lit (.int .u8 104))),(19,1,(.lit (.int .u8 58))),(20,1,(.lit (.int .u8 50))),(21,1,(.lit (.int .u8 112))),(22,1,(.lit (.int .u8 120))),(23,1,(.lit (.int .u8 125)))]) fun p1=>bnd (sM p1.2 p1.1) fun p2=>az Tryz.prog σ eN [p2.1] p2.2 fun x3 H4=>bnd (dv [I 0,.lit (.string ⟨#[]⟩),.lit (.string ⟨#[]⟩),.lit (.slice none 0 0),.lit (.slice none 0 0)] [(0,1,(I (-1))),(1,1,(.lit (.string ⟨#[97]⟩)))]) fun l5=>bnd (bC [.int .i64 0,.string ⟨#[]⟩,.string ⟨#[]⟩,.slice none 0 0,.slice none 0 0] 5 1 H4 [(0,5,(.agg l5))]) fun p6=>az Tryz.prog σ fP [p6.1] p6.2 fun x7 H8=>bnd (exR x7 0) fun x9=>bnd (exR x7 1) fun x10=>az Tryz.prog σ cY [x9,(I 0),x3] H8 fun x11 H12=>a8 (List.replicate 16 (I 0)) H12 fun x13 H14=>bnd (stA 16 H14 x13 x11) fun H15=>bnd (bS 8 2 x13 (I 4)) fun x16=>bnd (ldA true 2 H15 x16) fun x17=>bnd (dv [I 0,I 0] [(0,1,(I 2)),(1,1,(I 2000))]) fun l18=>bnd (iT [.int .i64,.int .i64] .eql x17 (.agg l18)) fun x19=>K x19 H15):∃ r H1,ar Tryz.prog σ fg [] H r H1∧K r H1 :=
 gwp 0 (fn:=Tryz.f9) (f:=fg) (c:=iR.code) (by kernel_rfl) (by kernel_rfl) (Eq.mpr (by kernel_rfl) h)
noncomputable def aX.code:Code:=aH Tryz.f12
noncomputable def aX.L0 (σ:Sig) (K:AV→Hp→Prop) (y0 y1 y2 y6 y7 y10 y11:AV) (H:Hp):Prop:=∀ j:Nat→AV,aZ (CZ σ) (lB (bB (sR (sL (sR (sR aX.code)))))) ([y0,y1,y2,j 3,j 4,j 5,y6,y7,j 8,j 9,y10,y11]++jr j 12 13) H (fun e T G=>(nx (fQ Tryz.f12 σ K) fun T G=>wp (CZ σ) 3271 (sR (sR (sR aX.code))) T G (fQ Tryz.f12 σ K)) (au 0 e) T G)
theorem aX.L0_step {y0 y1 y2 y6 y7 y10 y11:AV} (h:bnd (am .lss y11 y10) fun x1=>ifB x1 (bnd (bC [.int .i64 0] 1 1 H [(0,1,y11)]) fun p2=>bnd (gm false 1 8 p2.2 y7 p2.1) fun p3=>bnd (am .add y11 (I 1)) fun x4=>aX.L0 σ K y0 y1 y2 y6 p3.1 y10 x4 p3.2) (az Tryz.prog σ cV [y0,y1,y2,y7,(.fn c_ [])] H fun x5 H6=>az Tryz.prog σ dK [x5] H6 fun x7 H8=>bnd (stA 16 H8 y6 x7) fun H9=>bnd (ldA true 16 H9 y6) fun r10=>K r10 H9)):aX.L0 σ K y0 y1 y2 y6 y7 y10 y11 H :=
 fun j=>lrd (g:=3271) (Eq.mpr (by kernel_rfl) h)
theorem aX.run {a0 a1 a2:AV} (h:a8 (List.replicate 16 (I 0)) H fun x1 H2=>bnd (aY a2) fun x3=>aX.L0 σ K a0 a1 a2 x1 (.lit (.slice none 0 0)) x3 (I 0) H2):∃ r H1,ar Tryz.prog σ cY [a0,a1,a2] H r H1∧K r H1 :=
 gwp 3271 (fn:=Tryz.f12) (f:=cY) (c:=aX.code) (by kernel_rfl) (by kernel_rfl) (Eq.mpr (by kernel_rfl) h)
noncomputable def dW.code:Code:=aH Tryz.f14
noncomputable def dW.L0 (σ:Sig) (K:AV→Hp→Prop) (y4 y13 y14 y15:AV) (H:Hp):Prop:=∀ j:Nat→AV,aZ (CZ σ) (lB (bB (sR (sL (sR (sR (sR dW.code))))))) ([j 0,j 1,j 2,j 3,y4,j 5,j 6,j 7,j 8,j 9,j 10,j 11,j 12,y13,y14,y15]++jr j 16 11) H (fun e T G=>(nx (fQ Tryz.f14 σ K) fun T G=>wp (CZ σ) 57360 (sR (sR (sR (sR dW.code)))) T G (fQ Tryz.f14 σ K)) (au 0 e) T G)
theorem dW.L0_step {y4 y13 y14 y15:AV} (h:bnd (am .lss y15 y14) fun x1=>ifB x1 (bnd (aV 5 y13 y15) fun x2=>bnd (ldA true 5 H x2) fun x3=>a8 [I 0,.lit (.string ⟨#[]⟩),.lit (.string ⟨#[]⟩),.lit (.slice none 0 0),.lit (.slice none 0 0)] H fun x4 H5=>bnd (stA 5 H5 x4 x3) fun H6=>bnd (ldA true 5 H6 x4) fun x7=>az Tryz.prog σ eH [y4,x7] H6 fun x8 H9=>bnd (am .neq x8 (I 0)) fun x10=>ifB x10 (K (.tup [(.lit (.pointer none)),x8]) H9) (bnd (am .add y15 (I 1)) fun x11=>dW.L0 σ K y4 y13 y14 x11 H9)) (K (.tup [y4,(I 0)]) H)):dW.L0 σ K y4 y13 y14 y15 H :=
 fun j=>lrd (g:=57360) (Eq.mpr (by kernel_rfl) h)
theorem dW.run {a0:AV} (h:bnd (aY a0) fun x1=>bnd (am .gtr x1 (I 4096)) fun x2=>ifB x2 (K (.tup [(.lit (.pointer none)),(I 3)]) H) (bnd (dv [.lit (.slice none 0 0)] []) fun l3=>cL (.agg l3) H fun x4 H5=>bnd (aY a0) fun x6=>dW.L0 σ K x4 a0 x6 (I 0) H5)):∃ r H1,ar Tryz.prog σ fP [a0] H r H1∧K r H1 :=
 gwp 57360 (fn:=Tryz.f14) (f:=fP) (c:=dW.code) (by kernel_rfl) (by kernel_rfl) (Eq.mpr (by kernel_rfl) h)
noncomputable def aQ.code:Code:=aH Tryz.f23
noncomputable def aQ.Q0 (σ:Sig) (K:AV→Hp→Prop):Exit→List AV→Hp→Prop:=(nx (fQ Tryz.f23 σ K) fun T G=>wp (CZ σ) 56 (sR (sR (sR (sR (sR aQ.code))))) T G (fQ Tryz.f23 σ K))
noncomputable def aQ.L0 (σ:Sig) (K:AV→Hp→Prop) (y3 y4 y5:AV) (H:Hp):Prop:=∀ j:Nat→AV,aZ (CZ σ) (lB (bB (sR (sL (sR (sR (sR (sR aQ.code)))))))) ([j 0,j 1,j 2,y3,y4,y5]++jr j 6 38) H (fun e T G=>(aQ.Q0 σ K) (au 0 e) T G)
noncomputable def aQ.J1 (σ:Sig) (K:AV→Hp→Prop) (y3 y4 y5:AV) (H:Hp):Prop:=∀ j:Nat→AV,wp (CZ σ) 56 (sR (sR (lB (bB (sR (sL (sR (sR (sR (sR aQ.code)))))))))) ([j 0,j 1,j 2,y3,y4,y5]++jr j 6 38) H (nx (fun e T G=>(aQ.Q0 σ K) (au 0 e) T G) fun T G=>∀ j,aZ (CZ σ) (lB (bB (sR (sL (sR (sR (sR (sR aQ.code)))))))) (dx 56 j 0 T) G (fun e T G=>(aQ.Q0 σ K) (au 0 e) T G))
theorem aQ.L0_step {y3 y4 y5:AV} (h:bnd (aY y3) fun x1=>bnd (am .lss y5 x1) fun x2=>ifB x2 (bnd (aV 2 y3 y5) fun x3=>bnd (aj x3 0) fun x4=>bnd (ldA false 1 H x4) fun x5=>az Tryz.prog σ hO [x5] H fun x6 H7=>bnd (exR x6 0) fun x8=>bnd (exR x6 1) fun x9=>ifB x9 (bnd (aV 2 y3 y5) fun x10=>bnd (aj x10 1) fun x11=>bnd (ldA false 1 H7 x11) fun x12=>az Tryz.prog σ iB [x12] H7 fun x13 H14=>az Tryz.prog σ i_ [x13] H14 fun x15 H16=>bnd (dv [.lit (.slice none 0 0),.lit (.slice none 0 0)] [(0,1,x8),(1,1,x15)]) fun l17=>bnd (bC [.slice none 0 0,.slice none 0 0] 2 1 H16 [(0,2,(.agg l17))]) fun p18=>bnd (gm false 2 48 p18.2 y4 p18.1) fun p19=>aQ.J1 σ K y3 p19.1 y5 p19.2) (aQ.J1 σ K y3 y4 y5 H7)) (K y4 H)):aQ.L0 σ K y3 y4 y5 H :=
 fun j=>lrd (g:=56) (Eq.mpr (by kernel_rfl) h)
theorem aQ.J1_step {y3 y4 y5:AV} (h:bnd (am .add y5 (I 1)) fun x1=>aQ.L0 σ K y3 y4 x1 H):aQ.J1 σ K y3 y4 y5 H :=
 fun j=>Eq.mpr (by kernel_rfl) h
theorem aQ.run {a0:AV} (h:bnd (aY a0) fun x1=>bnd (am .gtr x1 (I 65536)) fun x2=>ifB x2 (K (.lit (.slice none 0 0)) H) (az Tryz.prog σ i7 [a0] H fun x3 H4=>az Tryz.prog σ jM [x3] H4 fun x5 H6=>az Tryz.prog σ kG [x5] H6 fun x7 H8=>aQ.L0 σ K x7 (.lit (.slice none 0 0)) (I 0) H8)):∃ r H1,ar Tryz.prog σ eN [a0] H r H1∧K r H1 :=
 gwp 56 (fn:=Tryz.f23) (f:=eN) (c:=aQ.code) (by kernel_rfl) (by kernel_rfl) (Eq.mpr (by kernel_rfl) h)
noncomputable def aw.code:Code:=aH Tryz.f27
noncomputable def aw.R0 (j:Nat→AV) (y3 y4 y5:AV):jP:=⟨([j 0,j 1,j 2,y3,y4,y5]++jr j 6 35),rP (bB (sR (sL (sR (sR (sR (sR aw.code))))))),rA (bB (sR (sL (sR (sR (sR (sR aw.code))))))),rB (bB (sR (sL (sR (sR (sR (sR aw.code)))))))⟩
theorem aw.R0_round {j:Nat→AV} {y3 y4 y5 p0:AV} {id:Nat} (hl:H.get id=some (.loop (aw.R0 j y3 y4 y5) .ready none)) (h:a8 [I 0,I 0,I 0,Bo false,I 0] H fun x1 H2=>bnd (stA 5 H2 x1 p0) fun H3=>H3.get id=some (.loop (aw.R0 j y3 y4 y5) .ready none)∧(bnd (some (H3.set id (some (.loop (aw.R0 j y3 y4 y5) .busy none)))) fun H4=>bnd (aj x1 0) fun x5=>bnd (aj x5 0) fun x6=>bnd (ldA false 1 H4 x6) fun x7=>bnd (am .lss x7 (I 0)) fun x8=>ifB x8 (fE id (aw.R0 j y3 y4 y5) K .normal H4) (bnd (am .geq x7 (I 8)) fun x9=>ifB x9 (fE id (aw.R0 j y3 y4 y5) K .normal H4) (bnd (bS 8 1 y5 x7) fun x10=>bnd (ldA false 1 H4 x10) fun x11=>bnd (unR .not x11) fun x12=>ifB x12 (bnd (ldA true 5 H4 x1) fun x13=>bnd (bS 8 5 y4 x7) fun x14=>bnd (stA 5 H4 x14 x13) fun H15=>bnd (bS 8 1 y5 x7) fun x16=>bnd (stA 1 H15 x16 (Bo true)) fun H17=>bnd (aj x1 0) fun x18=>bnd (aj x18 1) fun x19=>bnd (ldA true 2 H17 x19) fun x20=>bnd (bS 8 2 y3 x7) fun x21=>bnd (stA 2 H17 x21 x20) fun H22=>fE id (aw.R0 j y3 y4 y5) K .normal H22) (bnd (ldA true 5 H4 x1) fun x23=>bnd (bS 8 5 y4 x7) fun x24=>bnd (ldA true 5 H4 x24) fun x25=>az Tryz.prog σ bZ [x23,x25] H4 fun x26 H27=>ifB x26 (bnd (ldA true 5 H27 x1) fun x28=>bnd (bS 8 5 y4 x7) fun x29=>bnd (stA 5 H27 x29 x28) fun H30=>bnd (bS 8 1 y5 x7) fun x31=>bnd (stA 1 H30 x31 (Bo true)) fun H32=>bnd (aj x1 0) fun x33=>bnd (aj x33 1) fun x34=>bnd (ldA true 2 H32 x34) fun x35=>bnd (bS 8 2 y3 x7) fun x36=>bnd (stA 2 H32 x36 x35) fun H37=>fE id (aw.R0 j y3 y4 y5) K .normal H37) (fE id (aw.R0 j y3 y4 y5) K .normal H27)))))):fp Tryz.prog σ (.yl id) [p0] H K :=
 md (CZ σ) mixed 56 hl (by kernel_rfl) (by kernel_rfl) (by kernel_rfl) (Eq.mpr (by kernel_rfl) h)
theorem aw.run {a0:AV} (h:a8 (List.replicate 16 (I 0)) H fun x1 H2=>a8 (List.replicate 16 (I 0)) H2 fun x3 H4=>a8 [I 0,I 0,I 0,Bo false,I 0,I 0,I 0,I 0,Bo false,I 0,I 0,I 0,I 0,Bo false,I 0,I 0,I 0,I 0,Bo false,I 0,I 0,I 0,I 0,Bo false,I 0,I 0,I 0,I 0,Bo false,I 0,I 0,I 0,I 0,Bo false,I 0,I 0,I 0,I 0,Bo false,I 0] H4 fun x5 H6=>a8 [Bo false,Bo false,Bo false,Bo false,Bo false,Bo false,Bo false,Bo false] H6 fun x7 H8=>∀ j:Nat→AV,mK Tryz.prog σ a0 (aw.R0 j x3 x5 x7) H8 (fun H9=>bnd (ldA true 16 H9 x3) fun x11=>bnd (stA 16 H9 x1 x11) fun H12=>bnd (ldA true 16 H12 x1) fun r13=>K r13 H12) (fun H9=>bnd (ldA true 16 H9 x1) fun r14=>K r14 H9) (fun i10 H9=>exB (Nat.beq i10 1) (False) (False))):∃ r H1,ar Tryz.prog σ dK [a0] H r H1∧K r H1 :=
 gwp 56 (fn:=Tryz.f27) (f:=dK) (c:=aw.code) (by kernel_rfl) (by kernel_rfl) (Eq.mpr (by kernel_rfl) h)
noncomputable def eo.code:Code:=aH Tryz.f28
theorem eo.run {a0 a1 a2 a3 a4:AV} (h:cL a0 H fun x1 H2=>cL a1 H2 fun x3 H4=>cL a2 H4 fun x5 H6=>cL a3 H6 fun x7 H8=>cL a4 H8 fun x9 H10=>K (.fn cA [x7,x5,x9,x1,x3]) H10):∃ r H1,ar Tryz.prog σ cV [a0,a1,a2,a3,a4] H r H1∧K r H1 :=
 gwp 0 (fn:=Tryz.f28) (f:=cV) (c:=eo.code) (by kernel_rfl) (by kernel_rfl) (Eq.mpr (by kernel_rfl) h)
noncomputable def eR.code:Code:=aH Tryz.f29
theorem eR.run {a0:AV} (h:cL a0 H fun x1 H2=>K (Bo true) H2):∃ r H1,ar Tryz.prog σ c_ [a0] H r H1∧K r H1 :=
 gwp 0 (fn:=Tryz.f29) (f:=c_) (c:=eR.code) (by kernel_rfl) (by kernel_rfl) (Eq.mpr (by kernel_rfl) h)
noncomputable def aA.code:Code:=aH Tryz.f31
noncomputable def aA.J0 (σ:Sig) (K:AV→Hp→Prop) (y0 y5 y6 y7:AV) (H:Hp):Prop:=∀ j:Nat→AV,wp (CZ σ) 225 (sR (sR (sR (cT (sR (cE (sR (bB (sL (sR (sR (sR aA.code)))))))))))) ([y0,j 1,j 2,j 3,j 4,y5,y6,y7]++jr j 8 90) H (fun e T G=>(nx (fQ Tryz.f31 σ K) fun T G=>∀ j,wp (CZ σ) 225 (sR (sR (sR (sR aA.code)))) (dx 225 j 0 T) G (fQ Tryz.f31 σ K)) (au 0 e) T G)
noncomputable def aA.J1 (σ:Sig) (K:AV→Hp→Prop) (y0 y5 y6 y7:AV) (H:Hp):Prop:=∀ j:Nat→AV,wp (CZ σ) 225 (sR (sR (sR (sR aA.code)))) ([y0,j 1,j 2,j 3,j 4,y5,y6,y7]++jr j 8 90) H (fQ Tryz.f31 σ K)
theorem aA.J0_step {y0 y5 y6 y7:AV} (h:bnd (bT y7) fun x1=>bnd (aj x1 5) fun x2=>bnd (ldA false 1 H x2) fun x3=>bnd (bC [.int .i64 0] 1 1 H [(0,1,y6)]) fun p4=>bnd (gm false 1 8 p4.2 x3 p4.1) fun p5=>bnd (bT y7) fun x6=>bnd (aj x6 5) fun x7=>bnd (stA 1 p5.2 x7 p5.1) fun H8=>aA.J1 σ K y0 y5 y6 y7 H8):aA.J0 σ K y0 y5 y6 y7 H :=
 fun j=>Eq.mpr (by kernel_rfl) h
theorem aA.J1_step {y0 y5 y6 y7:AV} (h:bnd (bT y0) fun x1=>bnd (aj x1 0) fun x2=>bnd (ldA false 1 H x2) fun x3=>bnd (ldA true 9 H y5) fun x4=>bnd (bC [.int .i64 0,.string ⟨#[]⟩,.string ⟨#[]⟩,.slice none 0 0,.slice none 0 0,.slice none 0 0,.int .i64 0,.int .i64 0,.int .i64 0] 9 1 H [(0,9,x4)]) fun p5=>kpK (x2,some 1) H p5.2 (bnd (gm false 9 136 p5.2 x3 p5.1) fun p6=>bnd (bT y0) fun x7=>bnd (aj x7 0) fun x8=>bnd (stA 1 p6.2 x8 p6.1) fun H9=>K (I 0) H9)):aA.J1 σ K y0 y5 y6 y7 H :=
 fun j=>Eq.mpr (by kernel_rfl) h
theorem aA.run {a0 a1:AV} (h:cL a1 H fun x1 H2=>bnd (ldA true 5 H2 x1) fun x3=>az Tryz.prog σ eh [x3] H2 fun x4 H5=>bnd (dv [I 0,.lit (.string ⟨#[]⟩),.lit (.string ⟨#[]⟩),.lit (.slice none 0 0),.lit (.slice none 0 0),.lit (.slice none 0 0),I 0,I 0,I 0] [(0,5,x4),(7,1,(I 1)),(8,1,(I (-1)))]) fun l6=>a8 [I 0,.lit (.string ⟨#[]⟩),.lit (.string ⟨#[]⟩),.lit (.slice none 0 0),.lit (.slice none 0 0),.lit (.slice none 0 0),I 0,I 0,I 0] H5 fun x7 H8=>bnd (stA 9 H8 x7 (.agg l6)) fun H9=>bnd (bT a0) fun x10=>bnd (aj x10 0) fun x11=>bnd (ldA false 1 H9 x11) fun x12=>bnd (aY x12) fun x13=>bnd (am .eql x13 (I 0)) fun x14=>ifB x14 (bnd (aj x1 0) fun x15=>bnd (ldA false 1 H9 x15) fun x16=>bnd (am .neq x16 (I (-1))) fun x17=>ifB x17 (K (I 10) H9) (bnd (am .gtr x13 (I 0)) fun x18=>ifB x18 (bnd (aj x1 0) fun x19=>bnd (ldA false 1 H9 x19) fun x20=>bnd (am .lss x20 (I 0)) fun x21=>ifB x21 (K (I 10) H9) (bnd (aj x1 0) fun x22=>bnd (ldA false 1 H9 x22) fun x23=>bnd (am .geq x23 x13) fun x24=>ifB x24 (K (I 10) H9) (bnd (am .gtr x13 (I 0)) fun x25=>ifB x25 (bnd (bT a0) fun x26=>bnd (aj x26 0) fun x27=>bnd (ldA false 1 H9 x27) fun x28=>bnd (aj x1 0) fun x29=>bnd (ldA false 1 H9 x29) fun x30=>bnd (aV 9 x28 x30) fun x31=>bnd (bT x31) fun x32=>bnd (aj x32 6) fun x33=>bnd (ldA false 1 H9 x33) fun x34=>bnd (am .add x34 (I 1)) fun x35=>bnd (aj x7 6) fun x36=>bnd (stA 1 H9 x36 x35) fun H37=>bnd (aj x7 6) fun x38=>bnd (ldA false 1 H37 x38) fun x39=>bnd (am .gtr x39 (I 256)) fun x40=>ifB x40 (K (I 11) H37) (bnd (bT x31) fun x41=>bnd (aj x41 5) fun x42=>bnd (ldA false 1 H37 x42) fun x43=>bnd (aY x43) fun x44=>bnd (am .gtr x44 (I 0)) fun x45=>ifB x45 (bnd (am .add x44 (I 1)) fun x46=>bnd (bT x31) fun x47=>bnd (aj x47 5) fun x48=>bnd (ldA false 1 H37 x48) fun x49=>bnd (am .sub x44 (I 1)) fun x50=>bnd (aV 1 x49 x50) fun x51=>bnd (ldA false 1 H37 x51) fun x52=>bnd (aj x7 7) fun x53=>bnd (stA 1 H37 x53 x46) fun H54=>kpK (x51,some 1) H37 H54 (kpK (x48,some 1) H37 H54 (bnd (aj x7 8) fun x55=>bnd (stA 1 H54 x55 x52) fun H56=>aA.J0 σ K a0 x7 x13 x31 H56))) (aA.J0 σ K a0 x7 x13 x31 H37))) (aA.J1 σ K a0 x7 x13 (.lit undef) H9)))) (bnd (am .gtr x13 (I 0)) fun x57=>ifB x57 (bnd (bT a0) fun x58=>bnd (aj x58 0) fun x59=>bnd (ldA false 1 H9 x59) fun x60=>bnd (aj x1 0) fun x61=>bnd (ldA false 1 H9 x61) fun x62=>bnd (aV 9 x60 x62) fun x63=>bnd (bT x63) fun x64=>bnd (aj x64 6) fun x65=>bnd (ldA false 1 H9 x65) fun x66=>bnd (am .add x66 (I 1)) fun x67=>bnd (aj x7 6) fun x68=>bnd (stA 1 H9 x68 x67) fun H69=>bnd (aj x7 6) fun x70=>bnd (ldA false 1 H69 x70) fun x71=>bnd (am .gtr x71 (I 256)) fun x72=>ifB x72 (K (I 11) H69) (bnd (bT x63) fun x73=>bnd (aj x73 5) fun x74=>bnd (ldA false 1 H69 x74) fun x75=>bnd (aY x75) fun x76=>bnd (am .gtr x76 (I 0)) fun x77=>ifB x77 (bnd (am .add x76 (I 1)) fun x78=>bnd (bT x63) fun x79=>bnd (aj x79 5) fun x80=>bnd (ldA false 1 H69 x80) fun x81=>bnd (am .sub x76 (I 1)) fun x82=>bnd (aV 1 x81 x82) fun x83=>bnd (ldA false 1 H69 x83) fun x84=>bnd (aj x7 7) fun x85=>bnd (stA 1 H69 x85 x78) fun H86=>kpK (x83,some 1) H69 H86 (kpK (x80,some 1) H69 H86 (bnd (aj x7 8) fun x87=>bnd (stA 1 H86 x87 x84) fun H88=>aA.J0 σ K a0 x7 x13 x63 H88))) (aA.J0 σ K a0 x7 x13 x63 H69))) (aA.J1 σ K a0 x7 x13 (.lit undef) H9)))) (bnd (am .gtr x13 (I 0)) fun x89=>ifB x89 (bnd (aj x1 0) fun x90=>bnd (ldA false 1 H9 x90) fun x91=>bnd (am .lss x91 (I 0)) fun x92=>ifB x92 (K (I 10) H9) (bnd (aj x1 0) fun x93=>bnd (ldA false 1 H9 x93) fun x94=>bnd (am .geq x94 x13) fun x95=>ifB x95 (K (I 10) H9) (bnd (am .gtr x13 (I 0)) fun x96=>ifB x96 (bnd (bT a0) fun x97=>bnd (aj x97 0) fun x98=>bnd (ldA false 1 H9 x98) fun x99=>bnd (aj x1 0) fun x100=>bnd (ldA false 1 H9 x100) fun x101=>bnd (aV 9 x99 x101) fun x102=>bnd (bT x102) fun x103=>bnd (aj x103 6) fun x104=>bnd (ldA false 1 H9 x104) fun x105=>bnd (am .add x105 (I 1)) fun x106=>bnd (aj x7 6) fun x107=>bnd (stA 1 H9 x107 x106) fun H108=>bnd (aj x7 6) fun x109=>bnd (ldA false 1 H108 x109) fun x110=>bnd (am .gtr x110 (I 256)) fun x111=>ifB x111 (K (I 11) H108) (bnd (bT x102) fun x112=>bnd (aj x112 5) fun x113=>bnd (ldA false 1 H108 x113) fun x114=>bnd (aY x114) fun x115=>bnd (am .gtr x115 (I 0)) fun x116=>ifB x116 (bnd (am .add x115 (I 1)) fun x117=>bnd (bT x102) fun x118=>bnd (aj x118 5) fun x119=>bnd (ldA false 1 H108 x119) fun x120=>bnd (am .sub x115 (I 1)) fun x121=>bnd (aV 1 x120 x121) fun x122=>bnd (ldA false 1 H108 x122) fun x123=>bnd (aj x7 7) fun x124=>bnd (stA 1 H108 x124 x117) fun H125=>kpK (x122,some 1) H108 H125 (kpK (x119,some 1) H108 H125 (bnd (aj x7 8) fun x126=>bnd (stA 1 H125 x126 x123) fun H127=>aA.J0 σ K a0 x7 x13 x102 H127))) (aA.J0 σ K a0 x7 x13 x102 H108))) (aA.J1 σ K a0 x7 x13 (.lit undef) H9)))) (bnd (am .gtr x13 (I 0)) fun x128=>ifB x128 (bnd (bT a0) fun x129=>bnd (aj x129 0) fun x130=>bnd (ldA false 1 H9 x130) fun x131=>bnd (aj x1 0) fun x132=>bnd (ldA false 1 H9 x132) fun x133=>bnd (aV 9 x131 x133) fun x134=>bnd (bT x134) fun x135=>bnd (aj x135 6) fun x136=>bnd (ldA false 1 H9 x136) fun x137=>bnd (am .add x137 (I 1)) fun x138=>bnd (aj x7 6) fun x139=>bnd (stA 1 H9 x139 x138) fun H140=>bnd (aj x7 6) fun x141=>bnd (ldA false 1 H140 x141) fun x142=>bnd (am .gtr x142 (I 256)) fun x143=>ifB x143 (K (I 11) H140) (bnd (bT x134) fun x144=>bnd (aj x144 5) fun x145=>bnd (ldA false 1 H140 x145) fun x146=>bnd (aY x146) fun x147=>bnd (am .gtr x147 (I 0)) fun x148=>ifB x148 (bnd (am .add x147 (I 1)) fun x149=>bnd (bT x134) fun x150=>bnd (aj x150 5) fun x151=>bnd (ldA false 1 H140 x151) fun x152=>bnd (am .sub x147 (I 1)) fun x153=>bnd (aV 1 x152 x153) fun x154=>bnd (ldA false 1 H140 x154) fun x155=>bnd (aj x7 7) fun x156=>bnd (stA 1 H140 x156 x149) fun H157=>kpK (x154,some 1) H140 H157 (kpK (x151,some 1) H140 H157 (bnd (aj x7 8) fun x158=>bnd (stA 1 H157 x158 x155) fun H159=>aA.J0 σ K a0 x7 x13 x134 H159))) (aA.J0 σ K a0 x7 x13 x134 H140))) (aA.J1 σ K a0 x7 x13 (.lit undef) H9)))):∃ r H1,ar Tryz.prog σ eH [a0,a1] H r H1∧K r H1 :=
 gwp 225 (fn:=Tryz.f31) (f:=eH) (c:=aA.code) (by kernel_rfl) (by kernel_rfl) (Eq.mpr (by kernel_rfl) h)
noncomputable def dj.code:Code:=aH Tryz.f52
theorem dj.run {a0 a1:AV} (h:cL a0 H fun x1 H2=>cL a1 H2 fun x3 H4=>bnd (aj x1 0) fun x5=>bnd (aj x5 3) fun x6=>bnd (ldA false 1 H4 x6) fun x7=>bnd (aj x3 0) fun x8=>bnd (aj x8 3) fun x9=>bnd (ldA false 1 H4 x9) fun x10=>bnd (gN .neq x7 x10) fun x11=>ifB x11 (bnd (aj x1 0) fun x12=>bnd (aj x12 3) fun x13=>bnd (ldA false 1 H4 x13) fun x14=>K x14 H4) (bnd (aj x1 4) fun x15=>bnd (ldA false 1 H4 x15) fun x16=>bnd (aj x3 4) fun x17=>bnd (ldA false 1 H4 x17) fun x18=>bnd (am .geq x16 x18) fun x19=>K x19 H4)):∃ r H1,ar Tryz.prog σ bZ [a0,a1] H r H1∧K r H1 :=
 gwp 0 (fn:=Tryz.f52) (f:=bZ) (c:=dj.code) (by kernel_rfl) (by kernel_rfl) (Eq.mpr (by kernel_rfl) h)
noncomputable def aa.code:Code:=aH Tryz.f53
noncomputable def aa.Q0 (σ:Sig) (K:AV→Hp→Prop):Exit→List AV→Hp→Prop:=(nx (fun e T G=>(fQ Tryz.f53 σ K) (au 0 e) T G) fun T G=>∀ j,aZ (CZ σ) (lB (bB (sR aa.code))) (dx 4035225386383520573 j 0 T) G (fun e T G=>(fQ Tryz.f53 σ K) (au 0 e) T G))
noncomputable def aa.Q1 (σ:Sig) (K:AV→Hp→Prop):Exit→List AV→Hp→Prop:=(nx (aa.Q0 σ K) fun T G=>∀ j,wp (CZ σ) 4035225386383520573 (sR (sR (sR (lB (bB (sR aa.code)))))) (dx 4035225386383520573 j 0 T) G (aa.Q0 σ K))
noncomputable def aa.Q2 (σ:Sig) (K:AV→Hp→Prop):Exit→List AV→Hp→Prop:=(nx (fun e T G=>(aa.Q1 σ K) (au 1 e) T G) fun T G=>wp (CZ σ) 4035225386383520573 (sR (sR (sR (sR (bB (sL (sR (sR (lB (bB (sR aa.code))))))))))) T G (fun e T G=>(aa.Q1 σ K) (au 1 e) T G))
noncomputable def aa.L0 (σ:Sig) (K:AV→Hp→Prop) (y0 y2 y3 y4 y5 y8 y9 y12 y13 y16 y17 y18 y34 y35 y36 y59 y60 y61:AV) (H:Hp):Prop:=∀ j:Nat→AV,aZ (CZ σ) (lB (bB (sR aa.code))) ([y0,j 1,y2,y3,y4,y5,j 6,j 7,y8,y9,j 10,j 11,y12,y13,j 14,j 15,y16,y17,y18,j 19,j 20,j 21,j 22,j 23,j 24,j 25,j 26,j 27,j 28,j 29,j 30,j 31,j 32,j 33,y34,y35,y36,j 37,j 38,j 39,j 40,j 41,j 42,j 43,j 44,j 45,j 46,j 47,j 48,j 49,j 50,j 51,j 52,j 53,j 54,j 55,j 56,j 57,j 58,y59,y60,y61]++jr j 62 14) H (fun e T G=>(fQ Tryz.f53 σ K) (au 0 e) T G)
noncomputable def aa.J1 (σ:Sig) (K:AV→Hp→Prop) (y0 y2 y3 y4 y5 y8 y9 y12 y13 y16 y17 y18 y34 y35 y36 y59 y60 y61:AV) (H:Hp):Prop:=∀ j:Nat→AV,wp (CZ σ) 4035225386383520573 (sR (sR (sR (lB (bB (sR aa.code)))))) ([y0,j 1,y2,y3,y4,y5,j 6,j 7,y8,y9,j 10,j 11,y12,y13,j 14,j 15,y16,y17,y18,j 19,j 20,j 21,j 22,j 23,j 24,j 25,j 26,j 27,j 28,j 29,j 30,j 31,j 32,j 33,y34,y35,y36,j 37,j 38,j 39,j 40,j 41,j 42,j 43,j 44,j 45,j 46,j 47,j 48,j 49,j 50,j 51,j 52,j 53,j 54,j 55,j 56,j 57,j 58,y59,y60,y61]++jr j 62 14) H (aa.Q0 σ K)
noncomputable def aa.L2 (σ:Sig) (K:AV→Hp→Prop) (y0 y2 y3 y4 y5 y8 y9 y12 y13 y16 y17 y18 y34 y35 y36 y59 y60 y61:AV) (H:Hp):Prop:=∀ j:Nat→AV,aZ (CZ σ) (lB (bB (sR (sL (sR (sR (sR (bB (sL (sR (sR (lB (bB (sR aa.code)))))))))))))) ([y0,j 1,y2,y3,y4,y5,j 6,j 7,y8,y9,j 10,j 11,y12,y13,j 14,j 15,y16,y17,y18,j 19,j 20,j 21,j 22,j 23,j 24,j 25,j 26,j 27,j 28,j 29,j 30,j 31,j 32,j 33,y34,y35,y36,j 37,j 38,j 39,j 40,j 41,j 42,j 43,j 44,j 45,j 46,j 47,j 48,j 49,j 50,j 51,j 52,j 53,j 54,j 55,j 56,j 57,j 58,y59,y60,y61]++jr j 62 14) H (fun e T G=>(aa.Q2 σ K) (au 2 e) T G)
noncomputable def aa.J3 (σ:Sig) (K:AV→Hp→Prop) (y0 y2 y3 y4 y5 y8 y9 y12 y13 y16 y17 y18 y34 y35 y36 y59 y60 y61:AV) (H:Hp):Prop:=∀ j:Nat→AV,wp (CZ σ) 4035225386383520573 (sR (sR (sR (lB (bB (sR (sL (sR (sR (sR (bB (sL (sR (sR (lB (bB (sR aa.code))))))))))))))))) ([y0,j 1,y2,y3,y4,y5,j 6,j 7,y8,y9,j 10,j 11,y12,y13,j 14,j 15,y16,y17,y18,j 19,j 20,j 21,j 22,j 23,j 24,j 25,j 26,j 27,j 28,j 29,j 30,j 31,j 32,j 33,y34,y35,y36,j 37,j 38,j 39,j 40,j 41,j 42,j 43,j 44,j 45,j 46,j 47,j 48,j 49,j 50,j 51,j 52,j 53,j 54,j 55,j 56,j 57,j 58,y59,y60,y61]++jr j 62 14) H (nx (fun e T G=>(aa.Q2 σ K) (au 2 e) T G) fun T G=>∀ j,aZ (CZ σ) (lB (bB (sR (sL (sR (sR (sR (bB (sL (sR (sR (lB (bB (sR aa.code)))))))))))))) (dx 4035225386383520573 j 0 T) G (fun e T G=>(aa.Q2 σ K) (au 2 e) T G))
noncomputable def aa.L4 (σ:Sig) (K:AV→Hp→Prop) (y0 y2 y3 y4 y5 y8 y9 y12 y13 y16 y17 y18 y34 y35 y36 y59 y60 y61:AV) (H:Hp):Prop:=∀ j:Nat→AV,aZ (CZ σ) (lB (bB (sR (sR (sR (sR (sR (sR (bB (sL (sR (sR (lB (bB (sR aa.code))))))))))))))) ([y0,j 1,y2,y3,y4,y5,j 6,j 7,y8,y9,j 10,j 11,y12,y13,j 14,j 15,y16,y17,y18,j 19,j 20,j 21,j 22,j 23,j 24,j 25,j 26,j 27,j 28,j 29,j 30,j 31,j 32,j 33,y34,y35,y36,j 37,j 38,j 39,j 40,j 41,j 42,j 43,j 44,j 45,j 46,j 47,j 48,j 49,j 50,j 51,j 52,j 53,j 54,j 55,j 56,j 57,j 58,y59,y60,y61]++jr j 62 14) H (fun e T G=>(fun e T G=>(aa.Q1 σ K) (au 1 e) T G) (au 4 e) T G)
theorem aa.L0_step {y0 y2 y3 y4 y5 y8 y9 y12 y13 y16 y17 y18 y34 y35 y36 y59 y60 y61:AV} (h:bnd (am .lss y18 y17) fun x1=>ifB x1 (bnd (aV 1 y16 y18) fun x2=>bnd (ldA false 1 H x2) fun x3=>bnd (am .lss x3 (I 0)) fun x4=>ifB x4 (aa.J1 σ K y0 y2 y3 y4 y5 x3 y9 y12 y13 y16 y17 y18 y34 y35 y36 y59 y60 y61 H) (bnd (ldA false 1 H y2) fun x5=>bnd (aY x5) fun x6=>bnd (am .geq x3 x6) fun x7=>ifB x7 (aa.J1 σ K y0 y2 y3 y4 y5 x3 y9 y12 y13 y16 y17 y18 y34 y35 y36 y59 y60 y61 H) (bnd (ldA false 1 H y2) fun x8=>bnd (aV 2 x8 x3) fun x9=>bnd (aj x9 0) fun x10=>bnd (ldA false 1 H x10) fun x11=>bnd (aY x11) fun x12=>aa.L2 σ K y0 y2 y3 y4 y5 x3 (.lit (.slice none 0 0)) y12 y13 y16 y17 y18 x11 x12 (I 0) y59 y60 y61 H))) (K (.tup []) H)):aa.L0 σ K y0 y2 y3 y4 y5 y8 y9 y12 y13 y16 y17 y18 y34 y35 y36 y59 y60 y61 H :=
 fun j=>lrd (g:=4035225386383520573) (Eq.mpr (by kernel_rfl) h)
theorem aa.J1_step {y0 y2 y3 y4 y5 y8 y9 y12 y13 y16 y17 y18 y34 y35 y36 y59 y60 y61:AV} (h:bnd (am .add y18 (I 1)) fun x1=>aa.L0 σ K y0 y2 y3 y4 y5 y8 y9 y12 y13 y16 y17 x1 y34 y35 y36 y59 y60 y61 H):aa.J1 σ K y0 y2 y3 y4 y5 y8 y9 y12 y13 y16 y17 y18 y34 y35 y36 y59 y60 y61 H :=
 fun j=>Eq.mpr (by kernel_rfl) h
theorem aa.L2_step {y0 y2 y3 y4 y5 y8 y9 y12 y13 y16 y17 y18 y34 y35 y36 y59 y60 y61:AV} (h:bnd (am .lss y36 y35) fun x1=>ifB x1 (bnd (aV 1 y34 y36) fun x2=>bnd (ldA true 1 H x2) fun x3=>a8 [.lit (.slice none 0 0)] H fun x4 H5=>bnd (stA 1 H5 x4 x3) fun H6=>bnd (ldA false 1 H6 y3) fun x7=>bnd (ldA true 1 H6 x4) fun x8=>fp Tryz.prog σ x7 [x8] H6 fun x9 H10=>ifB x9 (bnd (ldA true 1 H10 x4) fun x11=>bnd (bC [.slice none 0 0] 1 1 H10 [(0,1,x11)]) fun p12=>bnd (gm false 1 24 p12.2 y9 p12.1) fun p13=>aa.J3 σ K y0 y2 y3 y4 y5 y8 p13.1 y12 y13 y16 y17 y18 y34 y35 y36 y59 y60 y61 p13.2) (aa.J3 σ K y0 y2 y3 y4 y5 y8 y9 y12 y13 y16 y17 y18 y34 y35 y36 y59 y60 y61 H10)) (bnd (ldA false 1 H y4) fun x14=>bnd (ldA false 1 H y5) fun x15=>az Tryz.prog σ fK [x14,x15,y9] H fun x16 H17=>bnd (exR x16 0) fun x18=>bnd (exR x16 1) fun x19=>bnd (ldA false 1 H17 y2) fun x20=>bnd (aV 2 x20 y8) fun x21=>bnd (aj x21 1) fun x22=>bnd (ldA false 1 H17 x22) fun x23=>bnd (aY x23) fun x24=>aa.L4 σ K y0 y2 y3 y4 y5 y8 y9 x18 x19 y16 y17 y18 y34 y35 y36 x23 x24 (I 0) H17)):aa.L2 σ K y0 y2 y3 y4 y5 y8 y9 y12 y13 y16 y17 y18 y34 y35 y36 y59 y60 y61 H :=
 fun j=>lrd (g:=4035225386383520573) (Eq.mpr (by kernel_rfl) h)
theorem aa.J3_step {y0 y2 y3 y4 y5 y8 y9 y12 y13 y16 y17 y18 y34 y35 y36 y59 y60 y61:AV} (h:bnd (am .add y36 (I 1)) fun x1=>aa.L2 σ K y0 y2 y3 y4 y5 y8 y9 y12 y13 y16 y17 y18 y34 y35 x1 y59 y60 y61 H):aa.J3 σ K y0 y2 y3 y4 y5 y8 y9 y12 y13 y16 y17 y18 y34 y35 y36 y59 y60 y61 H :=
 fun j=>Eq.mpr (by kernel_rfl) h
theorem aa.L4_step {y0 y2 y3 y4 y5 y8 y9 y12 y13 y16 y17 y18 y34 y35 y36 y59 y60 y61:AV} (h:bnd (am .lss y61 y60) fun x1=>ifB x1 (bnd (aV 4 y59 y61) fun x2=>bnd (ldA true 4 H x2) fun x3=>a8 [I 0,I 0,I 0,Bo false] H fun x4 H5=>bnd (stA 4 H5 x4 x3) fun H6=>ifB y13 (bnd (ldA true 4 H6 x4) fun x7=>bnd (dv [I 0,I 0,I 0,Bo false,I 0] [(0,4,x7),(4,1,y12)]) fun l8=>fp Tryz.prog σ y0 [(.agg l8)] H6 fun x9 H10=>bnd (unR .not x9) fun x11=>ifB x11 (K (.tup []) H10) (bnd (am .add y61 (I 1)) fun x12=>aa.L4 σ K y0 y2 y3 y4 y5 y8 y9 y12 y13 y16 y17 y18 y34 y35 y36 y59 y60 x12 H10)) (bnd (am .add y61 (I 1)) fun x13=>aa.L4 σ K y0 y2 y3 y4 y5 y8 y9 y12 y13 y16 y17 y18 y34 y35 y36 y59 y60 x13 H6)) (aa.J1 σ K y0 y2 y3 y4 y5 y8 y9 y12 y13 y16 y17 y18 y34 y35 y36 y59 y60 y61 H)):aa.L4 σ K y0 y2 y3 y4 y5 y8 y9 y12 y13 y16 y17 y18 y34 y35 y36 y59 y60 y61 H :=
 fun j=>lrd (g:=4035225386383520573) (Eq.mpr (by kernel_rfl) h)
theorem aa.run {a0 a1 a2 a3 a4 a5:AV} (h:bnd (ldA false 1 H a1) fun x1=>bnd (aY x1) fun x2=>aa.L0 σ K a0 a2 a3 a4 a5 (.lit undef) (.lit undef) (.lit undef) (.lit undef) x1 x2 (I 0) (.lit undef) (.lit undef) (.lit undef) (.lit undef) (.lit undef) (.lit undef) H):∃ r H1,ar Tryz.prog σ cA [a0,a1,a2,a3,a4,a5] H r H1∧K r H1 :=
 gwp 4035225386383520573 (fn:=Tryz.f53) (f:=cA) (c:=aa.code) (by kernel_rfl) (by kernel_rfl) (Eq.mpr (by kernel_rfl) h)
noncomputable def aL.code:Code:=aH Tryz.f54
noncomputable def aL.Q0 (σ:Sig) (K:AV→Hp→Prop):Exit→List AV→Hp→Prop:=(nx (fQ Tryz.f54 σ K) fun T G=>wp (CZ σ) 29443 (sR (sR (sR aL.code))) T G (fQ Tryz.f54 σ K))
noncomputable def aL.L0 (σ:Sig) (K:AV→Hp→Prop) (y0 y1 y8 y9 y12 y13 y14:AV) (H:Hp):Prop:=∀ j:Nat→AV,aZ (CZ σ) (lB (bB (sR (sL (sR (sR aL.code)))))) ([y0,y1,j 2,j 3,j 4,j 5,j 6,j 7,y8,y9,j 10,j 11,y12,y13,y14]++jr j 15 14) H (fun e T G=>(aL.Q0 σ K) (au 0 e) T G)
noncomputable def aL.J1 (σ:Sig) (K:AV→Hp→Prop) (y0 y1 y8 y9 y12 y13 y14:AV) (H:Hp):Prop:=∀ j:Nat→AV,wp (CZ σ) 29443 (sR (sR (sR (lB (bB (sR (sL (sR (sR aL.code))))))))) ([y0,y1,j 2,j 3,j 4,j 5,j 6,j 7,y8,y9,j 10,j 11,y12,y13,y14]++jr j 15 14) H (nx (fun e T G=>(aL.Q0 σ K) (au 0 e) T G) fun T G=>∀ j,aZ (CZ σ) (lB (bB (sR (sL (sR (sR aL.code)))))) (dx 29443 j 0 T) G (fun e T G=>(aL.Q0 σ K) (au 0 e) T G))
theorem aL.L0_step {y0 y1 y8 y9 y12 y13 y14:AV} (h:bnd (am .lss y14 y13) fun x1=>ifB x1 (bnd (aV 1 y12 y14) fun x2=>bnd (ldA true 1 H x2) fun x3=>a8 [.lit (.slice none 0 0)] H fun x4 H5=>bnd (stA 1 H5 x4 x3) fun H6=>bnd (ldA true 1 H6 x4) fun x7=>az Tryz.prog σ dZ [y0,y1,x7] H6 fun x8 H9=>ifB x8 (bnd (ldA true 1 H9 x4) fun x10=>az Tryz.prog σ iC [x10] H9 fun x11 H12=>bnd (pa [y8,x11]) fun x13=>aL.J1 σ K y0 y1 x13 (Bo true) y12 y13 y14 H12) (aL.J1 σ K y0 y1 y8 y9 y12 y13 y14 H9)) (K (.tup [y8,y9]) H)):aL.L0 σ K y0 y1 y8 y9 y12 y13 y14 H :=
 fun j=>lrd (g:=29443) (Eq.mpr (by kernel_rfl) h)
theorem aL.J1_step {y0 y1 y8 y9 y12 y13 y14:AV} (h:bnd (am .add y14 (I 1)) fun x1=>aL.L0 σ K y0 y1 y8 y9 y12 y13 x1 H):aL.J1 σ K y0 y1 y8 y9 y12 y13 y14 H :=
 fun j=>Eq.mpr (by kernel_rfl) h
theorem aL.run {a0 a1 a2:AV} (h:bnd (aY a2) fun x1=>aL.L0 σ K a0 a1 (I 0) (Bo false) a2 x1 (I 0) H):∃ r H1,ar Tryz.prog σ fK [a0,a1,a2] H r H1∧K r H1 :=
 gwp 29443 (fn:=Tryz.f54) (f:=fK) (c:=aL.code) (by kernel_rfl) (by kernel_rfl) (Eq.mpr (by kernel_rfl) h)
noncomputable def bM.code:Code:=aH Tryz.f56
noncomputable def bM.L0 (σ:Sig) (K:AV→Hp→Prop) (y1 y2 y12 y13:AV) (H:Hp):Prop:=∀ j:Nat→AV,aZ (CZ σ) (lB (bB (sR (sL (sR (sR (sR bM.code))))))) ([j 0,y1,y2,j 3,j 4,j 5,j 6,j 7,j 8,j 9,j 10,j 11,y12,y13]++jr j 14 16) H (fun e T G=>(nx (fQ Tryz.f56 σ K) fun T G=>wp (CZ σ) 12294 (sR (sR (sR (sR bM.code)))) T G (fQ Tryz.f56 σ K)) (au 0 e) T G)
theorem bM.L0_step {y1 y2 y12 y13:AV} (h:bnd (am .lss y13 y12) fun x1=>ifB x1 (bnd (aj y1 4) fun x2=>bnd (ldA false 1 H x2) fun x3=>bnd (aj y1 4) fun x4=>bnd (ldA false 1 H x4) fun x5=>bnd (aV 2 x5 y13) fun x6=>bnd (aj x6 0) fun x7=>bnd (ldA false 1 H x7) fun x8=>az Tryz.prog σ eJ [x8] H fun x9 H10=>kpK (x2,some 1) H H10 (bnd (aV 2 x3 y13) fun x11=>bnd (aj x11 0) fun x12=>bnd (stA 1 H10 x12 x9) fun H13=>bnd (am .add y13 (I 1)) fun x14=>bM.L0 σ K y1 y2 y12 x14 H13)) (bnd (ldA true 5 H y1) fun x15=>bnd (stA 5 H y2 x15) fun H16=>bnd (ldA true 5 H16 y2) fun r17=>K r17 H16)):bM.L0 σ K y1 y2 y12 y13 H :=
 fun j=>lrd (g:=12294) (Eq.mpr (by kernel_rfl) h)
theorem bM.run {a0:AV} (h:cL a0 H fun x1 H2=>a8 [I 0,.lit (.string ⟨#[]⟩),.lit (.string ⟨#[]⟩),.lit (.slice none 0 0),.lit (.slice none 0 0)] H2 fun x3 H4=>bnd (ldA true 5 H4 x1) fun x5=>az Tryz.prog σ fI [x5] H4 fun x6 H7=>bnd (stA 5 H7 x1 x6) fun H8=>bnd (aj x1 1) fun x9=>bnd (ldA false 1 H8 x9) fun x10=>az Tryz.prog σ eJ [x10] H8 fun x11 H12=>bnd (aj x1 1) fun x13=>bnd (stA 1 H12 x13 x11) fun H14=>bnd (aj x1 4) fun x15=>bnd (ldA false 1 H14 x15) fun x16=>bnd (aY x16) fun x17=>bM.L0 σ K x1 x3 x17 (I 0) H14):∃ r H1,ar Tryz.prog σ eh [a0] H r H1∧K r H1 :=
 gwp 12294 (fn:=Tryz.f56) (f:=eh) (c:=bM.code) (by kernel_rfl) (by kernel_rfl) (Eq.mpr (by kernel_rfl) h)
noncomputable def jU.code:Code:=aH Tryz.f77
theorem jU.run {a0:AV} (h:cL a0 H fun x1 H2=>a8 [I 0,.lit (.string ⟨#[]⟩),.lit (.string ⟨#[]⟩),.lit (.slice none 0 0),.lit (.slice none 0 0)] H2 fun x3 H4=>bnd (aj x1 3) fun x5=>bnd (ldA false 1 H4 x5) fun x6=>az Tryz.prog σ aK [x6] H4 fun x7 H8=>bnd (aj x1 4) fun x9=>kpK (x9,some 1) H4 H8 (bnd (ldA false 1 H8 x9) fun x10=>az Tryz.prog σ aR [x10] H8 fun x11 H12=>bnd (aj x1 3) fun x13=>bnd (stA 1 H12 x13 x7) fun H14=>bnd (aj x1 4) fun x15=>bnd (stA 1 H14 x15 x11) fun H16=>bnd (ldA true 5 H16 x1) fun x17=>bnd (stA 5 H16 x3 x17) fun H18=>bnd (ldA true 5 H18 x3) fun r19=>K r19 H18)):∃ r H1,ar Tryz.prog σ fI [a0] H r H1∧K r H1 :=
 gwp 0 (fn:=Tryz.f77) (f:=fI) (c:=jU.code) (by kernel_rfl) (by kernel_rfl) (Eq.mpr (by kernel_rfl) h)
noncomputable def i6.code:Code:=aH Tryz.f78
theorem i6.run {a0 a1:AV} (h:a8 [I 0,.lit (.string ⟨#[]⟩),.lit (.string ⟨#[]⟩),.lit (.slice none 0 0),.lit (.slice none 0 0),.lit (.slice none 0 0),I 0,I 0,I 0] H fun x1 H2=>bnd (am .lss a1 (I 0)) fun x3=>ifB x3 (bnd (dv [I 0,.lit (.string ⟨#[]⟩),.lit (.string ⟨#[]⟩),.lit (.slice none 0 0),.lit (.slice none 0 0)] []) fun l4=>bnd (dv [I 0,.lit (.string ⟨#[]⟩),.lit (.string ⟨#[]⟩),.lit (.slice none 0 0),.lit (.slice none 0 0),.lit (.slice none 0 0),I 0,I 0,I 0] [(0,5,(.agg l4)),(8,1,(I (-1)))]) fun l5=>bnd (stA 9 H2 x1 (.agg l5)) fun H6=>bnd (ldA true 9 H6 x1) fun r7=>K r7 H6) (bnd (bT a0) fun x8=>bnd (aj x8 0) fun x9=>bnd (ldA false 1 H2 x9) fun x10=>bnd (aY x10) fun x11=>bnd (am .geq a1 x11) fun x12=>ifB x12 (bnd (dv [I 0,.lit (.string ⟨#[]⟩),.lit (.string ⟨#[]⟩),.lit (.slice none 0 0),.lit (.slice none 0 0)] []) fun l13=>bnd (dv [I 0,.lit (.string ⟨#[]⟩),.lit (.string ⟨#[]⟩),.lit (.slice none 0 0),.lit (.slice none 0 0),.lit (.slice none 0 0),I 0,I 0,I 0] [(0,5,(.agg l13)),(8,1,(I (-1)))]) fun l14=>bnd (stA 9 H2 x1 (.agg l14)) fun H15=>bnd (ldA true 9 H15 x1) fun r16=>K r16 H15) (bnd (bT a0) fun x17=>bnd (aj x17 0) fun x18=>bnd (ldA false 1 H2 x18) fun x19=>bnd (aV 9 x19 a1) fun x20=>bnd (ldA true 9 H2 x20) fun x21=>bnd (stA 9 H2 x1 x21) fun H22=>bnd (ldA true 9 H22 x1) fun r23=>K r23 H22))):∃ r H1,ar Tryz.prog σ cC [a0,a1] H r H1∧K r H1 :=
 gwp 0 (fn:=Tryz.f78) (f:=cC) (c:=i6.code) (by kernel_rfl) (by kernel_rfl) (Eq.mpr (by kernel_rfl) h)
noncomputable def gp.code:Code:=aH Tryz.f86
theorem gp.run {a0 a1 a2:AV} (h:cL a2 H fun x1 H2=>bnd (ldA true 1 H2 x1) fun x3=>bnd (bC [.slice none 0 0] 1 1 H2 [(0,1,x3)]) fun p4=>az Tryz.prog σ gQ [a0,a1,p4.1] p4.2 fun x5 H6=>K x5 H6):∃ r H1,ar Tryz.prog σ dZ [a0,a1,a2] H r H1∧K r H1 :=
 gwp 0 (fn:=Tryz.f86) (f:=dZ) (c:=gp.code) (by kernel_rfl) (by kernel_rfl) (Eq.mpr (by kernel_rfl) h)
noncomputable def mQ.code:Code:=aH Tryz.f87
theorem mQ.run {a0:AV} (h:cL a0 H fun x1 H2=>bnd (ldA true 1 H2 x1) fun x3=>az Tryz.prog σ dC [x3,(I 8)] H2 fun x4 H5=>K x4 H5):∃ r H1,ar Tryz.prog σ iC [a0] H r H1∧K r H1 :=
 gwp 0 (fn:=Tryz.f87) (f:=iC) (c:=mQ.code) (by kernel_rfl) (by kernel_rfl) (Eq.mpr (by kernel_rfl) h)
noncomputable def aO.code:Code:=aH Tryz.f89
noncomputable def aO.Q0 (σ:Sig) (K:AV→Hp→Prop):Exit→List AV→Hp→Prop:=(nx (fQ Tryz.f89 σ K) fun T G=>wp (CZ σ) 1800 (sR (sR (sR aO.code))) T G (fQ Tryz.f89 σ K))
noncomputable def aO.L0 (σ:Sig) (K:AV→Hp→Prop) (y3 y8 y9 y10:AV) (H:Hp):Prop:=∀ j:Nat→AV,aZ (CZ σ) (lB (bB (sR (sL (sR (sR aO.code)))))) ([j 0,j 1,j 2,y3,j 4,j 5,j 6,j 7,y8,y9,y10]++jr j 11 19) H (fun e T G=>(aO.Q0 σ K) (au 0 e) T G)
noncomputable def aO.J1 (σ:Sig) (K:AV→Hp→Prop) (y3 y8 y9 y10:AV) (H:Hp):Prop:=∀ j:Nat→AV,wp (CZ σ) 1800 (sR (sR (sR (lB (bB (sR (sL (sR (sR aO.code))))))))) ([j 0,j 1,j 2,y3,j 4,j 5,j 6,j 7,y8,y9,y10]++jr j 11 19) H (nx (fun e T G=>(aO.Q0 σ K) (au 0 e) T G) fun T G=>∀ j,aZ (CZ σ) (lB (bB (sR (sL (sR (sR aO.code)))))) (dx 1800 j 0 T) G (fun e T G=>(aO.Q0 σ K) (au 0 e) T G))
theorem aO.L0_step {y3 y8 y9 y10:AV} (h:bnd (am .lss y10 y9) fun x1=>ifB x1 (bnd (aV 1 y8 y10) fun x2=>bnd (ldA false 1 H x2) fun x3=>bnd (am .geq x3 (.lit (.int .u8 65))) fun x4=>ifB x4 (bnd (am .leq x3 (.lit (.int .u8 90))) fun x5=>ifB x5 (bnd (am .add x3 (.lit (.int .u8 97))) fun x6=>bnd (am .sub x6 (.lit (.int .u8 65))) fun x7=>bnd (aV 1 y3 y10) fun x8=>bnd (stA 1 H x8 x7) fun H9=>aO.J1 σ K y3 y8 y9 y10 H9) (aO.J1 σ K y3 y8 y9 y10 H)) (aO.J1 σ K y3 y8 y9 y10 H)) (bnd (iq H y3) fun x10=>K x10 H)):aO.L0 σ K y3 y8 y9 y10 H :=
 fun j=>lrd (g:=1800) (Eq.mpr (by kernel_rfl) h)
theorem aO.J1_step {y3 y8 y9 y10:AV} (h:bnd (am .add y10 (I 1)) fun x1=>aO.L0 σ K y3 y8 y9 x1 H):aO.J1 σ K y3 y8 y9 y10 H :=
 fun j=>Eq.mpr (by kernel_rfl) h
theorem aO.run {a0:AV} (h:bnd (jA H a0) fun p1=>bnd (aY p1.1) fun x2=>aO.L0 σ K p1.1 p1.1 x2 (I 0) p1.2):∃ r H1,ar Tryz.prog σ eJ [a0] H r H1∧K r H1 :=
 gwp 1800 (fn:=Tryz.f89) (f:=eJ) (c:=aO.code) (by kernel_rfl) (by kernel_rfl) (Eq.mpr (by kernel_rfl) h)
noncomputable def bJ.code:Code:=aH Tryz.f106
theorem bJ.run {a0:AV} (h:bnd (mg .eql a0 (.lit (.slice none 0 0))) fun x1=>ifB x1 (K (.lit (.slice none 0 0)) H) (bnd (bC [.string ⟨#[]⟩] 1 0 H []) fun p2=>bnd (gm false 1 16 p2.2 p2.1 a0) fun p3=>K p3.1 p3.2)):∃ r H1,ar Tryz.prog σ aK [a0] H r H1∧K r H1 :=
 gwp 0 (fn:=Tryz.f106) (f:=aK) (c:=bJ.code) (by kernel_rfl) (by kernel_rfl) (Eq.mpr (by kernel_rfl) h)
noncomputable def bn.code:Code:=aH Tryz.f107
theorem bn.run {a0:AV} (h:bnd (mg .eql a0 (.lit (.slice none 0 0))) fun x1=>ifB x1 (K (.lit (.slice none 0 0)) H) (bnd (bC [.string ⟨#[]⟩,.string ⟨#[]⟩] 2 0 H []) fun p2=>bnd (gm false 2 32 p2.2 p2.1 a0) fun p3=>K p3.1 p3.2)):∃ r H1,ar Tryz.prog σ aR [a0] H r H1∧K r H1 :=
 gwp 0 (fn:=Tryz.f107) (f:=aR) (c:=bn.code) (by kernel_rfl) (by kernel_rfl) (Eq.mpr (by kernel_rfl) h)
noncomputable def ce.code:Code:=aH Tryz.f115
noncomputable def ce.L0 (σ:Sig) (K:AV→Hp→Prop) (y1 y2 y7 y17 y18:AV) (H:Hp):Prop:=∀ j:Nat→AV,aZ (CZ σ) (lB (bB (sR (sL (sR (sR (sR ce.code))))))) ([j 0,y1,y2,j 3,j 4,j 5,j 6,y7,j 8,j 9,j 10,j 11,j 12,j 13,j 14,j 15,j 16,y17,y18]++jr j 19 18) H (fun e T G=>(nx (fQ Tryz.f115 σ K) fun T G=>wp (CZ σ) 393350 (sR (sR (sR (sR ce.code)))) T G (fQ Tryz.f115 σ K)) (au 0 e) T G)
theorem ce.L0_step {y1 y2 y7 y17 y18:AV} (h:bnd (am .lss y18 y17) fun x1=>ifB x1 (bnd (am .add y18 (I 1)) fun x2=>bnd (D5 1 y2 (some y18) (some x2) none) fun x3=>az Tryz.prog σ dQ [x3,(I 8)] H fun x4 H5=>ifB x4 (az Tryz.prog σ ct [y7,x3] H5 fun x6 H7=>az Tryz.prog σ cu [y7,y1,x6] H7 fun x8 H9=>ifB x8 (K (Bo true) H9) (bnd (am .add y18 (I 1)) fun x10=>ce.L0 σ K y1 y2 y7 y17 x10 H9)) (bnd (am .add y18 (I 1)) fun x11=>ce.L0 σ K y1 y2 y7 y17 x11 H5)) (K (Bo false) H)):ce.L0 σ K y1 y2 y7 y17 y18 H :=
 fun j=>lrd (g:=393350) (Eq.mpr (by kernel_rfl) h)
theorem ce.run {a0 a1 a2:AV} (h:az Tryz.prog σ io [a0,a1] H fun x1 H2=>bnd (unR .not x1) fun x3=>ifB x3 (K (Bo false) H2) (az Tryz.prog σ gV [a0] H2 fun x4 H5=>bnd (aY a2) fun x6=>ce.L0 σ K a1 a2 x4 x6 (I 0) H5)):∃ r H1,ar Tryz.prog σ gQ [a0,a1,a2] H r H1∧K r H1 :=
 gwp 393350 (fn:=Tryz.f115) (f:=gQ) (c:=ce.code) (by kernel_rfl) (by kernel_rfl) (Eq.mpr (by kernel_rfl) h)
noncomputable def dk.code:Code:=aH Tryz.f116
noncomputable def dk.L0 (σ:Sig) (K:AV→Hp→Prop) (y1 y5 y9 y10 y11:AV) (H:Hp):Prop:=∀ j:Nat→AV,aZ (CZ σ) (lB (bB (sR (sL (sR (sR dk.code)))))) ([j 0,y1,j 2,j 3,j 4,y5,j 6,j 7,j 8,y9,y10,y11]++jr j 12 10) H (fun e T G=>(nx (fQ Tryz.f116 σ K) fun T G=>wp (CZ σ) 3618 (sR (sR (sR dk.code))) T G (fQ Tryz.f116 σ K)) (au 0 e) T G)
theorem dk.L0_step {y1 y5 y9 y10 y11:AV} (h:bnd (am .lss y11 y10) fun x1=>ifB x1 (bnd (aV 6 y9 y11) fun x2=>bnd (ldA true 6 H x2) fun x3=>a8 [I 0,.lit (.string ⟨#[]⟩),.lit (.slice none 0 0),.lit (.slice none 0 0),.lit (.slice none 0 0),.lit (.slice none 0 0)] H fun x4 H5=>bnd (stA 6 H5 x4 x3) fun H6=>bnd (aj x4 1) fun x7=>bnd (ldA true 5 H6 x7) fun x8=>az Tryz.prog σ b_ [y5,x8,y1] H6 fun x9 H10=>bnd (am .add y11 (I 1)) fun x11=>dk.L0 σ K y1 y5 y9 y10 x11 H10) (bnd (ldA true 3 H y5) fun x12=>az Tryz.prog σ db [x12] H fun x13 H14=>K x13 H14)):dk.L0 σ K y1 y5 y9 y10 y11 H :=
 fun j=>lrd (g:=3618) (Eq.mpr (by kernel_rfl) h)
theorem dk.run {a0 a1:AV} (h:cL a0 H fun x1 H2=>a8 [I 0,I 0,I 0] H2 fun x3 H4=>bnd (aj x1 0) fun x5=>bnd (ldA false 1 H4 x5) fun x6=>bnd (aY x6) fun x7=>dk.L0 σ K a1 x3 x6 x7 (I 0) H4):∃ r H1,ar Tryz.prog σ dC [a0,a1] H r H1∧K r H1 :=
 gwp 3618 (fn:=Tryz.f116) (f:=dC) (c:=dk.code) (by kernel_rfl) (by kernel_rfl) (Eq.mpr (by kernel_rfl) h)
end Go.Proofs.YthdcghnjndhecaaGreat.Ev
