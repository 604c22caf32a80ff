/- The walks, part 3: the evaluator, the functions, the laws. Conditions: none. -/
import Derived.Lib.Index
import Derived.Lib.Strings
import Derived.Test.YtegioimlblnajaaGreatProg
import Derived.Test.YtegioimlblnajaaGreatZ2
namespace Go.Proofs.YtegioimlblnajaaGreat.Ev
set_option linter.unusedVariables false
set_option linter.unusedSimpArgs false
structure At where
 name:ByteArray
 op:Int
 text:ByteArray
mutual
inductive Pt where
 | mk (comb:Int) (c:Cp)
inductive Cp where
 | mk (tag:ByteArray) (ids classes:List ByteArray) (attrs:List At) (pseudos:List Ps)
inductive Ps where
 | mk (kind a b:Int) (list:List (List Pt))
end
def Pt.comb:Pt→Int | .mk k _=>k
def Pt.c:Pt→Cp | .mk _ c=>c
def Cp.tag:Cp→ByteArray | .mk t _ _ _ _=>t
def Cp.ids:Cp→List ByteArray | .mk _ i _ _ _=>i
def Cp.classes:Cp→List ByteArray | .mk _ _ c _ _=>c
def Cp.attrs:Cp→List At | .mk _ _ _ a _=>a
def Cp.pseudos:Cp→List Ps | .mk _ _ _ _ p=>p
def Ps.kind:Ps→Int | .mk k _ _ _=>k
def Ps.a:Ps→Int | .mk _ a _ _=>a
def Ps.b:Ps→Int | .mk _ _ b _=>b
def Ps.list:Ps→List (List Pt) | .mk _ _ _ l=>l
abbrev Sl:=List Pt
structure ST where
 prop:Int
 kind:Int
 n:Int
 imp:Bool
structure RL where
 sels:List Sl
 sets:List ST
structure Nd where
 parent:Int
 tag:ByteArray
 id:ByteArray
 classes:List ByteArray
 attrs:List (ByteArray × ByteArray)
def kz (a:At):List AV:=[Sx a.name,I a.op,Sx a.text]
def fu (l:List ByteArray):AV:=.imm 1 (l.map fun s=>[Sx s])
mutual
def jF:Pt→List AV
 | .mk k c=>I k::iy c
def iy:Cp→List AV
 | .mk t i c a p=>[Sx t,fu i,fu c,.imm 3 (a.map kz),.imm 4 (nA p)]
def iA:Ps→List AV
 | .mk k a b l=>[I k,I a,I b,.imm 1 (nq l)]
def ni:List Pt→List (List AV)
 | []=>[]
 | p::r=>jF p::ni r
def nA:List Ps→List (List AV)
 | []=>[]
 | p::r=>iA p::nA r
def nq:List (List Pt)→List (List AV)
 | []=>[]
 | s::r=>[.imm 6 (ni s)]::nq r
end
theorem md:∀ (l:List Pt),ni l=l.map jF
 | []=>rfl
 | p::r=>by rw [ni,md r]; rfl
theorem pT:∀ (l:List Ps),nA l=l.map iA
 | []=>rfl
 | p::r=>by rw [nA,pT r]; rfl
def jD (s:Sl):List AV:=[.imm 6 (s.map jF)]
theorem oV:∀ (l:List Sl),nq l=l.map jD
 | []=>rfl
 | s::r=>by rw [nq,oV r,md]; rfl
theorem mg (p:Pt):jF p=I p.comb::iy p.c:=by cases p; rfl
theorem hY (c:Cp):iy c=[Sx c.tag,fu c.ids,fu c.classes,.imm 3 (c.attrs.map kz),.imm 4 (c.pseudos.map iA)]:=by
 cases c; rw [iy,pT]; rfl
theorem jw (p:Ps):iA p=[I p.kind,I p.a,I p.b,.imm 1 (p.list.map jD)]:=by
 cases p; rw [iA,oV]; rfl
@[simp] theorem xa (p:Pt):(jF p).length=6:=by rw [mg,hY]; rfl
@[simp] theorem v9 (p:Cp):(iy p).length=5:=by rw [hY]; rfl
@[simp] theorem wZ (p:Ps):(iA p).length=4:=by rw [jw]; rfl
@[simp] theorem Po (p:Sl):(jD p).length=1:=rfl
@[simp] theorem PA (p:At):(kz p).length=3:=rfl
def sls (l:List Sl):AV:=.imm 1 (l.map jD)
def kP (s:ST):List AV:=[I s.prop,I s.kind,I s.n,Bo s.imp]
def mC (r:RL):List AV:=[sls r.sels,.imm 4 (r.sets.map kP)]
def rls (l:List RL):AV:=.imm 2 (l.map mC)
def cO (p:ByteArray × ByteArray):List AV:=[Sx p.1,Sx p.2]
def bH (n:Nd):List AV:=[I n.parent,Sx n.tag,Sx n.id,fu n.classes,.imm 2 (n.attrs.map cO)]
def nds (l:List Nd):AV:=.imm 5 (l.map bH)
theorem b7 {α:Type} (f:α→List AV) (hf:∀ x,bE (f x)=true):∀ l:List α,d9 (l.map f)=true
 | []=>rfl
 | x::r=>by simp only [List.map_cons,d9,hf,b7 f hf r,Bool.and_self]
@[simp] theorem k7 (l:List ByteArray):cW (fu l)=true:=by
 unfold fu; simp only [cW]; exact b7 _ (fun _=>rfl) l
theorem LO (a:At):bE (kz a)=true:=rfl
mutual
theorem JQ:∀ (p:Pt),bE (jF p)=true
 | .mk k c=>by rw [jF]; simp only [bE,cW,K8 c,Bool.and_self]
theorem K8:∀ (c:Cp),bE (iy c)=true
 | .mk t i c a p=>by rw [iy]; simp only [bE,cW,k7,b7 _ LO,tP p,Bool.and_self]
theorem Ke:∀ (p:Ps),bE (iA p)=true
 | .mk k a b l=>by rw [iA]; simp only [bE,cW,tI l,Bool.and_self]
theorem oZ:∀ (l:List Pt),d9 (ni l)=true
 | []=>rfl
 | p::r=>by rw [ni]; simp only [d9,JQ p,oZ r,Bool.and_self]
theorem tP:∀ (l:List Ps),d9 (nA l)=true
 | []=>rfl
 | p::r=>by rw [nA]; simp only [d9,Ke p,tP r,Bool.and_self]
theorem tI:∀ (l:List (List Pt)),d9 (nq l)=true
 | []=>rfl
 | s::r=>by rw [nq]; simp only [d9,bE,cW,oZ s,tI r,Bool.and_self]
end
theorem JW (s:Sl):bE (jD s)=true:=by
 unfold jD; rw [← md]; simp only [bE,cW,oZ,Bool.and_self]
@[simp] theorem Bm (l:List Sl):cW (sls l)=true:=by unfold sls; simp only [cW]; exact b7 _ JW l
theorem Lq (s:ST):bE (kP s)=true:=rfl
theorem Lm (r:RL):bE (mC r)=true:=by unfold mC; simp only [bE,cW,Bm,b7 _ Lq,Bool.and_self]
@[simp] theorem Qj (l:List RL):cW (rls l)=true:=by unfold rls; simp only [cW]; exact b7 _ Lm l
theorem ml (n:Nd):bE (bH n)=true:=by unfold bH; simp only [bE,cW,k7,b7 cO (fun _=>rfl),Bool.and_self]
@[simp] theorem PX (l:List Nd):cW (nds l)=true:=by unfold nds; simp only [cW]; exact b7 _ ml l
end Go.Proofs.YtegioimlblnajaaGreat.Ev
namespace Go.Proofs.YtegioimlblnajaaGreat.Ev
@[simp] theorem Ql (l:List ByteArray):AV.one (fu l)=true:=rfl
@[simp] theorem N5 (c:Cp):(iy c).all AV.one=true:=by rw [hY]; rfl
@[simp] theorem Rq (p:Pt):(jF p).all AV.one=true:=by rw [mg,List.all_cons,N5]; rfl
@[simp] theorem Rg (p:Ps):(iA p).all AV.one=true:=by rw [jw]; rfl
@[simp] theorem Rs (p:Sl):(jD p).all AV.one=true:=rfl
@[simp] theorem Ra (p:At):(kz p).all AV.one=true:=rfl
@[simp] theorem RD (p:RL):(mC p).all AV.one=true:=rfl
@[simp] theorem Rn (p:Nd):(bH p).all AV.one=true:=rfl
@[simp] theorem RH (p:ST):(kP p).all AV.one=true:=rfl
@[simp] theorem Pn (p:RL):(mC p).length=2:=rfl
@[simp] theorem PC (p:Nd):(bH p).length=5:=rfl
@[simp] theorem Pr (p:ST):(kP p).length=4:=rfl
theorem h_ {α:Type} {l:List α} {k:Nat} {x:α} (h:l[k]?=some x):l.drop k=x::l.drop (k+1):=by
 obtain ⟨hlt,rfl⟩:=List.getElem?_eq_some_iff.1 h
 exact List.drop_eq_getElem_cons hlt
theorem lU {α:Type} {l:List α} {k:Nat} (h:k<l.length):∃ x,l[k]?=some x:=⟨l[k],List.getElem?_eq_getElem h⟩
end Go.Proofs.YtegioimlblnajaaGreat.Ev
namespace Go.Proofs.YtegioimlblnajaaGreat.Ev
def i64 (n:Int):Prop:=-9223372036854775808≤n∧n≤9223372036854775807
def zb (N:Nat) (l:List ByteArray):Prop:=l.length≤N∧∀ s ∈ l,s.data.size≤N
mutual
def Pt.wf (N:Nat):Pt→Prop
 | .mk k c=>i64 k∧Cp.wf N c
def Cp.wf (N:Nat):Cp→Prop
 | .mk t i c a p=>t.data.size≤N∧zb N i∧zb N c∧(a.length≤N∧∀ x ∈ a,x.name.data.size≤N∧i64 x.op∧x.text.data.size≤N)∧p.length≤N∧Mx N p
def Ps.wf (N:Nat):Ps→Prop
 | .mk k a b l=>i64 k∧i64 a∧i64 b∧l.length≤N∧Mw N l
def ME (N:Nat):List Pt→Prop
 | []=>True
 | p::r=>Pt.wf N p∧ME N r
def Mx (N:Nat):List Ps→Prop
 | []=>True
 | p::r=>Ps.wf N p∧Mx N r
def Mw (N:Nat):List (List Pt)→Prop
 | []=>True
 | s::r=>(s.length≤N∧ME N s)∧Mw N r
end
abbrev LV:Nat:=9223372036854775807
end Go.Proofs.YtegioimlblnajaaGreat.Ev
namespace Go.Proofs.YtegioimlblnajaaGreat.Ev
@[simp] theorem pF (l:List ByteArray):aM (fu l)=some (.lit (.int .i64 l.length)):=by simp [fu]
@[simp] theorem QW (l:List Sl):aM (sls l)=some (.lit (.int .i64 l.length)):=by simp [sls]
@[simp] theorem QO (l:List RL):aM (rls l)=some (.lit (.int .i64 l.length)):=by simp [rls]
@[simp] theorem i_ (l:List Nd):aM (nds l)=some (.lit (.int .i64 l.length)):=by simp [nds]
end Go.Proofs.YtegioimlblnajaaGreat.Ev
namespace Go.Proofs.YtegioimlblnajaaGreat.Ev
@[simp] theorem Rr (s:Sl):ldL true 1 (jD s)=some (.agg (jD s)):=rfl
@[simp] theorem QZ (s:Pt):ldL true 6 (jF s)=some (.agg (jF s)):=eu (xa s)
@[simp] theorem Ri (s:Cp):ldL true 5 (iy s)=some (.agg (iy s)):=eu (v9 s)
@[simp] theorem Rb (s:Ps):ldL true 4 (iA s)=some (.agg (iA s)):=eu (wZ s)
@[simp] theorem Rf (s:At):ldL true 3 (kz s)=some (.agg (kz s)):=rfl
@[simp] theorem Ru (s:Nd):ldL true 5 (bH s)=some (.agg (bH s)):=rfl
@[simp] theorem RI (s:RL):ldL true 2 (mC s)=some (.agg (mC s)):=rfl
@[simp] theorem Rm (s:ST):ldL true 4 (kP s)=some (.agg (kP s)):=rfl
@[simp] theorem Rp (s:ByteArray × ByteArray):ldL true 2 (cO s)=some (.agg (cO s)):=rfl
@[simp] theorem Se (c:AV) (s:Sl):ax [c] 0 (jD s)=jD s:=rfl
end Go.Proofs.YtegioimlblnajaaGreat.Ev
namespace Go.Proofs.YtegioimlblnajaaGreat.Ev
@[simp] theorem O3 (p:Pt):(jF p).tail=iy p.c:=by rw [mg]; rfl
end Go.Proofs.YtegioimlblnajaaGreat.Ev
namespace Go.Proofs.YtegioimlblnajaaGreat.Ev
@[simp] theorem QG (x:Ps):ldL false 1 (iA x)=some (I x.kind):=by rw [jw]; rfl
@[simp] theorem P3 (x:Ps):ldL false 1 (iA x).tail=some (I x.a):=by rw [jw]; rfl
@[simp] theorem QH (x:Ps):ldL false 1 ((iA x).drop 2)=some (I x.b):=by rw [jw]; rfl
@[simp] theorem QB (x:Ps):ldL false 1 ((iA x).drop 3)=some (.imm 1 (x.list.map jD)):=by rw [jw]; rfl
@[simp] theorem Qi (x:Cp):ldL false 1 (iy x)=some (Sx x.tag):=by rw [hY]; rfl
@[simp] theorem Qr (x:Cp):ldL false 1 (iy x).tail=some (fu x.ids):=by rw [hY]; rfl
@[simp] theorem Qd (x:Cp):ldL false 1 ((iy x).drop 2)=some (fu x.classes):=by rw [hY]; rfl
@[simp] theorem PK (x:Cp):ldL false 1 ((iy x).drop 3)=some (.imm 3 (x.attrs.map kz)):=by rw [hY]; rfl
@[simp] theorem Qz (x:Cp):ldL false 1 ((iy x).drop 4)=some (.imm 4 (x.pseudos.map iA)):=by rw [hY]; rfl
@[simp] theorem Qy (x:Pt):ldL false 1 (jF x)=some (I x.comb):=by rw [mg]; rfl
@[simp] theorem QA (x:Sl):ldL false 1 (jD x)=some (.imm 6 (x.map jF)):=rfl
@[simp] theorem PV (x:At):ldL false 1 (kz x)=some (Sx x.name):=rfl
@[simp] theorem Qo (x:At):ldL false 1 (kz x).tail=some (I x.op):=rfl
@[simp] theorem QI (x:At):ldL false 1 ((kz x).drop 2)=some (Sx x.text):=rfl
@[simp] theorem PZ (x:Nd):ldL false 1 (bH x)=some (I x.parent):=rfl
@[simp] theorem Qf (x:Nd):ldL false 1 (bH x).tail=some (Sx x.tag):=rfl
theorem wx (x:Nd):ldL false 1 ((bH x).drop 1)=some (Sx x.tag):=rfl
@[simp] theorem Js (x:Nd):ldL false 1 ((bH x).drop 2)=some (Sx x.id):=rfl
@[simp] theorem pM (x:Nd):ldL false 1 ((bH x).drop 3)=some (fu x.classes):=rfl
@[simp] theorem pt (x:Nd):ldL false 1 ((bH x).drop 4)=some (.imm 2 (x.attrs.map cO)):=rfl
@[simp] theorem Qa (x:RL):ldL false 1 (mC x)=some (sls x.sels):=rfl
@[simp] theorem P1 (x:RL):ldL false 1 (mC x).tail=some (.imm 4 (x.sets.map kP)):=rfl
@[simp] theorem QD (x:ST):ldL false 1 (kP x)=some (I x.prop):=rfl
@[simp] theorem Qu (x:ST):ldL false 1 (kP x).tail=some (I x.kind):=rfl
@[simp] theorem PT (x:ST):ldL false 1 ((kP x).drop 2)=some (I x.n):=rfl
@[simp] theorem P_ (x:ST):ldL false 1 ((kP x).drop 3)=some (Bo x.imp):=rfl
@[simp] theorem Jp (x:ByteArray × ByteArray):ldL false 1 (cO x)=some (Sx x.1):=rfl
@[simp] theorem PL (x:ByteArray × ByteArray):ldL false 1 (cO x).tail=some (Sx x.2):=rfl
theorem wU (x:ByteArray × ByteArray):ldL false 1 ((cO x).drop 1)=some (Sx x.2):=rfl
end Go.Proofs.YtegioimlblnajaaGreat.Ev
namespace Go.Proofs.YtegioimlblnajaaGreat.Ev
set_option linter.unusedVariables false
set_option linter.unusedSimpArgs false
theorem jH {sz:Nat}:∀ {rows:List (List AV)} {w:Nat} (hs:∀ r ∈ rows,r.length=sz) (h:w<rows.length),rows.flatten.drop (w*sz)=rows[w]++(rows.drop (w+1)).flatten
 | r::rs,0,hs,h=>by simp
 | r::rs,w+1,hs,h=>by
  have hr:r.length=sz:=hs r (by simp)
  have e:(w+1)*sz=sz+w*sz:=by rw [Nat.succ_mul,Nat.add_comm]
  have e1:(r++rs.flatten).drop sz=rs.flatten:=by rw [← hr]; simp
  rw [List.flatten_cons,e,← List.drop_drop,e1]
  exact jH (fun r hr=>hs r (by simp [hr])) (by simpa using h)
theorem mM {a b:List AV} {k:Nat} {xs:List AV}:ax (a++b) (a.length+k) xs=a++ax b k xs:=by
 unfold ax
 rw [Nat.add_assoc,List.take_append,List.drop_append,List.take_of_length_le (by omega),List.drop_eq_nil_of_le (by omega)]
 simp
theorem nK {a b:List AV} {k:Nat} {xs:List AV} (h:k+xs.length≤a.length):ax (a++b) k xs=ax a k xs++b:=by
 unfold ax
 rw [List.take_append_of_le_length (by omega),List.drop_append_of_le_length h]
 simp
theorem iI {sz:Nat} {xs:List AV} {k:Nat} (hk:k+xs.length≤sz):∀ {rows:List (List AV)} {w:Nat} (hs:∀ r ∈ rows,r.length=sz) (h:w<rows.length),ax rows.flatten (w*sz+k) xs=(rows.set w (ax rows[w] k xs)).flatten
 | r::rs,0,hs,h=>by
  have hr:r.length=sz:=hs r (by simp)
  simp only [Nat.zero_mul,Nat.zero_add,List.flatten_cons,List.getElem_cons_zero,List.set_cons_zero]
  exact nK (by omega)
 | r::rs,w+1,hs,h=>by
  have hr:r.length=sz:=hs r (by simp)
  have e:(w+1)*sz+k=r.length+(w*sz+k):=by rw [Nat.succ_mul,hr]; omega
  simp only [List.flatten_cons,List.getElem_cons_succ,List.set_cons_succ]
  rw [e,mM,iI hk (fun r hr=>hs r (by simp [hr])) (by simpa using h)]
end Go.Proofs.YtegioimlblnajaaGreat.Ev
namespace Go.Proofs.YtegioimlblnajaaGreat.Ev
set_option linter.unusedVariables false
set_option linter.unusedSimpArgs false
def Nd.none:Nd:=⟨0,⟨#[]⟩,⟨#[]⟩,[],[]⟩
def dY (L:List Nd) (i:Nat):Nd:=L.getD i Nd.none
def par (L:List Nd) (i:Nat):Int:=(dY L i).parent
def i3 (L:List Nd) (m e:Nat):List Nat:=(List.range m).filter fun j=>decide (0<j)&&decide (par L j=e)
def wP (L:List Nd) (e:Nat):List Nat:=(List.range e).filter fun j=>decide (0<j)&&decide (par L j=par L e)
def vQ (l:List Nat):Int:=match l.getLast? with | some j=>j | none=>-1
def dR (L:List Nd) (e:Nat):Int:=(wP L e).length+1
def ng (L:List Nd) (e:Nat):Int:=vQ (wP L e)
structure dj (L:List Nd) (m:Nat) (d:List Nat):Prop where
 len:d.length=m
 le:m≤L.length
 root:0<m→par L 0=-1∧d[0]?=some 0
 step:∀ i,0<i→i<m→∃ p x:Nat,par L i=p∧p<i∧d[p]?=some x∧d[i]?=some (x+1)∧x+1≤256
theorem dj.nil (L:List Nd):dj L 0 []:=⟨rfl,Nat.zero_le _,fun h=>absurd h (Nat.lt_irrefl 0),fun i h0 h=>absurd h (Nat.not_lt_zero i)⟩
theorem dj.first {L:List Nd} (hl:0<L.length) (h:par L 0=-1):dj L 1 [0]:=⟨rfl,hl,fun _=>⟨h,rfl⟩,fun i h0 h=>by omega⟩
theorem dj.next {L:List Nd} {m p x:Nat} {d:List Nat} (h:dj L m d) (hm:0<m) (hl:m<L.length) (hp:par L m=p) (hlt:p<m) (hx:d[p]?=some x) (h256:x+1≤256):dj L (m+1) (d++[x+1]):=by
 have hlen:=h.len
 refine ⟨by simp [hlen],hl,fun _=>⟨(h.root hm).1,?_⟩,fun i h0 hi=>?_⟩
 ·rw [List.getElem?_append_left (by omega)]; exact (h.root hm).2
 ·by_cases him:i<m
  ·obtain ⟨p',x',e1,e2,e3,e4,e5⟩:=h.step i h0 him
   exact ⟨p',x',e1,e2,by rw [List.getElem?_append_left (by omega)]; exact e3,by rw [List.getElem?_append_left (by omega)]; exact e4,e5⟩
  ·have:i=m:=by omega
   subst this
   exact ⟨p,x,hp,hlt,by rw [List.getElem?_append_left (by omega)]; exact hx,by rw [List.getElem?_append_right (by omega),hlen]; simp,h256⟩
theorem nN (L:List Nd) (m e:Nat):i3 L (m+1) e=i3 L m e++if 0<m∧par L m=e then [m] else []:=by
 unfold i3
 rw [List.range_succ,List.filter_append]
 congr 1
 by_cases h:0<m∧par L m=(e:Int)
 ·simp [h]
 ·rw [if_neg h]
  simp only [List.filter_cons,List.filter_nil]
  rw [if_neg (by simpa using h)]
theorem qM {L:List Nd} {m p:Nat} (hp:par L m=p):i3 L m p=wP L m:=by unfold i3 wP; rw [hp]
theorem JH {L:List Nd} {N:Nat} {d:List Nat} (hB:dj L N d) {m:Nat} (hm:m≤N) {e:Nat} (he:m≤e+1):i3 L m e=[]:=by
 unfold i3
 rw [List.filter_eq_nil_iff]
 intro j hj
 simp only [List.mem_range] at hj
 simp only [Bool.and_eq_true,decide_eq_true_eq,not_and]
 intro h0 h1
 obtain ⟨p,x,e1,e2,_⟩:=hB.step j h0 (by omega)
 rw [e1] at h1
 omega
def ig (L:List Nd) (d:List Nat) (i:Nat) (c:AV) (low:Nd→Nd):List AV:=bH (low (dY L i))++[c,I (d.getD i 0),I (dR L i),I (ng L i)]
@[simp] theorem HP (L:List Nd) (d:List Nat) (i:Nat) (c:AV) (low:Nd→Nd):(ig L d i c low).length=9:=rfl
def du (L:List Nd) (d:List Nat) (ch:List AV) (low:Nd→Nd):List (List AV):=ch.mapIdx fun i c=>ig L d i c low
theorem eE (L:List Nd) (d:List Nat) (ch:List AV) (low:Nd→Nd):(du L d ch low).length=ch.length:=by simp [du]
theorem mN {L:List Nd} {d:List Nat} {ch:List AV} {low:Nd→Nd}:∀ row ∈ du L d ch low,row.length=9:=by
 intro row h
 unfold du at h
 obtain ⟨i,hi,rfl⟩:=List.mem_mapIdx.1 h
 rfl
theorem nO {L:List Nd} {d:List Nat} {ch:List AV} {low:Nd→Nd} {k:Nat} {c:AV} (h:ch[k]?=some c):(du L d ch low)[k]?=some (ig L d k c low):=by
 unfold du
 rw [List.getElem?_mapIdx,h]; rfl
theorem wJ {L:List Nd} {d:List Nat} {ch:List AV} {low:Nd→Nd} {k:Nat} {c':AV}:du L d (ch.set k c') low=(du L d ch low).set k (ig L d k c' low):=by
 apply List.ext_getElem?
 intro i
 unfold du
 rw [List.getElem?_mapIdx,List.getElem?_set,List.getElem?_set,List.getElem?_mapIdx]
 by_cases hi:k=i
 ·subst hi
  simp only [if_true,List.length_mapIdx]
  by_cases hk:k<ch.length
  ·simp [hk]
  ·simp [hk]
 ·simp [hi]
theorem wj {L:List Nd} {d:List Nat} {ch:List AV} {low:Nd→Nd} {c:AV}:du L d (ch++[c]) low=du L d ch low++[ig L d ch.length c low]:=by
 simp [du,List.mapIdx_append]
theorem uu {L:List Nd} {d:List Nat} {ch:List AV} {low:Nd→Nd} {k:Nat} {c:AV} (h:ch[k]?=some c):∃ r,(du L d ch low).flatten.drop (k*9)=ig L d k c low++r:=by
 have hk:=(List.getElem?_eq_some_iff.1 h).1
 have e:=nO (L:=L) (d:=d) (low:=low) h
 have hk':k<(du L d ch low).length:=by rw [eE]; exact hk
 refine ⟨((du L d ch low).drop (k+1)).flatten,?_⟩
 rw [jH mN hk']
 congr 1
 rw [List.getElem?_eq_getElem hk'] at e
 exact Option.some.inj e
theorem kJ {L:List Nd} {d:List Nat} {ch:List AV} {low:Nd→Nd} {k:Nat} {c:AV} (h:ch[k]?=some c) (j:Nat) (hj:j≤9):∃ r,(du L d ch low).flatten.drop (k*9+j)=(ig L d k c low).drop j++r:=by
 obtain ⟨r,e⟩:=uu (L:=L) (d:=d) (low:=low) h
 refine ⟨r,?_⟩
 rw [← List.drop_drop,e,List.drop_append_of_le_length (by simpa using hj)]
theorem wy {L:List Nd} {d:List Nat} {ch:List AV} {low:Nd→Nd} {k:Nat} {c c':AV} (h:ch[k]?=some c):ax (du L d ch low).flatten (k*9+5) [c']=(du L d (ch.set k c') low).flatten:=by
 have hk:=(List.getElem?_eq_some_iff.1 h).1
 have hk':k<(du L d ch low).length:=by rw [eE]; exact hk
 rw [iI (sz:=9) (by simp) mN hk',wJ]
 congr 2
 have e:=nO (L:=L) (d:=d) (low:=low) h
 rw [List.getElem?_eq_getElem hk'] at e
 rw [Option.some.inj e]
 rfl
end Go.Proofs.YtegioimlblnajaaGreat.Ev
namespace Go.Proofs.YtegioimlblnajaaGreat.Ev
set_option linter.unusedVariables false
set_option linter.unusedSimpArgs false
abbrev tl (s:ByteArray):List UInt8:=s.data.toList
def mk (l:List UInt8):ByteArray:=⟨l.toArray⟩
@[simp] theorem RZ (l:List UInt8):tl (mk l)=l:=by simp [tl,mk]
@[simp] theorem Sb (s:ByteArray):mk (tl s)=s:=by simp [tl,mk]
def wht (c:UInt8):Bool:=c.toNat == 9||(c.toNat == 10||(c.toNat == 12||(c.toNat == 13||c.toNat == 32)))
def nw (c:UInt8):Bool:=!wht c
end Go.Proofs.YtegioimlblnajaaGreat.Ev
namespace Go.Proofs.YtegioimlblnajaaGreat.Ev
set_option linter.unusedVariables false
set_option linter.unusedSimpArgs false
inductive Sk where
 | same
 | sl (sz:Nat) (row:List Sk)
 | agg (row:List Sk)
 | ptr (row:List Sk)
def jk (sz:Nat) (g:List AV→Option (List AV)):Nat→List AV→Option (List (List AV))
 | 0,_=>some []
 | n+1,l=>match g (l.take sz) with
  | some r=>match jk sz g n (l.drop sz) with
   | some rs=>some (r::rs)
   | none=>none
  | none=>none
mutual
def w8 (H:Hp):Sk→AV→Option AV
 | .same,x=>bif cW x then some x else none
 | .sl sz row,x=>match x with
  | .lit (.slice none 0 0)=>some (.imm sz [])
  | .emp=>some (.imm sz [])
  | .se _ _ _=>some (.imm sz [])
  | .imm s rows=>bif cW (.imm s rows) then some (.imm s rows) else none
  | .sl id off s len _=>bif Nat.beq s sz then match H.get id with
    | some (.cells cs _)=>match jk sz (fun l=>frzR H row l) len (cs.drop off) with
     | some rows=>bif Nat.beq row.length sz then some (.imm sz rows) else none
     | none=>none
    | _=>none
   else none
  | _=>none
 | .agg row,x=>match x with
  | .agg xs=>match frzR H row xs with
   | some ys=>some (.agg ys)
   | none=>none
  | _=>none
 | .ptr row,x=>match x with
  | .ptr id off=>match H.get id with
   | some (.cells cs _)=>match frzR H row ((cs.drop off).take row.length) with
    | some ys=>some (.ip ys)
    | none=>none
   | _=>none
  | _=>none
def frzR (H:Hp):List Sk→List AV→Option (List AV)
 | [],xs=>match xs with
  | []=>some []
  | _=>none
 | k::ks,xs=>match xs with
  | x::xs=>match w8 H k x with
   | some y=>match frzR H ks xs with
    | some ys=>some (y::ys)
    | none=>none
   | none=>none
  | []=>none
end
theorem lZ {sz:Nat} {g:List AV→Option (List AV)} {H:Hp} (hg:∀ l r,g l=some r→FzL H l r):∀ (n:Nat) (l:List AV) (rows:List (List AV)),jk sz g n l=some rows→rows.length=n∧∀ (i:Nat) (row:List AV),rows[i]?=some row→FzL H ((l.drop (i*sz)).take sz) row
 | 0,l,rows,h=>by
  simp only [jk,Option.some.injEq] at h
  subst h
  exact ⟨rfl,fun i row h=>by simp at h⟩
 | n+1,l,rows,h=>by
  simp only [jk] at h
  split at h
  case h_2=>cases h
  rename_i r hr
  split at h
  case h_2=>cases h
  rename_i rs hrs
  simp only [Option.some.injEq] at h
  subst h
  obtain ⟨h1,h2⟩:=lZ hg n _ _ hrs
  refine ⟨by simp [h1],fun i row hi=>?_⟩
  cases i with
  | zero =>
   simp at hi
   subst hi
   simpa using hg _ _ hr
  | succ i =>
   simp at hi
   have:=h2 i row hi
   rw [List.drop_drop] at this
   rw [Nat.succ_mul,Nat.add_comm]
   exact this
theorem FzL.len {H:Hp} {xs ys:List AV} (h:FzL H xs ys):xs.length=ys.length:=h.get.1
mutual
theorem vo {H:Hp}:∀ (k:Sk) (x y:AV),w8 H k x=some y→Fz H x y
 | .same,x,y,h=>by
  simp only [w8] at h
  cases hn:cW x with
  | false=>rw [hn] at h; cases h
  | true=>rw [hn] at h; cases h; exact .refl hn
 | .sl sz row,x,y,h=>by
  simp only [w8] at h
  split at h
  ·cases h; exact .nil
  ·cases h; exact .emp
  ·cases h; exact .se
  ·rename_i s rows
   cases hn:cW (.imm s rows) with
   | false=>rw [hn] at h; cases h
   | true=>rw [hn] at h; cases h; exact .refl hn
  ·rename_i id off s len cap
   cases hs:Nat.beq s sz with
   | false=>rw [hs] at h; cases h
   | true =>
    rw [hs] at h
    have:=Nat.eq_of_beq_eq_true hs
    subst this
    simp only [cond_true] at h
    split at h
    case h_2=>cases h
    rename_i cs ex hg
    split at h
    case h_2=>cases h
    rename_i rows hr
    cases hl:Nat.beq row.length s with
    | false=>rw [hl] at h; cases h
    | true =>
     rw [hl] at h
     cases h
     have hlen:=Nat.eq_of_beq_eq_true hl
     obtain ⟨h1,h2⟩:=lZ (fun l r hh=>mX row l r hh) _ _ _ hr
     have hrow:∀ (i:Nat) (r:List AV),rows[i]?=some r→r.length=s:=by
      intro i r hi
      obtain ⟨_,hh⟩:=lZ (g:=fun l=>frzR H row l) (fun l r hh=>mX row l r hh) _ _ _ hr
      exact n7 (fun l r hh=>by rw [← hlen]; exact s7 row l r hh) _ _ _ hr i r hi
     refine .sl (fun i j=>cs.getD (off+(i*s+j)) .any) hg h1 hrow (fun i r j y hi hy=>?_) (fun i r j y hi hy=>?_)
     ·obtain ⟨x,hx,_⟩:=(h2 i r hi).get.2 j y hy
      have hj:j<s:=by rw [← hrow i r hi]; exact (List.getElem?_eq_some_iff.1 hy).1
      rw [List.getElem?_take,if_pos hj,List.getElem?_drop,List.getElem?_drop] at hx
      simp [hx]
     ·obtain ⟨x,hx,hf⟩:=(h2 i r hi).get.2 j y hy
      have hj:j<s:=by rw [← hrow i r hi]; exact (List.getElem?_eq_some_iff.1 hy).1
      rw [List.getElem?_take,if_pos hj,List.getElem?_drop,List.getElem?_drop] at hx
      simp [hx]
      exact hf
  ·cases h
 | .agg row,x,y,h=>by
  simp only [w8] at h
  split at h
  case h_2=>cases h
  split at h
  case h_2=>cases h
  rename_i hr
  cases h
  exact Fz.aggL (mX row _ _ hr)
 | .ptr row,x,y,h=>by
  simp only [w8] at h
  split at h
  case h_2=>cases h
  rename_i id off
  split at h
  case h_2=>cases h
  rename_i cs ex hg
  split at h
  case h_2=>cases h
  rename_i ys hr
  cases h
  have hl:=(mX row _ _ hr).get
  refine .ptr (fun j=>cs.getD (off+j) .any) hg (fun j y hy=>?_) (fun j y hy=>?_)
  ·obtain ⟨x,hx,_⟩:=hl.2 j y hy
   rw [List.getElem?_take] at hx
   split at hx
   ·rw [List.getElem?_drop] at hx
    simp [hx]
   ·cases hx
  ·obtain ⟨x,hx,hf⟩:=hl.2 j y hy
   rw [List.getElem?_take] at hx
   split at hx
   ·rw [List.getElem?_drop] at hx
    simp [hx]
    exact hf
   ·cases hx
theorem mX {H:Hp}:∀ (ks:List Sk) (xs ys:List AV),frzR H ks xs=some ys→FzL H xs ys
 | [],xs,ys,h=>by
  simp only [frzR] at h
  split at h
  ·cases h; exact .nil
  ·cases h
 | k::ks,xs,ys,h=>by
  simp only [frzR] at h
  split at h
  case h_2=>cases h
  rename_i x xs
  split at h
  case h_2=>cases h
  rename_i y hy
  split at h
  case h_2=>cases h
  rename_i zs hz
  cases h
  exact .cons (vo k x y hy) (mX ks xs zs hz)
theorem s7 {H:Hp}:∀ (ks:List Sk) (xs ys:List AV),frzR H ks xs=some ys→ys.length=ks.length
 | [],xs,ys,h=>by
  simp only [frzR] at h
  split at h
  ·cases h; rfl
  ·cases h
 | k::ks,xs,ys,h=>by
  simp only [frzR] at h
  split at h
  case h_2=>cases h
  split at h
  case h_2=>cases h
  split at h
  case h_2=>cases h
  rename_i zs hz
  cases h
  simp [s7 ks _ _ hz]
theorem n7 {sz:Nat} {g:List AV→Option (List AV)} (hg:∀ l r,g l=some r→r.length=sz):∀ (n:Nat) (l:List AV) (rows:List (List AV)),jk sz g n l=some rows→∀ (i:Nat) (r:List AV),rows[i]?=some r→r.length=sz
 | 0,l,rows,h,i,r,hi=>by
  simp only [jk,Option.some.injEq] at h
  subst h
  simp at hi
 | n+1,l,rows,h,i,r,hi=>by
  simp only [jk] at h
  split at h
  case h_2=>cases h
  rename_i r0 hr0
  split at h
  case h_2=>cases h
  rename_i rs hrs
  cases h
  cases i with
  | zero=>simp at hi; subst hi; exact hg _ _ hr0
  | succ i=>exact n7 hg n _ _ hrs i r (by simpa using hi)
end
def O5:Sk:=.sl 1 [.same]
def Qe:Sk:=.sl 2 [.same,.same]
def Q_:List Sk:=[.same,.same,.same,O5,Qe]
def PH:Sk:=.sl 5 Q_
end Go.Proofs.YtegioimlblnajaaGreat.Ev
namespace Go.Proofs.YtegioimlblnajaaGreat.Ev
theorem aq.conv {P:Program} {σ:Sig} {f:Nat} {xs ys:List AV} {r:AV} {H H2 H3:Hp} (k:Wk σ ys H xs H2) (h:aq P σ f xs H2 r H3):aq P σ f ys H r H3:=by
 refine ⟨h.1,fun B w0 E w vs hσ hst hxs=>?_⟩
 obtain ⟨E2,h1,h2,h3⟩:=k hσ hst hxs
 refine (h.2 B w0 E2 w vs hσ h2 h3).mono fun e w' hh=>?_
 obtain ⟨E',v,rfl,hext,st2,hrel⟩:=hh
 exact ⟨E',v,rfl,h1.trans hext,st2,hrel⟩
def Hp.bare (n:Nat):Hp:=⟨n,.leaf⟩
@[simp] theorem Hp.bare_n (n:Nat):(Hp.bare n).n=n:=rfl
@[simp] theorem Hp.bare_get (n j:Nat):(Hp.bare n).get j=none:=by simp [Hp.bare,Hp.get,Tr.get]
theorem FzL.t {H:Hp} {xs ys:List AV} (h:FzL H xs ys):FzT H xs ys:=by
 induction h with
 | nil=>exact .nil
 | cons h hs ih=>exact .fz h ih
theorem aq.drop {P:Program} {σ:Sig} {f:Nat} {xs ys:List AV} {r:AV} {H:Hp} (h:∀ H,aq P σ f xs H r H) (hx:FzL H ys xs):aq P σ f ys H r (Hp.bare H.n) :=
 aq.conv (Wk.frz (H2:=Hp.bare H.n) (Hd:=H) rfl rfl (fun id k hk=>⟨hk,by simp⟩) (fun id k2 hk=>by simp at hk) hx.t) (h _)
theorem aa {α:Type} {o:Option α} {x:α} {K:α→Prop} (h:o=some x) (k:K x):bnd o K:=by rw [h]; exact k
end Go.Proofs.YtegioimlblnajaaGreat.Ev
namespace Go.Proofs.YtegioimlblnajaaGreat.Ev
set_option maxRecDepth 100000
set_option maxHeartbeats 4000000
noncomputable def ti1:TI:=⟨.func,1,8,[.nilFunc]⟩
theorem OX:af Tryz.prog 1=some ti1:=by kernel_rfl
noncomputable def ti2:TI:=⟨.int .i64,1,8,[.int .i64 0]⟩
theorem MW:af Tryz.prog 2=some ti2:=by kernel_rfl
noncomputable def ti3:TI:=⟨.int .i64,1,8,[.int .i64 0]⟩
theorem OZ:af Tryz.prog 3=some ti3:=by kernel_rfl
noncomputable def ti4:TI:=⟨.bool,1,1,[.bool false]⟩
theorem O2:af Tryz.prog 4=some ti4:=by kernel_rfl
noncomputable def ti5:TI:=⟨.int .u8,1,1,[.int .u8 0]⟩
theorem Og:af Tryz.prog 5=some ti5:=by kernel_rfl
noncomputable def ti6:TI:=⟨.int .u8,1,1,[.int .u8 0]⟩
theorem Ob:af Tryz.prog 6=some ti6:=by kernel_rfl
noncomputable def ti7:TI:=⟨.struct [(0,2),(1,3),(2,4),(3,6)],4,24,[.int .i64 0,.int .i64 0,.bool false,.int .u8 0]⟩
theorem OA:af Tryz.prog 7=some ti7:=by kernel_rfl
noncomputable def ti8:TI:=⟨.struct [(0,2),(1,3),(2,4),(3,6)],4,24,[.int .i64 0,.int .i64 0,.bool false,.int .u8 0]⟩
theorem Pd:af Tryz.prog 8=some ti8:=by kernel_rfl
noncomputable def ti9:TI:=⟨.string,1,16,[.string ⟨#[]⟩]⟩
theorem Oo:af Tryz.prog 9=some ti9:=by kernel_rfl
noncomputable def Od:TI:=⟨.string,1,16,[.string ⟨#[]⟩]⟩
theorem LM:af Tryz.prog 10=some Od:=by kernel_rfl
noncomputable def OH:TI:=⟨.string,1,16,[.string ⟨#[]⟩]⟩
theorem KH:af Tryz.prog 11=some OH:=by kernel_rfl
noncomputable def N7:TI:=⟨.int .u64,1,8,[.int .u64 0]⟩
theorem KM:af Tryz.prog 12=some N7:=by kernel_rfl
noncomputable def Oa:TI:=⟨.struct [(0,9),(1,12)],2,24,[.string ⟨#[]⟩,.int .u64 0]⟩
theorem L8:af Tryz.prog 13=some Oa:=by kernel_rfl
noncomputable def Pf:TI:=⟨.struct [(0,9),(1,12)],2,24,[.string ⟨#[]⟩,.int .u64 0]⟩
theorem Mm:af Tryz.prog 14=some Pf:=by kernel_rfl
noncomputable def N2:TI:=⟨.ptr 343,1,8,[.pointer none]⟩
theorem K3:af Tryz.prog 15=some N2:=by kernel_rfl
noncomputable def NA:TI:=⟨.ptr 346,1,8,[.pointer none]⟩
theorem Ka:af Tryz.prog 16=some NA:=by kernel_rfl
noncomputable def Nr:TI:=⟨.ptr 354,1,8,[.pointer none]⟩
theorem KO:af Tryz.prog 17=some Nr:=by kernel_rfl
noncomputable def O8:TI:=⟨.struct [(0,17)],1,8,[.pointer none]⟩
theorem Mc:af Tryz.prog 18=some O8:=by kernel_rfl
noncomputable def Pj:TI:=⟨.struct [(0,17)],1,8,[.pointer none]⟩
theorem LZ:af Tryz.prog 19=some Pj:=by kernel_rfl
noncomputable def OG:TI:=⟨.int .i32,1,4,[.int .i32 0]⟩
theorem KD:af Tryz.prog 21=some OG:=by kernel_rfl
noncomputable def LL:TI:=⟨.slice 56,1,24,[.slice none 0 0]⟩
theorem Ly:af Tryz.prog 22=some LL:=by kernel_rfl
noncomputable def NW:TI:=⟨.slice 152,1,24,[.slice none 0 0]⟩
theorem Ma:af Tryz.prog 23=some NW:=by kernel_rfl
noncomputable def NR:TI:=⟨.slice 33,1,24,[.slice none 0 0]⟩
theorem KI:af Tryz.prog 24=some NR:=by kernel_rfl
noncomputable def Ny:TI:=⟨.func,1,8,[.nilFunc]⟩
theorem J8:af Tryz.prog 25=some Ny:=by kernel_rfl
noncomputable def NL:TI:=⟨.func,1,8,[.nilFunc]⟩
theorem Mg:af Tryz.prog 26=some NL:=by kernel_rfl
noncomputable def Pa:TI:=⟨.ptr 97,1,8,[.pointer none]⟩
theorem LP:af Tryz.prog 27=some Pa:=by kernel_rfl
noncomputable def Nf:TI:=⟨.ptr 81,1,8,[.pointer none]⟩
theorem J7:af Tryz.prog 28=some Nf:=by kernel_rfl
noncomputable def OD:TI:=⟨.func,1,8,[.nilFunc]⟩
theorem LJ:af Tryz.prog 30=some OD:=by kernel_rfl
noncomputable def OK:TI:=⟨.func,1,8,[.nilFunc]⟩
theorem K_:af Tryz.prog 31=some OK:=by kernel_rfl
noncomputable def OC:TI:=⟨.struct [(0,3),(1,3)],2,16,[.int .i64 0,.int .i64 0]⟩
theorem Lz:af Tryz.prog 32=some OC:=by kernel_rfl
noncomputable def Pg:TI:=⟨.struct [(0,3),(1,3)],2,16,[.int .i64 0,.int .i64 0]⟩
theorem Li:af Tryz.prog 33=some Pg:=by kernel_rfl
noncomputable def Ot:TI:=⟨.func,1,8,[.nilFunc]⟩
theorem Kq:af Tryz.prog 34=some Ot:=by kernel_rfl
noncomputable def OJ:TI:=⟨.func,1,8,[.nilFunc]⟩
theorem JL:af Tryz.prog 35=some OJ:=by kernel_rfl
noncomputable def Nc:TI:=⟨.ptr 109,1,8,[.pointer none]⟩
theorem K4:af Tryz.prog 36=some Nc:=by kernel_rfl
noncomputable def Nw:TI:=⟨.func,1,8,[.nilFunc]⟩
theorem L3:af Tryz.prog 38=some Nw:=by kernel_rfl
noncomputable def NG:TI:=⟨.slice 42,1,24,[.slice none 0 0]⟩
theorem LR:af Tryz.prog 39=some NG:=by kernel_rfl
noncomputable def OW:TI:=⟨.func,1,8,[.nilFunc]⟩
theorem J4:af Tryz.prog 40=some OW:=by kernel_rfl
noncomputable def Nj:TI:=⟨.array 8 3,8,64,[.int .i64 0,.int .i64 0,.int .i64 0,.int .i64 0,.int .i64 0,.int .i64 0,.int .i64 0,.int .i64 0]⟩
theorem JE:af Tryz.prog 41=some Nj:=by kernel_rfl
noncomputable def MY:TI:=⟨.array 8 3,8,64,[.int .i64 0,.int .i64 0,.int .i64 0,.int .i64 0,.int .i64 0,.int .i64 0,.int .i64 0,.int .i64 0]⟩
theorem J5:af Tryz.prog 42=some MY:=by kernel_rfl
noncomputable def Nh:TI:=⟨.int .i64,1,8,[.int .i64 0]⟩
theorem LH:af Tryz.prog 43=some Nh:=by kernel_rfl
noncomputable def Np:TI:=⟨.func,1,8,[.nilFunc]⟩
theorem K6:af Tryz.prog 45=some Np:=by kernel_rfl
noncomputable def Pk:TI:=⟨.func,1,8,[.nilFunc]⟩
theorem L5:af Tryz.prog 46=some Pk:=by kernel_rfl
noncomputable def NN:TI:=⟨.func,1,8,[.nilFunc]⟩
theorem KA:af Tryz.prog 47=some NN:=by kernel_rfl
noncomputable def O7:TI:=⟨.slice 3,1,24,[.slice none 0 0]⟩
theorem Kt:af Tryz.prog 48=some O7:=by kernel_rfl
noncomputable def NE:TI:=⟨.func,1,8,[.nilFunc]⟩
theorem K0:af Tryz.prog 49=some NE:=by kernel_rfl
noncomputable def Oy:TI:=⟨.func,1,8,[.nilFunc]⟩
theorem Lc:af Tryz.prog 50=some Oy:=by kernel_rfl
noncomputable def OY:TI:=⟨.slice 4,1,24,[.slice none 0 0]⟩
theorem KU:af Tryz.prog 51=some OY:=by kernel_rfl
noncomputable def OP:TI:=⟨.func,1,8,[.nilFunc]⟩
theorem Lp:af Tryz.prog 52=some OP:=by kernel_rfl
noncomputable def Lv:TI:=⟨.slice 9,1,24,[.slice none 0 0]⟩
theorem La:af Tryz.prog 53=some Lv:=by kernel_rfl
noncomputable def Kg:TI:=⟨.slice 127,1,24,[.slice none 0 0]⟩
theorem Kc:af Tryz.prog 54=some Kg:=by kernel_rfl
noncomputable def Nz:TI:=⟨.struct [(0,3),(1,9),(2,9),(3,53),(4,54)],5,88,[.int .i64 0,.string ⟨#[]⟩,.string ⟨#[]⟩,.slice none 0 0,.slice none 0 0]⟩
theorem Ll:af Tryz.prog 55=some Nz:=by kernel_rfl
noncomputable def Ku:TI:=⟨.struct [(0,3),(1,9),(2,9),(3,53),(4,54)],5,88,[.int .i64 0,.string ⟨#[]⟩,.string ⟨#[]⟩,.slice none 0 0,.slice none 0 0]⟩
theorem JC:af Tryz.prog 56=some Ku:=by kernel_rfl
noncomputable def Nu:TI:=⟨.func,1,8,[.nilFunc]⟩
theorem Kw:af Tryz.prog 57=some Nu:=by kernel_rfl
noncomputable def Oh:TI:=⟨.func,1,8,[.nilFunc]⟩
theorem Ks:af Tryz.prog 58=some Oh:=by kernel_rfl
noncomputable def OT:TI:=⟨.func,1,8,[.nilFunc]⟩
theorem JZ:af Tryz.prog 59=some OT:=by kernel_rfl
noncomputable def N8:TI:=⟨.ptr 130,1,8,[.pointer none]⟩
theorem KZ:af Tryz.prog 60=some N8:=by kernel_rfl
noncomputable def NF:TI:=⟨.func,1,8,[.nilFunc]⟩
theorem JX:af Tryz.prog 62=some NF:=by kernel_rfl
noncomputable def OB:TI:=⟨.func,1,8,[.nilFunc]⟩
theorem Kl:af Tryz.prog 64=some OB:=by kernel_rfl
noncomputable def NJ:TI:=⟨.slice 90,1,24,[.slice none 0 0]⟩
theorem LI:af Tryz.prog 65=some NJ:=by kernel_rfl
noncomputable def NP:TI:=⟨.func,1,8,[.nilFunc]⟩
theorem Mh:af Tryz.prog 66=some NP:=by kernel_rfl
noncomputable def MV:TI:=⟨.func,1,8,[.nilFunc]⟩
theorem KQ:af Tryz.prog 67=some MV:=by kernel_rfl
noncomputable def MT:TI:=⟨.func,1,8,[.nilFunc]⟩
theorem Ln:af Tryz.prog 68=some MT:=by kernel_rfl
noncomputable def OL:TI:=⟨.func,1,8,[.nilFunc]⟩
theorem LQ:af Tryz.prog 69=some OL:=by kernel_rfl
noncomputable def O6:TI:=⟨.func,1,8,[.nilFunc]⟩
theorem JG:af Tryz.prog 71=some O6:=by kernel_rfl
noncomputable def MZ:TI:=⟨.func,1,8,[.nilFunc]⟩
theorem KP:af Tryz.prog 72=some MZ:=by kernel_rfl
noncomputable def ND:TI:=⟨.func,1,8,[.nilFunc]⟩
theorem JK:af Tryz.prog 73=some ND:=by kernel_rfl
noncomputable def MU:TI:=⟨.func,1,8,[.nilFunc]⟩
theorem JU:af Tryz.prog 74=some MU:=by kernel_rfl
noncomputable def Ng:TI:=⟨.slice 156,1,24,[.slice none 0 0]⟩
theorem Lo:af Tryz.prog 75=some Ng:=by kernel_rfl
noncomputable def Nn:TI:=⟨.slice 121,1,24,[.slice none 0 0]⟩
theorem Ky:af Tryz.prog 76=some Nn:=by kernel_rfl
noncomputable def ON:TI:=⟨.slice 228,1,24,[.slice none 0 0]⟩
theorem K1:af Tryz.prog 77=some ON:=by kernel_rfl
noncomputable def Na:TI:=⟨.struct [(0,77)],1,24,[.slice none 0 0]⟩
theorem LN:af Tryz.prog 78=some Na:=by kernel_rfl
noncomputable def NZ:TI:=⟨.struct [(0,77)],1,24,[.slice none 0 0]⟩
theorem KX:af Tryz.prog 79=some NZ:=by kernel_rfl
noncomputable def NC:TI:=⟨.struct [(0,36),(1,23),(2,75),(3,76),(4,3),(5,79),(6,48),(7,51),(8,65)],9,184,[.pointer none,.slice none 0 0,.slice none 0 0,.slice none 0 0,.int .i64 0,.slice none 0 0,.slice none 0 0,.slice none 0 0,.slice none 0 0]⟩
theorem Kp:af Tryz.prog 80=some NC:=by kernel_rfl
noncomputable def O4:TI:=⟨.struct [(0,36),(1,23),(2,75),(3,76),(4,3),(5,79),(6,48),(7,51),(8,65)],9,184,[.pointer none,.slice none 0 0,.slice none 0 0,.slice none 0 0,.int .i64 0,.slice none 0 0,.slice none 0 0,.slice none 0 0,.slice none 0 0]⟩
theorem LE:af Tryz.prog 81=some O4:=by kernel_rfl
noncomputable def NB:TI:=⟨.func,1,8,[.nilFunc]⟩
theorem LC:af Tryz.prog 82=some NB:=by kernel_rfl
noncomputable def Pc:TI:=⟨.ptr 158,1,8,[.pointer none]⟩
theorem LA:af Tryz.prog 83=some Pc:=by kernel_rfl
noncomputable def OO:TI:=⟨.func,1,8,[.nilFunc]⟩
theorem JJ:af Tryz.prog 84=some OO:=by kernel_rfl
noncomputable def OQ:TI:=⟨.array 64 4,64,64,[.bool false,.bool false,.bool false,.bool false,.bool false,.bool false,.bool false,.bool false,.bool false,.bool false,.bool false,.bool false,.bool false,.bool false,.bool false,.bool false,.bool false,.bool false,.bool false,.bool false,.bool false,.bool false,.bool false,.bool false,.bool false,.bool false,.bool false,.bool false,.bool false,.bool false,.bool false,.bool false,.bool false,.bool false,.bool false,.bool false,.bool false,.bool false,.bool false,.bool false,.bool false,.bool false,.bool false,.bool false,.bool false,.bool false,.bool false,.bool false,.bool false,.bool false,.bool false,.bool false,.bool false,.bool false,.bool false,.bool false,.bool false,.bool false,.bool false,.bool false,.bool false,.bool false,.bool false,.bool false]⟩
theorem KW:af Tryz.prog 85=some OQ:=by kernel_rfl
noncomputable def Nx:TI:=⟨.func,1,8,[.nilFunc]⟩
theorem J_:af Tryz.prog 86=some Nx:=by kernel_rfl
noncomputable def Nk:TI:=⟨.ptr 164,1,8,[.pointer none]⟩
theorem JD:af Tryz.prog 87=some Nk:=by kernel_rfl
noncomputable def Ov:TI:=⟨.func,1,8,[.nilFunc]⟩
theorem JB:af Tryz.prog 88=some Ov:=by kernel_rfl
noncomputable def M_:TI:=⟨.struct [(0,3),(1,3),(2,4),(3,4)],4,24,[.int .i64 0,.int .i64 0,.bool false,.bool false]⟩
theorem L6:af Tryz.prog 89=some M_:=by kernel_rfl
noncomputable def OE:TI:=⟨.struct [(0,3),(1,3),(2,4),(3,4)],4,24,[.int .i64 0,.int .i64 0,.bool false,.bool false]⟩
theorem Mi:af Tryz.prog 90=some OE:=by kernel_rfl
noncomputable def Nv:TI:=⟨.func,1,8,[.nilFunc]⟩
theorem Lk:af Tryz.prog 91=some Nv:=by kernel_rfl
noncomputable def Oz:TI:=⟨.slice 190,1,24,[.slice none 0 0]⟩
theorem JF:af Tryz.prog 92=some Oz:=by kernel_rfl
noncomputable def NY:TI:=⟨.struct [(0,92),(1,3)],2,32,[.slice none 0 0,.int .i64 0]⟩
theorem Lb:af Tryz.prog 93=some NY:=by kernel_rfl
noncomputable def N4:TI:=⟨.struct [(0,92),(1,3)],2,32,[.slice none 0 0,.int .i64 0]⟩
theorem Mb:af Tryz.prog 94=some N4:=by kernel_rfl
noncomputable def N_:TI:=⟨.slice 107,1,24,[.slice none 0 0]⟩
theorem KT:af Tryz.prog 95=some N_:=by kernel_rfl
noncomputable def Nm:TI:=⟨.struct [(0,60),(1,23),(2,75),(3,94),(5,95),(6,3),(7,48),(8,51),(9,65)],10,192,[.pointer none,.slice none 0 0,.slice none 0 0,.slice none 0 0,.int .i64 0,.slice none 0 0,.int .i64 0,.slice none 0 0,.slice none 0 0,.slice none 0 0]⟩
theorem K7:af Tryz.prog 96=some Nm:=by kernel_rfl
noncomputable def OU:TI:=⟨.struct [(0,60),(1,23),(2,75),(3,94),(5,95),(6,3),(7,48),(8,51),(9,65)],10,192,[.pointer none,.slice none 0 0,.slice none 0 0,.slice none 0 0,.int .i64 0,.slice none 0 0,.int .i64 0,.slice none 0 0,.slice none 0 0,.slice none 0 0]⟩
theorem Lg:af Tryz.prog 97=some OU:=by kernel_rfl
noncomputable def NQ:TI:=⟨.func,1,8,[.nilFunc]⟩
theorem Ko:af Tryz.prog 98=some NQ:=by kernel_rfl
noncomputable def Ox:TI:=⟨.array 5 98,5,40,[.nilFunc,.nilFunc,.nilFunc,.nilFunc,.nilFunc]⟩
theorem L4:af Tryz.prog 99=some Ox:=by kernel_rfl
noncomputable def I_:TI:=⟨.func,1,8,[.nilFunc]⟩
theorem D5:af Tryz.prog 100=some I_:=by kernel_rfl
noncomputable def AP:TI:=⟨.ptr 210,1,8,[.pointer none]⟩
theorem D3:af Tryz.prog 101=some AP:=by kernel_rfl
noncomputable def AH:TI:=⟨.ptr 203,1,8,[.pointer none]⟩
theorem Jh:af Tryz.prog 102=some AH:=by kernel_rfl
noncomputable def IS:TI:=⟨.struct [(0,48)],1,24,[.slice none 0 0]⟩
theorem Bi:af Tryz.prog 103=some IS:=by kernel_rfl
noncomputable def D8:TI:=⟨.struct [(0,48)],1,24,[.slice none 0 0]⟩
theorem AZ:af Tryz.prog 104=some D8:=by kernel_rfl
noncomputable def Hu:TI:=⟨.struct [(0,3),(1,101),(2,102),(3,104),(4,3),(5,3),(6,3)],7,72,[.int .i64 0,.pointer none,.pointer none,.slice none 0 0,.int .i64 0,.int .i64 0,.int .i64 0]⟩
theorem yL:af Tryz.prog 105=some Hu:=by kernel_rfl
noncomputable def B9:TI:=⟨.struct [(0,3),(1,101),(2,102),(3,104),(4,3),(5,3),(6,3)],7,72,[.int .i64 0,.pointer none,.pointer none,.slice none 0 0,.int .i64 0,.int .i64 0,.int .i64 0]⟩
theorem xN:af Tryz.prog 106=some B9:=by kernel_rfl
noncomputable def FF:TI:=⟨.ptr 106,1,8,[.pointer none]⟩
theorem Fw:af Tryz.prog 107=some FF:=by kernel_rfl
noncomputable def Hk:TI:=⟨.struct [(0,22),(1,48)],2,48,[.slice none 0 0,.slice none 0 0]⟩
theorem B7:af Tryz.prog 108=some Hk:=by kernel_rfl
noncomputable def GN:TI:=⟨.struct [(0,22),(1,48)],2,48,[.slice none 0 0,.slice none 0 0]⟩
theorem yZ:af Tryz.prog 109=some GN:=by kernel_rfl
noncomputable def yY:TI:=⟨.func,1,8,[.nilFunc]⟩
theorem yw:af Tryz.prog 110=some yY:=by kernel_rfl
noncomputable def zQ:TI:=⟨.struct [(0,3),(1,3)],2,16,[.int .i64 0,.int .i64 0]⟩
theorem Hj:af Tryz.prog 111=some zQ:=by kernel_rfl
noncomputable def HU:TI:=⟨.struct [(0,3),(1,3)],2,16,[.int .i64 0,.int .i64 0]⟩
theorem Da:af Tryz.prog 112=some HU:=by kernel_rfl
noncomputable def zN:TI:=⟨.array 8 112,16,128,[.int .i64 0,.int .i64 0,.int .i64 0,.int .i64 0,.int .i64 0,.int .i64 0,.int .i64 0,.int .i64 0,.int .i64 0,.int .i64 0,.int .i64 0,.int .i64 0,.int .i64 0,.int .i64 0,.int .i64 0,.int .i64 0]⟩
theorem xZ:af Tryz.prog 113=some zN:=by kernel_rfl
noncomputable def H_:TI:=⟨.func,1,8,[.nilFunc]⟩
theorem yr:af Tryz.prog 114=some H_:=by kernel_rfl
noncomputable def IW:TI:=⟨.func,1,8,[.nilFunc]⟩
theorem yb:af Tryz.prog 115=some IW:=by kernel_rfl
noncomputable def Du:TI:=⟨.ptr 42,1,8,[.pointer none]⟩
theorem C6:af Tryz.prog 116=some Du:=by kernel_rfl
noncomputable def CQ:TI:=⟨.ptr 121,1,8,[.pointer none]⟩
theorem D0:af Tryz.prog 117=some CQ:=by kernel_rfl
noncomputable def Id:TI:=⟨.ptr 145,1,8,[.pointer none]⟩
theorem zW:af Tryz.prog 118=some Id:=by kernel_rfl
noncomputable def Ji:TI:=⟨.ptr 225,1,8,[.pointer none]⟩
theorem yE:af Tryz.prog 119=some Ji:=by kernel_rfl
noncomputable def Ih:TI:=⟨.struct [(0,3),(1,3),(2,3),(3,3),(4,118),(5,119),(6,48),(7,48)],8,96,[.int .i64 0,.int .i64 0,.int .i64 0,.int .i64 0,.pointer none,.pointer none,.slice none 0 0,.slice none 0 0]⟩
theorem GX:af Tryz.prog 120=some Ih:=by kernel_rfl
noncomputable def A1:TI:=⟨.struct [(0,3),(1,3),(2,3),(3,3),(4,118),(5,119),(6,48),(7,48)],8,96,[.int .i64 0,.int .i64 0,.int .i64 0,.int .i64 0,.pointer none,.pointer none,.slice none 0 0,.slice none 0 0]⟩
theorem zn:af Tryz.prog 121=some A1:=by kernel_rfl
noncomputable def BN:TI:=⟨.func,1,8,[.nilFunc]⟩
theorem DS:af Tryz.prog 122=some BN:=by kernel_rfl
noncomputable def yU:TI:=⟨.func,1,8,[.nilFunc]⟩
theorem A6:af Tryz.prog 123=some yU:=by kernel_rfl
noncomputable def FM:TI:=⟨.func,1,8,[.nilFunc]⟩
theorem Ci:af Tryz.prog 124=some FM:=by kernel_rfl
noncomputable def Ak:TI:=⟨.func,1,8,[.nilFunc]⟩
theorem Jr:af Tryz.prog 125=some Ak:=by kernel_rfl
noncomputable def Ic:TI:=⟨.struct [(0,9),(1,9)],2,32,[.string ⟨#[]⟩,.string ⟨#[]⟩]⟩
theorem BH:af Tryz.prog 126=some Ic:=by kernel_rfl
noncomputable def vj:TI:=⟨.struct [(0,9),(1,9)],2,32,[.string ⟨#[]⟩,.string ⟨#[]⟩]⟩
theorem CF:af Tryz.prog 127=some vj:=by kernel_rfl
noncomputable def CN:TI:=⟨.slice 212,1,24,[.slice none 0 0]⟩
theorem AW:af Tryz.prog 128=some CN:=by kernel_rfl
noncomputable def C5:TI:=⟨.struct [(0,128)],1,24,[.slice none 0 0]⟩
theorem CP:af Tryz.prog 129=some C5:=by kernel_rfl
noncomputable def Bp:TI:=⟨.struct [(0,128)],1,24,[.slice none 0 0]⟩
theorem yJ:af Tryz.prog 130=some Bp:=by kernel_rfl
noncomputable def HJ:TI:=⟨.func,1,8,[.nilFunc]⟩
theorem Er:af Tryz.prog 131=some HJ:=by kernel_rfl
noncomputable def IA:TI:=⟨.func,1,8,[.nilFunc]⟩
theorem ER:af Tryz.prog 132=some IA:=by kernel_rfl
noncomputable def zv:TI:=⟨.func,1,8,[.nilFunc]⟩
theorem HL:af Tryz.prog 133=some zv:=by kernel_rfl
noncomputable def F6:TI:=⟨.func,1,8,[.nilFunc]⟩
theorem Fv:af Tryz.prog 134=some F6:=by kernel_rfl
noncomputable def Dm:TI:=⟨.func,1,8,[.nilFunc]⟩
theorem D_:af Tryz.prog 135=some Dm:=by kernel_rfl
noncomputable def yR:TI:=⟨.func,1,8,[.nilFunc]⟩
theorem BY:af Tryz.prog 136=some yR:=by kernel_rfl
noncomputable def Gy:TI:=⟨.func,1,8,[.nilFunc]⟩
theorem IH:af Tryz.prog 138=some Gy:=by kernel_rfl
noncomputable def Fo:TI:=⟨.func,1,8,[.nilFunc]⟩
theorem IK:af Tryz.prog 139=some Fo:=by kernel_rfl
noncomputable def Hm:TI:=⟨.func,1,8,[.nilFunc]⟩
theorem xi:af Tryz.prog 140=some Hm:=by kernel_rfl
noncomputable def xC:TI:=⟨.struct [(0,3),(1,3),(2,3),(3,3),(4,3),(5,4)],6,48,[.int .i64 0,.int .i64 0,.int .i64 0,.int .i64 0,.int .i64 0,.bool false]⟩
theorem Dl:af Tryz.prog 141=some xC:=by kernel_rfl
noncomputable def Jz:TI:=⟨.struct [(0,3),(1,3),(2,3),(3,3),(4,3),(5,4)],6,48,[.int .i64 0,.int .i64 0,.int .i64 0,.int .i64 0,.int .i64 0,.bool false]⟩
theorem I4:af Tryz.prog 142=some Jz:=by kernel_rfl
noncomputable def EX:TI:=⟨.array 65 142,390,3120,[.int .i64 0,.int .i64 0,.int .i64 0,.int .i64 0,.int .i64 0,.bool false,.int .i64 0,.int .i64 0,.int .i64 0,.int .i64 0,.int .i64 0,.bool false,.int .i64 0,.int .i64 0,.int .i64 0,.int .i64 0,.int .i64 0,.bool false,.int .i64 0,.int .i64 0,.int .i64 0,.int .i64 0,.int .i64 0,.bool false,.int .i64 0,.int .i64 0,.int .i64 0,.int .i64 0,.int .i64 0,.bool false,.int .i64 0,.int .i64 0,.int .i64 0,.int .i64 0,.int .i64 0,.bool false,.int .i64 0,.int .i64 0,.int .i64 0,.int .i64 0,.int .i64 0,.bool false,.int .i64 0,.int .i64 0,.int .i64 0,.int .i64 0,.int .i64 0,.bool false,.int .i64 0,.int .i64 0,.int .i64 0,.int .i64 0,.int .i64 0,.bool false,.int .i64 0,.int .i64 0,.int .i64 0,.int .i64 0,.int .i64 0,.bool false,.int .i64 0,.int .i64 0,.int .i64 0,.int .i64 0,.int .i64 0,.bool false,.int .i64 0,.int .i64 0,.int .i64 0,.int .i64 0,.int .i64 0,.bool false,.int .i64 0,.int .i64 0,.int .i64 0,.int .i64 0,.int .i64 0,.bool false,.int .i64 0,.int .i64 0,.int .i64 0,.int .i64 0,.int .i64 0,.bool false,.int .i64 0,.int .i64 0,.int .i64 0,.int .i64 0,.int .i64 0,.bool false,.int .i64 0,.int .i64 0,.int .i64 0,.int .i64 0,.int .i64 0,.bool false,.int .i64 0,.int .i64 0,.int .i64 0,.int .i64 0,.int .i64 0,.bool false,.int .i64 0,.int .i64 0,.int .i64 0,.int .i64 0,.int .i64 0,.bool false,.int .i64 0,.int .i64 0,.int .i64 0,.int .i64 0,.int .i64 0,.bool false,.int .i64 0,.int .i64 0,.int .i64 0,.int .i64 0,.int .i64 0,.bool false,.int .i64 0,.int .i64 0,.int .i64 0,.int .i64 0,.int .i64 0,.bool false,.int .i64 0,.int .i64 0,.int .i64 0,.int .i64 0,.int .i64 0,.bool false,.int .i64 0,.int .i64 0,.int .i64 0,.int .i64 0,.int .i64 0,.bool false,.int .i64 0,.int .i64 0,.int .i64 0,.int .i64 0,.int .i64 0,.bool false,.int .i64 0,.int .i64 0,.int .i64 0,.int .i64 0,.int .i64 0,.bool false,.int .i64 0,.int .i64 0,.int .i64 0,.int .i64 0,.int .i64 0,.bool false,.int .i64 0,.int .i64 0,.int .i64 0,.int .i64 0,.int .i64 0,.bool false,.int .i64 0,.int .i64 0,.int .i64 0,.int .i64 0,.int .i64 0,.bool false,.int .i64 0,.int .i64 0,.int .i64 0,.int .i64 0,.int .i64 0,.bool false,.int .i64 0,.int .i64 0,.int .i64 0,.int .i64 0,.int .i64 0,.bool false,.int .i64 0,.int .i64 0,.int .i64 0,.int .i64 0,.int .i64 0,.bool false,.int .i64 0,.int .i64 0,.int .i64 0,.int .i64 0,.int .i64 0,.bool false,.int .i64 0,.int .i64 0,.int .i64 0,.int .i64 0,.int .i64 0,.bool false,.int .i64 0,.int .i64 0,.int .i64 0,.int .i64 0,.int .i64 0,.bool false,.int .i64 0,.int .i64 0,.int .i64 0,.int .i64 0,.int .i64 0,.bool false,.int .i64 0,.int .i64 0,.int .i64 0,.int .i64 0,.int .i64 0,.bool false,.int .i64 0,.int .i64 0,.int .i64 0,.int .i64 0,.int .i64 0,.bool false,.int .i64 0,.int .i64 0,.int .i64 0,.int .i64 0,.int .i64 0,.bool false,.int .i64 0,.int .i64 0,.int .i64 0,.int .i64 0,.int .i64 0,.bool false,.int .i64 0,.int .i64 0,.int .i64 0,.int .i64 0,.int .i64 0,.bool false,.int .i64 0,.int .i64 0,.int .i64 0,.int .i64 0,.int .i64 0,.bool false,.int .i64 0,.int .i64 0,.int .i64 0,.int .i64 0,.int .i64 0,.bool false,.int .i64 0,.int .i64 0,.int .i64 0,.int .i64 0,.int .i64 0,.bool false,.int .i64 0,.int .i64 0,.int .i64 0,.int .i64 0,.int .i64 0,.bool false,.int .i64 0,.int .i64 0,.int .i64 0,.int .i64 0,.int .i64 0,.bool false,.int .i64 0,.int .i64 0,.int .i64 0,.int .i64 0,.int .i64 0,.bool false,.int .i64 0,.int .i64 0,.int .i64 0,.int .i64 0,.int .i64 0,.bool false,.int .i64 0,.int .i64 0,.int .i64 0,.int .i64 0,.int .i64 0,.bool false,.int .i64 0,.int .i64 0,.int .i64 0,.int .i64 0,.int .i64 0,.bool false,.int .i64 0,.int .i64 0,.int .i64 0,.int .i64 0,.int .i64 0,.bool false,.int .i64 0,.int .i64 0,.int .i64 0,.int .i64 0,.int .i64 0,.bool false,.int .i64 0,.int .i64 0,.int .i64 0,.int .i64 0,.int .i64 0,.bool false,.int .i64 0,.int .i64 0,.int .i64 0,.int .i64 0,.int .i64 0,.bool false,.int .i64 0,.int .i64 0,.int .i64 0,.int .i64 0,.int .i64 0,.bool false,.int .i64 0,.int .i64 0,.int .i64 0,.int .i64 0,.int .i64 0,.bool false,.int .i64 0,.int .i64 0,.int .i64 0,.int .i64 0,.int .i64 0,.bool false,.int .i64 0,.int .i64 0,.int .i64 0,.int .i64 0,.int .i64 0,.bool false,.int .i64 0,.int .i64 0,.int .i64 0,.int .i64 0,.int .i64 0,.bool false,.int .i64 0,.int .i64 0,.int .i64 0,.int .i64 0,.int .i64 0,.bool false,.int .i64 0,.int .i64 0,.int .i64 0,.int .i64 0,.int .i64 0,.bool false,.int .i64 0,.int .i64 0,.int .i64 0,.int .i64 0,.int .i64 0,.bool false,.int .i64 0,.int .i64 0,.int .i64 0,.int .i64 0,.int .i64 0,.bool false,.int .i64 0,.int .i64 0,.int .i64 0,.int .i64 0,.int .i64 0,.bool false,.int .i64 0,.int .i64 0,.int .i64 0,.int .i64 0,.int .i64 0,.bool false,.int .i64 0,.int .i64 0,.int .i64 0,.int .i64 0,.int .i64 0,.bool false]⟩
theorem I5:af Tryz.prog 143=some EX:=by kernel_rfl
noncomputable def Ct:TI:=⟨.struct [(0,3),(1,3),(2,3),(3,48),(4,143),(394,90)],398,3192,[.int .i64 0,.int .i64 0,.int .i64 0,.slice none 0 0,.int .i64 0,.int .i64 0,.int .i64 0,.int .i64 0,.int .i64 0,.bool false,.int .i64 0,.int .i64 0,.int .i64 0,.int .i64 0,.int .i64 0,.bool false,.int .i64 0,.int .i64 0,.int .i64 0,.int .i64 0,.int .i64 0,.bool false,.int .i64 0,.int .i64 0,.int .i64 0,.int .i64 0,.int .i64 0,.bool false,.int .i64 0,.int .i64 0,.int .i64 0,.int .i64 0,.int .i64 0,.bool false,.int .i64 0,.int .i64 0,.int .i64 0,.int .i64 0,.int .i64 0,.bool false,.int .i64 0,.int .i64 0,.int .i64 0,.int .i64 0,.int .i64 0,.bool false,.int .i64 0,.int .i64 0,.int .i64 0,.int .i64 0,.int .i64 0,.bool false,.int .i64 0,.int .i64 0,.int .i64 0,.int .i64 0,.int .i64 0,.bool false,.int .i64 0,.int .i64 0,.int .i64 0,.int .i64 0,.int .i64 0,.bool false,.int .i64 0,.int .i64 0,.int .i64 0,.int .i64 0,.int .i64 0,.bool false,.int .i64 0,.int .i64 0,.int .i64 0,.int .i64 0,.int .i64 0,.bool false,.int .i64 0,.int .i64 0,.int .i64 0,.int .i64 0,.int .i64 0,.bool false,.int .i64 0,.int .i64 0,.int .i64 0,.int .i64 0,.int .i64 0,.bool false,.int .i64 0,.int .i64 0,.int .i64 0,.int .i64 0,.int .i64 0,.bool false,.int .i64 0,.int .i64 0,.int .i64 0,.int .i64 0,.int .i64 0,.bool false,.int .i64 0,.int .i64 0,.int .i64 0,.int .i64 0,.int .i64 0,.bool false,.int .i64 0,.int .i64 0,.int .i64 0,.int .i64 0,.int .i64 0,.bool false,.int .i64 0,.int .i64 0,.int .i64 0,.int .i64 0,.int .i64 0,.bool false,.int .i64 0,.int .i64 0,.int .i64 0,.int .i64 0,.int .i64 0,.bool false,.int .i64 0,.int .i64 0,.int .i64 0,.int .i64 0,.int .i64 0,.bool false,.int .i64 0,.int .i64 0,.int .i64 0,.int .i64 0,.int .i64 0,.bool false,.int .i64 0,.int .i64 0,.int .i64 0,.int .i64 0,.int .i64 0,.bool false,.int .i64 0,.int .i64 0,.int .i64 0,.int .i64 0,.int .i64 0,.bool false,.int .i64 0,.int .i64 0,.int .i64 0,.int .i64 0,.int .i64 0,.bool false,.int .i64 0,.int .i64 0,.int .i64 0,.int .i64 0,.int .i64 0,.bool false,.int .i64 0,.int .i64 0,.int .i64 0,.int .i64 0,.int .i64 0,.bool false,.int .i64 0,.int .i64 0,.int .i64 0,.int .i64 0,.int .i64 0,.bool false,.int .i64 0,.int .i64 0,.int .i64 0,.int .i64 0,.int .i64 0,.bool false,.int .i64 0,.int .i64 0,.int .i64 0,.int .i64 0,.int .i64 0,.bool false,.int .i64 0,.int .i64 0,.int .i64 0,.int .i64 0,.int .i64 0,.bool false,.int .i64 0,.int .i64 0,.int .i64 0,.int .i64 0,.int .i64 0,.bool false,.int .i64 0,.int .i64 0,.int .i64 0,.int .i64 0,.int .i64 0,.bool false,.int .i64 0,.int .i64 0,.int .i64 0,.int .i64 0,.int .i64 0,.bool false,.int .i64 0,.int .i64 0,.int .i64 0,.int .i64 0,.int .i64 0,.bool false,.int .i64 0,.int .i64 0,.int .i64 0,.int .i64 0,.int .i64 0,.bool false,.int .i64 0,.int .i64 0,.int .i64 0,.int .i64 0,.int .i64 0,.bool false,.int .i64 0,.int .i64 0,.int .i64 0,.int .i64 0,.int .i64 0,.bool false,.int .i64 0,.int .i64 0,.int .i64 0,.int .i64 0,.int .i64 0,.bool false,.int .i64 0,.int .i64 0,.int .i64 0,.int .i64 0,.int .i64 0,.bool false,.int .i64 0,.int .i64 0,.int .i64 0,.int .i64 0,.int .i64 0,.bool false,.int .i64 0,.int .i64 0,.int .i64 0,.int .i64 0,.int .i64 0,.bool false,.int .i64 0,.int .i64 0,.int .i64 0,.int .i64 0,.int .i64 0,.bool false,.int .i64 0,.int .i64 0,.int .i64 0,.int .i64 0,.int .i64 0,.bool false,.int .i64 0,.int .i64 0,.int .i64 0,.int .i64 0,.int .i64 0,.bool false,.int .i64 0,.int .i64 0,.int .i64 0,.int .i64 0,.int .i64 0,.bool false,.int .i64 0,.int .i64 0,.int .i64 0,.int .i64 0,.int .i64 0,.bool false,.int .i64 0,.int .i64 0,.int .i64 0,.int .i64 0,.int .i64 0,.bool false,.int .i64 0,.int .i64 0,.int .i64 0,.int .i64 0,.int .i64 0,.bool false,.int .i64 0,.int .i64 0,.int .i64 0,.int .i64 0,.int .i64 0,.bool false,.int .i64 0,.int .i64 0,.int .i64 0,.int .i64 0,.int .i64 0,.bool false,.int .i64 0,.int .i64 0,.int .i64 0,.int .i64 0,.int .i64 0,.bool false,.int .i64 0,.int .i64 0,.int .i64 0,.int .i64 0,.int .i64 0,.bool false,.int .i64 0,.int .i64 0,.int .i64 0,.int .i64 0,.int .i64 0,.bool false,.int .i64 0,.int .i64 0,.int .i64 0,.int .i64 0,.int .i64 0,.bool false,.int .i64 0,.int .i64 0,.int .i64 0,.int .i64 0,.int .i64 0,.bool false,.int .i64 0,.int .i64 0,.int .i64 0,.int .i64 0,.int .i64 0,.bool false,.int .i64 0,.int .i64 0,.int .i64 0,.int .i64 0,.int .i64 0,.bool false,.int .i64 0,.int .i64 0,.int .i64 0,.int .i64 0,.int .i64 0,.bool false,.int .i64 0,.int .i64 0,.int .i64 0,.int .i64 0,.int .i64 0,.bool false,.int .i64 0,.int .i64 0,.int .i64 0,.int .i64 0,.int .i64 0,.bool false,.int .i64 0,.int .i64 0,.int .i64 0,.int .i64 0,.int .i64 0,.bool false,.int .i64 0,.int .i64 0,.int .i64 0,.int .i64 0,.int .i64 0,.bool false,.int .i64 0,.int .i64 0,.int .i64 0,.int .i64 0,.int .i64 0,.bool false,.int .i64 0,.int .i64 0,.int .i64 0,.int .i64 0,.int .i64 0,.bool false,.int .i64 0,.int .i64 0,.bool false,.bool false]⟩
theorem Jx:af Tryz.prog 144=some Ct:=by kernel_rfl
noncomputable def DM:TI:=⟨.struct [(0,3),(1,3),(2,3),(3,48),(4,143),(394,90)],398,3192,[.int .i64 0,.int .i64 0,.int .i64 0,.slice none 0 0,.int .i64 0,.int .i64 0,.int .i64 0,.int .i64 0,.int .i64 0,.bool false,.int .i64 0,.int .i64 0,.int .i64 0,.int .i64 0,.int .i64 0,.bool false,.int .i64 0,.int .i64 0,.int .i64 0,.int .i64 0,.int .i64 0,.bool false,.int .i64 0,.int .i64 0,.int .i64 0,.int .i64 0,.int .i64 0,.bool false,.int .i64 0,.int .i64 0,.int .i64 0,.int .i64 0,.int .i64 0,.bool false,.int .i64 0,.int .i64 0,.int .i64 0,.int .i64 0,.int .i64 0,.bool false,.int .i64 0,.int .i64 0,.int .i64 0,.int .i64 0,.int .i64 0,.bool false,.int .i64 0,.int .i64 0,.int .i64 0,.int .i64 0,.int .i64 0,.bool false,.int .i64 0,.int .i64 0,.int .i64 0,.int .i64 0,.int .i64 0,.bool false,.int .i64 0,.int .i64 0,.int .i64 0,.int .i64 0,.int .i64 0,.bool false,.int .i64 0,.int .i64 0,.int .i64 0,.int .i64 0,.int .i64 0,.bool false,.int .i64 0,.int .i64 0,.int .i64 0,.int .i64 0,.int .i64 0,.bool false,.int .i64 0,.int .i64 0,.int .i64 0,.int .i64 0,.int .i64 0,.bool false,.int .i64 0,.int .i64 0,.int .i64 0,.int .i64 0,.int .i64 0,.bool false,.int .i64 0,.int .i64 0,.int .i64 0,.int .i64 0,.int .i64 0,.bool false,.int .i64 0,.int .i64 0,.int .i64 0,.int .i64 0,.int .i64 0,.bool false,.int .i64 0,.int .i64 0,.int .i64 0,.int .i64 0,.int .i64 0,.bool false,.int .i64 0,.int .i64 0,.int .i64 0,.int .i64 0,.int .i64 0,.bool false,.int .i64 0,.int .i64 0,.int .i64 0,.int .i64 0,.int .i64 0,.bool false,.int .i64 0,.int .i64 0,.int .i64 0,.int .i64 0,.int .i64 0,.bool false,.int .i64 0,.int .i64 0,.int .i64 0,.int .i64 0,.int .i64 0,.bool false,.int .i64 0,.int .i64 0,.int .i64 0,.int .i64 0,.int .i64 0,.bool false,.int .i64 0,.int .i64 0,.int .i64 0,.int .i64 0,.int .i64 0,.bool false,.int .i64 0,.int .i64 0,.int .i64 0,.int .i64 0,.int .i64 0,.bool false,.int .i64 0,.int .i64 0,.int .i64 0,.int .i64 0,.int .i64 0,.bool false,.int .i64 0,.int .i64 0,.int .i64 0,.int .i64 0,.int .i64 0,.bool false,.int .i64 0,.int .i64 0,.int .i64 0,.int .i64 0,.int .i64 0,.bool false,.int .i64 0,.int .i64 0,.int .i64 0,.int .i64 0,.int .i64 0,.bool false,.int .i64 0,.int .i64 0,.int .i64 0,.int .i64 0,.int .i64 0,.bool false,.int .i64 0,.int .i64 0,.int .i64 0,.int .i64 0,.int .i64 0,.bool false,.int .i64 0,.int .i64 0,.int .i64 0,.int .i64 0,.int .i64 0,.bool false,.int .i64 0,.int .i64 0,.int .i64 0,.int .i64 0,.int .i64 0,.bool false,.int .i64 0,.int .i64 0,.int .i64 0,.int .i64 0,.int .i64 0,.bool false,.int .i64 0,.int .i64 0,.int .i64 0,.int .i64 0,.int .i64 0,.bool false,.int .i64 0,.int .i64 0,.int .i64 0,.int .i64 0,.int .i64 0,.bool false,.int .i64 0,.int .i64 0,.int .i64 0,.int .i64 0,.int .i64 0,.bool false,.int .i64 0,.int .i64 0,.int .i64 0,.int .i64 0,.int .i64 0,.bool false,.int .i64 0,.int .i64 0,.int .i64 0,.int .i64 0,.int .i64 0,.bool false,.int .i64 0,.int .i64 0,.int .i64 0,.int .i64 0,.int .i64 0,.bool false,.int .i64 0,.int .i64 0,.int .i64 0,.int .i64 0,.int .i64 0,.bool false,.int .i64 0,.int .i64 0,.int .i64 0,.int .i64 0,.int .i64 0,.bool false,.int .i64 0,.int .i64 0,.int .i64 0,.int .i64 0,.int .i64 0,.bool false,.int .i64 0,.int .i64 0,.int .i64 0,.int .i64 0,.int .i64 0,.bool false,.int .i64 0,.int .i64 0,.int .i64 0,.int .i64 0,.int .i64 0,.bool false,.int .i64 0,.int .i64 0,.int .i64 0,.int .i64 0,.int .i64 0,.bool false,.int .i64 0,.int .i64 0,.int .i64 0,.int .i64 0,.int .i64 0,.bool false,.int .i64 0,.int .i64 0,.int .i64 0,.int .i64 0,.int .i64 0,.bool false,.int .i64 0,.int .i64 0,.int .i64 0,.int .i64 0,.int .i64 0,.bool false,.int .i64 0,.int .i64 0,.int .i64 0,.int .i64 0,.int .i64 0,.bool false,.int .i64 0,.int .i64 0,.int .i64 0,.int .i64 0,.int .i64 0,.bool false,.int .i64 0,.int .i64 0,.int .i64 0,.int .i64 0,.int .i64 0,.bool false,.int .i64 0,.int .i64 0,.int .i64 0,.int .i64 0,.int .i64 0,.bool false,.int .i64 0,.int .i64 0,.int .i64 0,.int .i64 0,.int .i64 0,.bool false,.int .i64 0,.int .i64 0,.int .i64 0,.int .i64 0,.int .i64 0,.bool false,.int .i64 0,.int .i64 0,.int .i64 0,.int .i64 0,.int .i64 0,.bool false,.int .i64 0,.int .i64 0,.int .i64 0,.int .i64 0,.int .i64 0,.bool false,.int .i64 0,.int .i64 0,.int .i64 0,.int .i64 0,.int .i64 0,.bool false,.int .i64 0,.int .i64 0,.int .i64 0,.int .i64 0,.int .i64 0,.bool false,.int .i64 0,.int .i64 0,.int .i64 0,.int .i64 0,.int .i64 0,.bool false,.int .i64 0,.int .i64 0,.int .i64 0,.int .i64 0,.int .i64 0,.bool false,.int .i64 0,.int .i64 0,.int .i64 0,.int .i64 0,.int .i64 0,.bool false,.int .i64 0,.int .i64 0,.int .i64 0,.int .i64 0,.int .i64 0,.bool false,.int .i64 0,.int .i64 0,.int .i64 0,.int .i64 0,.int .i64 0,.bool false,.int .i64 0,.int .i64 0,.int .i64 0,.int .i64 0,.int .i64 0,.bool false,.int .i64 0,.int .i64 0,.int .i64 0,.int .i64 0,.int .i64 0,.bool false,.int .i64 0,.int .i64 0,.bool false,.bool false]⟩
theorem Ba:af Tryz.prog 145=some DM:=by kernel_rfl
noncomputable def Gf:TI:=⟨.func,1,8,[.nilFunc]⟩
theorem EM:af Tryz.prog 147=some Gf:=by kernel_rfl
noncomputable def B2:TI:=⟨.func,1,8,[.nilFunc]⟩
theorem IQ:af Tryz.prog 148=some B2:=by kernel_rfl
noncomputable def AK:TI:=⟨.func,1,8,[.nilFunc]⟩
theorem Jk:af Tryz.prog 149=some AK:=by kernel_rfl
noncomputable def Br:TI:=⟨.slice 185,1,24,[.slice none 0 0]⟩
theorem yh:af Tryz.prog 150=some Br:=by kernel_rfl
noncomputable def Hg:TI:=⟨.struct [(0,75),(1,150)],2,48,[.slice none 0 0,.slice none 0 0]⟩
theorem AC:af Tryz.prog 151=some Hg:=by kernel_rfl
noncomputable def FS:TI:=⟨.struct [(0,75),(1,150)],2,48,[.slice none 0 0,.slice none 0 0]⟩
theorem zR:af Tryz.prog 152=some FS:=by kernel_rfl
noncomputable def F_:TI:=⟨.func,1,8,[.nilFunc]⟩
theorem AE:af Tryz.prog 153=some F_:=by kernel_rfl
noncomputable def EE:TI:=⟨.slice 259,1,24,[.slice none 0 0]⟩
theorem EG:af Tryz.prog 154=some EE:=by kernel_rfl
noncomputable def DP:TI:=⟨.struct [(0,154)],1,24,[.slice none 0 0]⟩
theorem Gz:af Tryz.prog 155=some DP:=by kernel_rfl
noncomputable def xM:TI:=⟨.struct [(0,154)],1,24,[.slice none 0 0]⟩
theorem xB:af Tryz.prog 156=some xM:=by kernel_rfl
noncomputable def BT:TI:=⟨.struct [(0,3)],1,8,[.int .i64 0]⟩
theorem xu:af Tryz.prog 157=some BT:=by kernel_rfl
noncomputable def Ep:TI:=⟨.struct [(0,3)],1,8,[.int .i64 0]⟩
theorem zH:af Tryz.prog 158=some Ep:=by kernel_rfl
noncomputable def z0:TI:=⟨.int .u64,1,8,[.int .u64 0]⟩
theorem Cn:af Tryz.prog 159=some z0:=by kernel_rfl
noncomputable def Ij:TI:=⟨.map 3 166,1,8,[.map none]⟩
theorem Do:af Tryz.prog 160=some Ij:=by kernel_rfl
noncomputable def zt:TI:=⟨.slice 165,1,24,[.slice none 0 0]⟩
theorem xx:af Tryz.prog 161=some zt:=by kernel_rfl
noncomputable def Am:TI:=⟨.slice 178,1,24,[.slice none 0 0]⟩
theorem Dv:af Tryz.prog 162=some Am:=by kernel_rfl
noncomputable def Dx:TI:=⟨.struct [(0,3),(1,161),(2,161),(3,160),(4,162)],5,88,[.int .i64 0,.slice none 0 0,.slice none 0 0,.map none,.slice none 0 0]⟩
theorem EJ:af Tryz.prog 163=some Dx:=by kernel_rfl
noncomputable def Gn:TI:=⟨.struct [(0,3),(1,161),(2,161),(3,160),(4,162)],5,88,[.int .i64 0,.slice none 0 0,.slice none 0 0,.map none,.slice none 0 0]⟩
theorem Ax:af Tryz.prog 164=some Gn:=by kernel_rfl
noncomputable def Aw:TI:=⟨.slice 3,1,24,[.slice none 0 0]⟩
theorem yG:af Tryz.prog 165=some Aw:=by kernel_rfl
noncomputable def FG:TI:=⟨.ptr 172,1,8,[.pointer none]⟩
theorem yO:af Tryz.prog 166=some FG:=by kernel_rfl
noncomputable def BM:TI:=⟨.func,1,8,[.nilFunc]⟩
theorem DO:af Tryz.prog 167=some BM:=by kernel_rfl
noncomputable def Az:TI:=⟨.func,1,8,[.nilFunc]⟩
theorem Db:af Tryz.prog 168=some Az:=by kernel_rfl
noncomputable def EY:TI:=⟨.array 4 48,4,96,[.slice none 0 0,.slice none 0 0,.slice none 0 0,.slice none 0 0]⟩
theorem IV:af Tryz.prog 169=some EY:=by kernel_rfl
noncomputable def GU:TI:=⟨.array 4 48,4,96,[.slice none 0 0,.slice none 0 0,.slice none 0 0,.slice none 0 0]⟩
theorem Cl:af Tryz.prog 170=some GU:=by kernel_rfl
noncomputable def Iq:TI:=⟨.struct [(0,165),(1,170)],5,120,[.slice none 0 0,.slice none 0 0,.slice none 0 0,.slice none 0 0,.slice none 0 0]⟩
theorem HM:af Tryz.prog 171=some Iq:=by kernel_rfl
noncomputable def Hr:TI:=⟨.struct [(0,165),(1,170)],5,120,[.slice none 0 0,.slice none 0 0,.slice none 0 0,.slice none 0 0,.slice none 0 0]⟩
theorem Cv:af Tryz.prog 172=some Hr:=by kernel_rfl
noncomputable def Ee:TI:=⟨.func,1,8,[.nilFunc]⟩
theorem ym:af Tryz.prog 173=some Ee:=by kernel_rfl
noncomputable def I3:TI:=⟨.func,1,8,[.nilFunc]⟩
theorem DI:af Tryz.prog 174=some I3:=by kernel_rfl
noncomputable def CD:TI:=⟨.func,1,8,[.nilFunc]⟩
theorem Hv:af Tryz.prog 175=some CD:=by kernel_rfl
noncomputable def CG:TI:=⟨.func,1,8,[.nilFunc]⟩
theorem Gx:af Tryz.prog 176=some CG:=by kernel_rfl
noncomputable def yW:TI:=⟨.struct [(0,3),(1,3),(2,165)],3,40,[.int .i64 0,.int .i64 0,.slice none 0 0]⟩
theorem FC:af Tryz.prog 177=some yW:=by kernel_rfl
noncomputable def yu:TI:=⟨.struct [(0,3),(1,3),(2,165)],3,40,[.int .i64 0,.int .i64 0,.slice none 0 0]⟩
theorem zB:af Tryz.prog 178=some yu:=by kernel_rfl
noncomputable def Ia:TI:=⟨.func,1,8,[.nilFunc]⟩
theorem xR:af Tryz.prog 179=some Ia:=by kernel_rfl
noncomputable def D9:TI:=⟨.func,1,8,[.nilFunc]⟩
theorem Jl:af Tryz.prog 180=some D9:=by kernel_rfl
noncomputable def Aa:TI:=⟨.array 8 4,8,8,[.bool false,.bool false,.bool false,.bool false,.bool false,.bool false,.bool false,.bool false]⟩
theorem zy:af Tryz.prog 181=some Aa:=by kernel_rfl
noncomputable def BO:TI:=⟨.func,1,8,[.nilFunc]⟩
theorem F4:af Tryz.prog 183=some BO:=by kernel_rfl
noncomputable def EA:TI:=⟨.struct [(0,3),(1,112),(3,4)],4,32,[.int .i64 0,.int .i64 0,.int .i64 0,.bool false]⟩
theorem GZ:af Tryz.prog 184=some EA:=by kernel_rfl
noncomputable def Ay:TI:=⟨.struct [(0,3),(1,112),(3,4)],4,32,[.int .i64 0,.int .i64 0,.int .i64 0,.bool false]⟩
theorem DQ:af Tryz.prog 185=some Ay:=by kernel_rfl
noncomputable def G0:TI:=⟨.func,1,8,[.nilFunc]⟩
theorem CR:af Tryz.prog 186=some G0:=by kernel_rfl
noncomputable def I2:TI:=⟨.func,1,8,[.nilFunc]⟩
theorem yy:af Tryz.prog 187=some I2:=by kernel_rfl
noncomputable def zj:TI:=⟨.ptr 94,1,8,[.pointer none]⟩
theorem BU:af Tryz.prog 188=some zj:=by kernel_rfl
noncomputable def A2:TI:=⟨.struct [(0,42),(8,3)],9,72,[.int .i64 0,.int .i64 0,.int .i64 0,.int .i64 0,.int .i64 0,.int .i64 0,.int .i64 0,.int .i64 0,.int .i64 0]⟩
theorem HQ:af Tryz.prog 189=some A2:=by kernel_rfl
noncomputable def De:TI:=⟨.struct [(0,42),(8,3)],9,72,[.int .i64 0,.int .i64 0,.int .i64 0,.int .i64 0,.int .i64 0,.int .i64 0,.int .i64 0,.int .i64 0,.int .i64 0]⟩
theorem GI:af Tryz.prog 190=some De:=by kernel_rfl
noncomputable def Ek:TI:=⟨.func,1,8,[.nilFunc]⟩
theorem Bj:af Tryz.prog 191=some Ek:=by kernel_rfl
noncomputable def z2:TI:=⟨.func,1,8,[.nilFunc]⟩
theorem FX:af Tryz.prog 192=some z2:=by kernel_rfl
noncomputable def E9:TI:=⟨.func,1,8,[.nilFunc]⟩
theorem zp:af Tryz.prog 193=some E9:=by kernel_rfl
noncomputable def FT:TI:=⟨.func,1,8,[.nilFunc]⟩
theorem CE:af Tryz.prog 194=some FT:=by kernel_rfl
noncomputable def Eu:TI:=⟨.func,1,8,[.nilFunc]⟩
theorem HZ:af Tryz.prog 195=some Eu:=by kernel_rfl
noncomputable def Jq:TI:=⟨.func,1,8,[.nilFunc]⟩
theorem I9:af Tryz.prog 196=some Jq:=by kernel_rfl
noncomputable def Ck:TI:=⟨.func,1,8,[.nilFunc]⟩
theorem Hw:af Tryz.prog 197=some Ck:=by kernel_rfl
noncomputable def If:TI:=⟨.func,1,8,[.nilFunc]⟩
theorem HD:af Tryz.prog 198=some If:=by kernel_rfl
noncomputable def DT:TI:=⟨.slice 206,1,24,[.slice none 0 0]⟩
theorem IT:af Tryz.prog 199=some DT:=by kernel_rfl
noncomputable def Ix:TI:=⟨.struct [(0,199)],1,24,[.slice none 0 0]⟩
theorem CH:af Tryz.prog 200=some Ix:=by kernel_rfl
noncomputable def Cg:TI:=⟨.struct [(0,199)],1,24,[.slice none 0 0]⟩
theorem HB:af Tryz.prog 201=some Cg:=by kernel_rfl
noncomputable def xD:TI:=⟨.struct [(0,3),(1,201)],2,32,[.int .i64 0,.slice none 0 0]⟩
theorem Eb:af Tryz.prog 202=some xD:=by kernel_rfl
noncomputable def FA:TI:=⟨.struct [(0,3),(1,201)],2,32,[.int .i64 0,.slice none 0 0]⟩
theorem yx:af Tryz.prog 203=some FA:=by kernel_rfl
noncomputable def G9:TI:=⟨.func,1,8,[.nilFunc]⟩
theorem zz:af Tryz.prog 204=some G9:=by kernel_rfl
noncomputable def FK:TI:=⟨.struct [(0,3),(1,3)],2,16,[.int .i64 0,.int .i64 0]⟩
theorem zc:af Tryz.prog 205=some FK:=by kernel_rfl
noncomputable def Hy:TI:=⟨.struct [(0,3),(1,3)],2,16,[.int .i64 0,.int .i64 0]⟩
theorem GQ:af Tryz.prog 206=some Hy:=by kernel_rfl
noncomputable def Co:TI:=⟨.ptr 222,1,8,[.pointer none]⟩
theorem Dg:af Tryz.prog 207=some Co:=by kernel_rfl
noncomputable def IE:TI:=⟨.array 65 207,65,520,[.pointer none,.pointer none,.pointer none,.pointer none,.pointer none,.pointer none,.pointer none,.pointer none,.pointer none,.pointer none,.pointer none,.pointer none,.pointer none,.pointer none,.pointer none,.pointer none,.pointer none,.pointer none,.pointer none,.pointer none,.pointer none,.pointer none,.pointer none,.pointer none,.pointer none,.pointer none,.pointer none,.pointer none,.pointer none,.pointer none,.pointer none,.pointer none,.pointer none,.pointer none,.pointer none,.pointer none,.pointer none,.pointer none,.pointer none,.pointer none,.pointer none,.pointer none,.pointer none,.pointer none,.pointer none,.pointer none,.pointer none,.pointer none,.pointer none,.pointer none,.pointer none,.pointer none,.pointer none,.pointer none,.pointer none,.pointer none,.pointer none,.pointer none,.pointer none,.pointer none,.pointer none,.pointer none,.pointer none,.pointer none,.pointer none]⟩
theorem xG:af Tryz.prog 208=some IE:=by kernel_rfl
noncomputable def Dz:TI:=⟨.struct [(0,48),(1,3),(2,3),(3,208),(68,90)],72,584,[.slice none 0 0,.int .i64 0,.int .i64 0,.pointer none,.pointer none,.pointer none,.pointer none,.pointer none,.pointer none,.pointer none,.pointer none,.pointer none,.pointer none,.pointer none,.pointer none,.pointer none,.pointer none,.pointer none,.pointer none,.pointer none,.pointer none,.pointer none,.pointer none,.pointer none,.pointer none,.pointer none,.pointer none,.pointer none,.pointer none,.pointer none,.pointer none,.pointer none,.pointer none,.pointer none,.pointer none,.pointer none,.pointer none,.pointer none,.pointer none,.pointer none,.pointer none,.pointer none,.pointer none,.pointer none,.pointer none,.pointer none,.pointer none,.pointer none,.pointer none,.pointer none,.pointer none,.pointer none,.pointer none,.pointer none,.pointer none,.pointer none,.pointer none,.pointer none,.pointer none,.pointer none,.pointer none,.pointer none,.pointer none,.pointer none,.pointer none,.pointer none,.pointer none,.pointer none,.int .i64 0,.int .i64 0,.bool false,.bool false]⟩
theorem zV:af Tryz.prog 209=some Dz:=by kernel_rfl
noncomputable def GB:TI:=⟨.struct [(0,48),(1,3),(2,3),(3,208),(68,90)],72,584,[.slice none 0 0,.int .i64 0,.int .i64 0,.pointer none,.pointer none,.pointer none,.pointer none,.pointer none,.pointer none,.pointer none,.pointer none,.pointer none,.pointer none,.pointer none,.pointer none,.pointer none,.pointer none,.pointer none,.pointer none,.pointer none,.pointer none,.pointer none,.pointer none,.pointer none,.pointer none,.pointer none,.pointer none,.pointer none,.pointer none,.pointer none,.pointer none,.pointer none,.pointer none,.pointer none,.pointer none,.pointer none,.pointer none,.pointer none,.pointer none,.pointer none,.pointer none,.pointer none,.pointer none,.pointer none,.pointer none,.pointer none,.pointer none,.pointer none,.pointer none,.pointer none,.pointer none,.pointer none,.pointer none,.pointer none,.pointer none,.pointer none,.pointer none,.pointer none,.pointer none,.pointer none,.pointer none,.pointer none,.pointer none,.pointer none,.pointer none,.pointer none,.pointer none,.pointer none,.int .i64 0,.int .i64 0,.bool false,.bool false]⟩
theorem DB:af Tryz.prog 210=some GB:=by kernel_rfl
noncomputable def FP:TI:=⟨.struct [(0,56),(5,48),(6,3),(7,3),(8,3)],9,136,[.int .i64 0,.string ⟨#[]⟩,.string ⟨#[]⟩,.slice none 0 0,.slice none 0 0,.slice none 0 0,.int .i64 0,.int .i64 0,.int .i64 0]⟩
theorem G4:af Tryz.prog 211=some FP:=by kernel_rfl
noncomputable def zk:TI:=⟨.struct [(0,56),(5,48),(6,3),(7,3),(8,3)],9,136,[.int .i64 0,.string ⟨#[]⟩,.string ⟨#[]⟩,.slice none 0 0,.slice none 0 0,.slice none 0 0,.int .i64 0,.int .i64 0,.int .i64 0]⟩
theorem ES:af Tryz.prog 212=some zk:=by kernel_rfl
noncomputable def Hn:TI:=⟨.ptr 212,1,8,[.pointer none]⟩
theorem Gj:af Tryz.prog 213=some Hn:=by kernel_rfl
noncomputable def yD:TI:=⟨.func,1,8,[.nilFunc]⟩
theorem Gk:af Tryz.prog 214=some yD:=by kernel_rfl
noncomputable def Cz:TI:=⟨.func,1,8,[.nilFunc]⟩
theorem zx:af Tryz.prog 215=some Cz:=by kernel_rfl
noncomputable def Ir:TI:=⟨.func,1,8,[.nilFunc]⟩
theorem GW:af Tryz.prog 216=some Ir:=by kernel_rfl
noncomputable def xY:TI:=⟨.func,1,8,[.nilFunc]⟩
theorem Cy:af Tryz.prog 217=some xY:=by kernel_rfl
noncomputable def DC:TI:=⟨.func,1,8,[.nilFunc]⟩
theorem Il:af Tryz.prog 218=some DC:=by kernel_rfl
noncomputable def Hh:TI:=⟨.func,1,8,[.nilFunc]⟩
theorem Ch:af Tryz.prog 219=some Hh:=by kernel_rfl
noncomputable def zu:TI:=⟨.func,1,8,[.nilFunc]⟩
theorem BR:af Tryz.prog 220=some zu:=by kernel_rfl
noncomputable def II:TI:=⟨.struct [(0,101),(1,3),(2,3),(3,3),(4,3),(5,4),(6,219)],7,56,[.pointer none,.int .i64 0,.int .i64 0,.int .i64 0,.int .i64 0,.bool false,.nilFunc]⟩
theorem A_:af Tryz.prog 221=some II:=by kernel_rfl
noncomputable def EU:TI:=⟨.struct [(0,101),(1,3),(2,3),(3,3),(4,3),(5,4),(6,219)],7,56,[.pointer none,.int .i64 0,.int .i64 0,.int .i64 0,.int .i64 0,.bool false,.nilFunc]⟩
theorem Ae:af Tryz.prog 222=some EU:=by kernel_rfl
noncomputable def zh:TI:=⟨.slice 247,1,24,[.slice none 0 0]⟩
theorem yK:af Tryz.prog 223=some zh:=by kernel_rfl
noncomputable def Jd:TI:=⟨.struct [(0,3),(1,223)],2,32,[.int .i64 0,.slice none 0 0]⟩
theorem Dr:af Tryz.prog 224=some Jd:=by kernel_rfl
noncomputable def BX:TI:=⟨.struct [(0,3),(1,223)],2,32,[.int .i64 0,.slice none 0 0]⟩
theorem DR:af Tryz.prog 225=some BX:=by kernel_rfl
noncomputable def z9:TI:=⟨.ptr 79,1,8,[.pointer none]⟩
theorem Cf:af Tryz.prog 226=some z9:=by kernel_rfl
noncomputable def yn:TI:=⟨.struct [(0,42),(8,3)],9,72,[.int .i64 0,.int .i64 0,.int .i64 0,.int .i64 0,.int .i64 0,.int .i64 0,.int .i64 0,.int .i64 0,.int .i64 0]⟩
theorem DV:af Tryz.prog 227=some yn:=by kernel_rfl
noncomputable def Cj:TI:=⟨.struct [(0,42),(8,3)],9,72,[.int .i64 0,.int .i64 0,.int .i64 0,.int .i64 0,.int .i64 0,.int .i64 0,.int .i64 0,.int .i64 0,.int .i64 0]⟩
theorem AD:af Tryz.prog 228=some Cj:=by kernel_rfl
noncomputable def FR:TI:=⟨.func,1,8,[.nilFunc]⟩
theorem EV:af Tryz.prog 229=some FR:=by kernel_rfl
noncomputable def yz:TI:=⟨.func,1,8,[.nilFunc]⟩
theorem F5:af Tryz.prog 230=some yz:=by kernel_rfl
noncomputable def BE:TI:=⟨.func,1,8,[.nilFunc]⟩
theorem xj:af Tryz.prog 231=some BE:=by kernel_rfl
noncomputable def x_:TI:=⟨.func,1,8,[.nilFunc]⟩
theorem F3:af Tryz.prog 232=some x_:=by kernel_rfl
noncomputable def xJ:TI:=⟨.func,1,8,[.nilFunc]⟩
theorem DE:af Tryz.prog 233=some xJ:=by kernel_rfl
noncomputable def Hz:TI:=⟨.func,1,8,[.nilFunc]⟩
theorem zi:af Tryz.prog 234=some Hz:=by kernel_rfl
noncomputable def IX:TI:=⟨.func,1,8,[.nilFunc]⟩
theorem Iu:af Tryz.prog 235=some IX:=by kernel_rfl
noncomputable def Gc:TI:=⟨.func,1,8,[.nilFunc]⟩
theorem zP:af Tryz.prog 236=some Gc:=by kernel_rfl
noncomputable def CO:TI:=⟨.func,1,8,[.nilFunc]⟩
theorem GK:af Tryz.prog 237=some CO:=by kernel_rfl
noncomputable def Bl:TI:=⟨.func,1,8,[.nilFunc]⟩
theorem AT:af Tryz.prog 238=some Bl:=by kernel_rfl
noncomputable def zg:TI:=⟨.func,1,8,[.nilFunc]⟩
theorem E_:af Tryz.prog 239=some zg:=by kernel_rfl
noncomputable def yH:TI:=⟨.func,1,8,[.nilFunc]⟩
theorem FY:af Tryz.prog 240=some yH:=by kernel_rfl
noncomputable def As:TI:=⟨.func,1,8,[.nilFunc]⟩
theorem Ht:af Tryz.prog 241=some As:=by kernel_rfl
noncomputable def HV:TI:=⟨.slice 5,1,24,[.slice none 0 0]⟩
theorem Ft:af Tryz.prog 242=some HV:=by kernel_rfl
noncomputable def Cq:TI:=⟨.func,1,8,[.nilFunc]⟩
theorem AA:af Tryz.prog 243=some Cq:=by kernel_rfl
noncomputable def Ii:TI:=⟨.func,1,8,[.nilFunc]⟩
theorem FU:af Tryz.prog 244=some Ii:=by kernel_rfl
noncomputable def HF:TI:=⟨.func,1,8,[.nilFunc]⟩
theorem Bb:af Tryz.prog 245=some HF:=by kernel_rfl
noncomputable def Ig:TI:=⟨.struct [(0,3),(1,3)],2,16,[.int .i64 0,.int .i64 0]⟩
theorem zG:af Tryz.prog 246=some Ig:=by kernel_rfl
noncomputable def BI:TI:=⟨.struct [(0,3),(1,3)],2,16,[.int .i64 0,.int .i64 0]⟩
theorem DX:af Tryz.prog 247=some BI:=by kernel_rfl
noncomputable def Jo:TI:=⟨.func,1,8,[.nilFunc]⟩
theorem Jt:af Tryz.prog 248=some Jo:=by kernel_rfl
noncomputable def Ho:TI:=⟨.func,1,8,[.nilFunc]⟩
theorem BA:af Tryz.prog 249=some Ho:=by kernel_rfl
noncomputable def BP:TI:=⟨.func,1,8,[.nilFunc]⟩
theorem HY:af Tryz.prog 250=some BP:=by kernel_rfl
noncomputable def B_:TI:=⟨.ptr 201,1,8,[.pointer none]⟩
theorem HO:af Tryz.prog 251=some B_:=by kernel_rfl
noncomputable def An:TI:=⟨.func,1,8,[.nilFunc]⟩
theorem Fj:af Tryz.prog 252=some An:=by kernel_rfl
noncomputable def zA:TI:=⟨.func,1,8,[.nilFunc]⟩
theorem C4:af Tryz.prog 253=some zA:=by kernel_rfl
noncomputable def I0:TI:=⟨.slice 280,1,24,[.slice none 0 0]⟩
theorem xh:af Tryz.prog 254=some I0:=by kernel_rfl
noncomputable def zf:TI:=⟨.slice 262,1,24,[.slice none 0 0]⟩
theorem Jv:af Tryz.prog 255=some zf:=by kernel_rfl
noncomputable def BF:TI:=⟨.struct [(0,9),(1,53),(2,53),(3,254),(4,255)],5,112,[.string ⟨#[]⟩,.slice none 0 0,.slice none 0 0,.slice none 0 0,.slice none 0 0]⟩
theorem GC:af Tryz.prog 256=some BF:=by kernel_rfl
noncomputable def Cm:TI:=⟨.struct [(0,9),(1,53),(2,53),(3,254),(4,255)],5,112,[.string ⟨#[]⟩,.slice none 0 0,.slice none 0 0,.slice none 0 0,.slice none 0 0]⟩
theorem yQ:af Tryz.prog 257=some Cm:=by kernel_rfl
noncomputable def C_:TI:=⟨.struct [(0,3),(1,257)],6,120,[.int .i64 0,.string ⟨#[]⟩,.slice none 0 0,.slice none 0 0,.slice none 0 0,.slice none 0 0]⟩
theorem B5:af Tryz.prog 258=some C_:=by kernel_rfl
noncomputable def B1:TI:=⟨.struct [(0,3),(1,257)],6,120,[.int .i64 0,.string ⟨#[]⟩,.slice none 0 0,.slice none 0 0,.slice none 0 0,.slice none 0 0]⟩
theorem xo:af Tryz.prog 259=some B1:=by kernel_rfl
noncomputable def CT:TI:=⟨.func,1,8,[.nilFunc]⟩
theorem E6:af Tryz.prog 260=some CT:=by kernel_rfl
noncomputable def Bw:TI:=⟨.struct [(0,3),(1,3),(2,3),(3,75)],4,48,[.int .i64 0,.int .i64 0,.int .i64 0,.slice none 0 0]⟩
theorem xX:af Tryz.prog 261=some Bw:=by kernel_rfl
noncomputable def CS:TI:=⟨.struct [(0,3),(1,3),(2,3),(3,75)],4,48,[.int .i64 0,.int .i64 0,.int .i64 0,.slice none 0 0]⟩
theorem zl:af Tryz.prog 262=some CS:=by kernel_rfl
noncomputable def BC:TI:=⟨.func,1,8,[.nilFunc]⟩
theorem Ip:af Tryz.prog 263=some BC:=by kernel_rfl
noncomputable def Gr:TI:=⟨.func,1,8,[.nilFunc]⟩
theorem yA:af Tryz.prog 264=some Gr:=by kernel_rfl
noncomputable def yT:TI:=⟨.func,1,8,[.nilFunc]⟩
theorem xP:af Tryz.prog 265=some yT:=by kernel_rfl
noncomputable def Iw:TI:=⟨.func,1,8,[.nilFunc]⟩
theorem Fy:af Tryz.prog 266=some Iw:=by kernel_rfl
noncomputable def Av:TI:=⟨.func,1,8,[.nilFunc]⟩
theorem AM:af Tryz.prog 267=some Av:=by kernel_rfl
noncomputable def Gb:TI:=⟨.func,1,8,[.nilFunc]⟩
theorem ED:af Tryz.prog 268=some Gb:=by kernel_rfl
noncomputable def HI:TI:=⟨.func,1,8,[.nilFunc]⟩
theorem C9:af Tryz.prog 269=some HI:=by kernel_rfl
noncomputable def Aj:TI:=⟨.ptr 104,1,8,[.pointer none]⟩
theorem IB:af Tryz.prog 270=some Aj:=by kernel_rfl
noncomputable def BG:TI:=⟨.func,1,8,[.nilFunc]⟩
theorem Dk:af Tryz.prog 271=some BG:=by kernel_rfl
noncomputable def I7:TI:=⟨.func,1,8,[.nilFunc]⟩
theorem Gm:af Tryz.prog 272=some I7:=by kernel_rfl
noncomputable def GD:TI:=⟨.func,1,8,[.nilFunc]⟩
theorem AY:af Tryz.prog 273=some GD:=by kernel_rfl
noncomputable def Dy:TI:=⟨.ptr 142,1,8,[.pointer none]⟩
theorem zw:af Tryz.prog 274=some Dy:=by kernel_rfl
noncomputable def Gi:TI:=⟨.func,1,8,[.nilFunc]⟩
theorem HW:af Tryz.prog 275=some Gi:=by kernel_rfl
noncomputable def BQ:TI:=⟨.func,1,8,[.nilFunc]⟩
theorem xe:af Tryz.prog 276=some BQ:=by kernel_rfl
noncomputable def GY:TI:=⟨.func,1,8,[.nilFunc]⟩
theorem Ec:af Tryz.prog 277=some GY:=by kernel_rfl
noncomputable def Dc:TI:=⟨.func,1,8,[.nilFunc]⟩
theorem Dd:af Tryz.prog 278=some Dc:=by kernel_rfl
noncomputable def G7:TI:=⟨.struct [(0,9),(1,3),(2,9)],3,40,[.string ⟨#[]⟩,.int .i64 0,.string ⟨#[]⟩]⟩
theorem zY:af Tryz.prog 279=some G7:=by kernel_rfl
noncomputable def DK:TI:=⟨.struct [(0,9),(1,3),(2,9)],3,40,[.string ⟨#[]⟩,.int .i64 0,.string ⟨#[]⟩]⟩
theorem It:af Tryz.prog 280=some DK:=by kernel_rfl
noncomputable def EN:TI:=⟨.func,1,8,[.nilFunc]⟩
theorem Bt:af Tryz.prog 281=some EN:=by kernel_rfl
noncomputable def Hs:TI:=⟨.func,1,8,[.nilFunc]⟩
theorem D4:af Tryz.prog 282=some Hs:=by kernel_rfl
noncomputable def zo:TI:=⟨.func,1,8,[.nilFunc]⟩
theorem Fh:af Tryz.prog 283=some zo:=by kernel_rfl
noncomputable def F9:TI:=⟨.func,1,8,[.nilFunc]⟩
theorem Dp:af Tryz.prog 284=some F9:=by kernel_rfl
noncomputable def FH:TI:=⟨.func,1,8,[.nilFunc]⟩
theorem A3:af Tryz.prog 285=some FH:=by kernel_rfl
noncomputable def zU:TI:=⟨.struct [(0,185),(4,3)],5,40,[.int .i64 0,.int .i64 0,.int .i64 0,.bool false,.int .i64 0]⟩
theorem B4:af Tryz.prog 286=some zU:=by kernel_rfl
noncomputable def HT:TI:=⟨.struct [(0,185),(4,3)],5,40,[.int .i64 0,.int .i64 0,.int .i64 0,.bool false,.int .i64 0]⟩
theorem IF:af Tryz.prog 287=some HT:=by kernel_rfl
noncomputable def Jf:TI:=⟨.array 8 287,40,320,[.int .i64 0,.int .i64 0,.int .i64 0,.bool false,.int .i64 0,.int .i64 0,.int .i64 0,.int .i64 0,.bool false,.int .i64 0,.int .i64 0,.int .i64 0,.int .i64 0,.bool false,.int .i64 0,.int .i64 0,.int .i64 0,.int .i64 0,.bool false,.int .i64 0,.int .i64 0,.int .i64 0,.int .i64 0,.bool false,.int .i64 0,.int .i64 0,.int .i64 0,.int .i64 0,.bool false,.int .i64 0,.int .i64 0,.int .i64 0,.int .i64 0,.bool false,.int .i64 0,.int .i64 0,.int .i64 0,.int .i64 0,.bool false,.int .i64 0]⟩
theorem xK:af Tryz.prog 288=some Jf:=by kernel_rfl
noncomputable def By:TI:=⟨.func,1,8,[.nilFunc]⟩
theorem Fs:af Tryz.prog 289=some By:=by kernel_rfl
noncomputable def zS:TI:=⟨.func,1,8,[.nilFunc]⟩
theorem FI:af Tryz.prog 290=some zS:=by kernel_rfl
noncomputable def Ce:TI:=⟨.func,1,8,[.nilFunc]⟩
theorem Ge:af Tryz.prog 291=some Ce:=by kernel_rfl
noncomputable def yB:TI:=⟨.func,1,8,[.nilFunc]⟩
theorem Jj:af Tryz.prog 292=some yB:=by kernel_rfl
noncomputable def xq:TI:=⟨.array 3 3,3,24,[.int .i64 0,.int .i64 0,.int .i64 0]⟩
theorem D6:af Tryz.prog 293=some xq:=by kernel_rfl
noncomputable def zT:TI:=⟨.func,1,8,[.nilFunc]⟩
theorem ye:af Tryz.prog 294=some zT:=by kernel_rfl
noncomputable def xp:TI:=⟨.func,1,8,[.nilFunc]⟩
theorem DH:af Tryz.prog 295=some xp:=by kernel_rfl
noncomputable def Fq:TI:=⟨.func,1,8,[.nilFunc]⟩
theorem F8:af Tryz.prog 296=some Fq:=by kernel_rfl
noncomputable def Gw:TI:=⟨.func,1,8,[.nilFunc]⟩
theorem ya:af Tryz.prog 297=some Gw:=by kernel_rfl
noncomputable def yv:TI:=⟨.func,1,8,[.nilFunc]⟩
theorem DG:af Tryz.prog 298=some yv:=by kernel_rfl
noncomputable def Je:TI:=⟨.func,1,8,[.nilFunc]⟩
theorem Ea:af Tryz.prog 299=some Je:=by kernel_rfl
noncomputable def Gh:TI:=⟨.func,1,8,[.nilFunc]⟩
theorem Io:af Tryz.prog 300=some Gh:=by kernel_rfl
noncomputable def DD:TI:=⟨.func,1,8,[.nilFunc]⟩
theorem A5:af Tryz.prog 301=some DD:=by kernel_rfl
noncomputable def CK:TI:=⟨.func,1,8,[.nilFunc]⟩
theorem xf:af Tryz.prog 302=some CK:=by kernel_rfl
noncomputable def IU:TI:=⟨.ptr 317,1,8,[.pointer none]⟩
theorem EK:af Tryz.prog 303=some IU:=by kernel_rfl
noncomputable def Bg:TI:=⟨.func,1,8,[.nilFunc]⟩
theorem Hi:af Tryz.prog 304=some Bg:=by kernel_rfl
noncomputable def AQ:TI:=⟨.func,1,8,[.nilFunc]⟩
theorem yq:af Tryz.prog 305=some AQ:=by kernel_rfl
noncomputable def IR:TI:=⟨.func,1,8,[.nilFunc]⟩
theorem GR:af Tryz.prog 306=some IR:=by kernel_rfl
noncomputable def xn:TI:=⟨.func,1,8,[.nilFunc]⟩
theorem AL:af Tryz.prog 307=some xn:=by kernel_rfl
noncomputable def Cc:TI:=⟨.array 3 3,3,24,[.int .i64 0,.int .i64 0,.int .i64 0]⟩
theorem Dh:af Tryz.prog 308=some Cc:=by kernel_rfl
noncomputable def AB:TI:=⟨.func,1,8,[.nilFunc]⟩
theorem yo:af Tryz.prog 309=some AB:=by kernel_rfl
noncomputable def EL:TI:=⟨.func,1,8,[.nilFunc]⟩
theorem CL:af Tryz.prog 310=some EL:=by kernel_rfl
noncomputable def Ad:TI:=⟨.func,1,8,[.nilFunc]⟩
theorem IN:af Tryz.prog 311=some Ad:=by kernel_rfl
noncomputable def IL:TI:=⟨.func,1,8,[.nilFunc]⟩
theorem A8:af Tryz.prog 312=some IL:=by kernel_rfl
noncomputable def Bu:TI:=⟨.func,1,8,[.nilFunc]⟩
theorem Cr:af Tryz.prog 313=some Bu:=by kernel_rfl
noncomputable def FB:TI:=⟨.map 326 4,1,8,[.map none]⟩
theorem I8:af Tryz.prog 314=some FB:=by kernel_rfl
noncomputable def Eh:TI:=⟨.slice 318,1,24,[.slice none 0 0]⟩
theorem EH:af Tryz.prog 315=some Eh:=by kernel_rfl
noncomputable def yN:TI:=⟨.struct [(0,60),(1,315),(2,314)],3,40,[.pointer none,.slice none 0 0,.map none]⟩
theorem C8:af Tryz.prog 316=some yN:=by kernel_rfl
noncomputable def Jm:TI:=⟨.struct [(0,60),(1,315),(2,314)],3,40,[.pointer none,.slice none 0 0,.map none]⟩
theorem xT:af Tryz.prog 317=some Jm:=by kernel_rfl
noncomputable def Ey:TI:=⟨.slice 321,1,24,[.slice none 0 0]⟩
theorem y_:af Tryz.prog 318=some Ey:=by kernel_rfl
noncomputable def Gv:TI:=⟨.slice 48,1,24,[.slice none 0 0]⟩
theorem HE:af Tryz.prog 319=some Gv:=by kernel_rfl
noncomputable def In:TI:=⟨.struct [(0,259),(6,319)],7,144,[.int .i64 0,.string ⟨#[]⟩,.slice none 0 0,.slice none 0 0,.slice none 0 0,.slice none 0 0,.slice none 0 0]⟩
theorem ET:af Tryz.prog 320=some In:=by kernel_rfl
noncomputable def Cs:TI:=⟨.struct [(0,259),(6,319)],7,144,[.int .i64 0,.string ⟨#[]⟩,.slice none 0 0,.slice none 0 0,.slice none 0 0,.slice none 0 0,.slice none 0 0]⟩
theorem yP:af Tryz.prog 321=some Cs:=by kernel_rfl
noncomputable def Df:TI:=⟨.ptr 308,1,8,[.pointer none]⟩
theorem Im:af Tryz.prog 322=some Df:=by kernel_rfl
noncomputable def Gg:TI:=⟨.func,1,8,[.nilFunc]⟩
theorem xl:af Tryz.prog 323=some Gg:=by kernel_rfl
noncomputable def Bq:TI:=⟨.func,1,8,[.nilFunc]⟩
theorem GT:af Tryz.prog 324=some Bq:=by kernel_rfl
noncomputable def ID:TI:=⟨.struct [(0,3),(1,3),(2,3),(3,4)],4,32,[.int .i64 0,.int .i64 0,.int .i64 0,.bool false]⟩
theorem Ei:af Tryz.prog 325=some ID:=by kernel_rfl
noncomputable def IZ:TI:=⟨.struct [(0,3),(1,3),(2,3),(3,4)],4,32,[.int .i64 0,.int .i64 0,.int .i64 0,.bool false]⟩
theorem Fa:af Tryz.prog 326=some IZ:=by kernel_rfl
noncomputable def Bv:TI:=⟨.func,1,8,[.nilFunc]⟩
theorem Iy:af Tryz.prog 327=some Bv:=by kernel_rfl
noncomputable def xA:TI:=⟨.int .u64,1,8,[.int .u64 0]⟩
theorem DF:af Tryz.prog 328=some xA:=by kernel_rfl
noncomputable def CM:TI:=⟨.func,1,8,[.nilFunc]⟩
theorem GO:af Tryz.prog 330=some CM:=by kernel_rfl
noncomputable def EP:TI:=⟨.func,1,8,[.nilFunc]⟩
theorem yf:af Tryz.prog 331=some EP:=by kernel_rfl
noncomputable def Ik:TI:=⟨.func,1,8,[.nilFunc]⟩
theorem Eo:af Tryz.prog 332=some Ik:=by kernel_rfl
noncomputable def zC:TI:=⟨.func,1,8,[.nilFunc]⟩
theorem CW:af Tryz.prog 333=some zC:=by kernel_rfl
noncomputable def z_:TI:=⟨.func,1,8,[.nilFunc]⟩
theorem C0:af Tryz.prog 334=some z_:=by kernel_rfl
noncomputable def Au:TI:=⟨.func,1,8,[.nilFunc]⟩
theorem zd:af Tryz.prog 335=some Au:=by kernel_rfl
noncomputable def BW:TI:=⟨.func,1,8,[.nilFunc]⟩
theorem zI:af Tryz.prog 336=some BW:=by kernel_rfl
noncomputable def Ew:TI:=⟨.func,1,8,[.nilFunc]⟩
theorem E4:af Tryz.prog 337=some Ew:=by kernel_rfl
noncomputable def FQ:TI:=⟨.int .u32,1,4,[.int .u32 0]⟩
theorem AI:af Tryz.prog 338=some FQ:=by kernel_rfl
noncomputable def Bf:TI:=⟨.func,1,8,[.nilFunc]⟩
theorem BL:af Tryz.prog 340=some Bf:=by kernel_rfl
noncomputable def DN:TI:=⟨.func,1,8,[.nilFunc]⟩
theorem I1:af Tryz.prog 341=some DN:=by kernel_rfl
noncomputable def BV:TI:=⟨.struct [(0,17),(1,17),(2,17),(3,9)],4,40,[.pointer none,.pointer none,.pointer none,.string ⟨#[]⟩]⟩
theorem D7:af Tryz.prog 342=some BV:=by kernel_rfl
noncomputable def zK:TI:=⟨.struct [(0,17),(1,17),(2,17),(3,9)],4,40,[.pointer none,.pointer none,.pointer none,.string ⟨#[]⟩]⟩
theorem C1:af Tryz.prog 343=some zK:=by kernel_rfl
noncomputable def zJ:TI:=⟨.array 0 16,0,0,[]⟩
theorem Is:af Tryz.prog 344=some zJ:=by kernel_rfl
noncomputable def Fu:TI:=⟨.struct [(0,344)],0,0,[]⟩
theorem FV:af Tryz.prog 345=some Fu:=by kernel_rfl
noncomputable def Ap:TI:=⟨.struct [(0,344)],0,0,[]⟩
theorem Gl:af Tryz.prog 346=some Ap:=by kernel_rfl
noncomputable def xF:TI:=⟨.int .u8,1,1,[.int .u8 0]⟩
theorem GM:af Tryz.prog 347=some xF:=by kernel_rfl
noncomputable def G5:TI:=⟨.int .u8,1,1,[.int .u8 0]⟩
theorem BZ:af Tryz.prog 348=some G5:=by kernel_rfl
noncomputable def yS:TI:=⟨.func,1,8,[.nilFunc]⟩
theorem AF:af Tryz.prog 349=some yS:=by kernel_rfl
noncomputable def Dw:TI:=⟨.ptr 5,1,8,[.pointer none]⟩
theorem Ef:af Tryz.prog 350=some Dw:=by kernel_rfl
noncomputable def xE:TI:=⟨.int .i32,1,4,[.int .i32 0]⟩
theorem CY:af Tryz.prog 351=some xE:=by kernel_rfl
noncomputable def HC:TI:=⟨.int .i32,1,4,[.int .i32 0]⟩
theorem FE:af Tryz.prog 352=some HC:=by kernel_rfl
noncomputable def DA:TI:=⟨.struct [(0,12),(1,12),(2,338),(3,347),(4,5),(5,5),(6,348),(7,349),(8,350),(9,351),(10,352)],11,48,[.int .u64 0,.int .u64 0,.int .u32 0,.int .u8 0,.int .u8 0,.int .u8 0,.int .u8 0,.nilFunc,.pointer none,.int .i32 0,.int .i32 0]⟩
theorem yj:af Tryz.prog 353=some DA:=by kernel_rfl
noncomputable def EQ:TI:=⟨.struct [(0,12),(1,12),(2,338),(3,347),(4,5),(5,5),(6,348),(7,349),(8,350),(9,351),(10,352)],11,48,[.int .u64 0,.int .u64 0,.int .u32 0,.int .u8 0,.int .u8 0,.int .u8 0,.int .u8 0,.nilFunc,.pointer none,.int .i32 0,.int .i32 0]⟩
theorem Iz:af Tryz.prog 354=some EQ:=by kernel_rfl
noncomputable def tiT:Tr TI:=.node none (.node (some ti1) (.node (some ti3) (.node (some ti7) (.node (some N2) (.node (some OK) (.node none (.node (some vj) (.node (some zf) .leaf .leaf) .leaf) (.node (some Ek) (.node (some Gv) .leaf .leaf) .leaf)) (.node (some N_) (.node (some z0) (.node (some HT) .leaf .leaf) .leaf) (.node (some zh) (.node (some xE) .leaf .leaf) .leaf))) (.node (some NN) (.node (some NZ) (.node (some EX) (.node (some BG) .leaf .leaf) .leaf) (.node (some Co) (.node (some Au) .leaf .leaf) .leaf)) (.node (some zQ) (.node (some CD) (.node (some IU) .leaf .leaf) .leaf) (.node (some zg) .leaf .leaf)))) (.node (some NW) (.node (some NG) (.node (some O6) (.node (some Dm) (.node (some BC) .leaf .leaf) .leaf) (.node (some DT) (.node (some Bv) .leaf .leaf) .leaf)) (.node (some IS) (.node (some BM) (.node (some xp) .leaf .leaf) .leaf) (.node (some BE) .leaf .leaf))) (.node (some Nz) (.node (some Nk) (.node (some Hg) (.node (some G7) .leaf .leaf) .leaf) (.node (some Cz) (.node (some zK) .leaf .leaf) .leaf)) (.node (some Ji) (.node (some BO) (.node (some Ad) .leaf .leaf) .leaf) (.node (some BI) .leaf .leaf))))) (.node (some OH) (.node (some Pj) (.node (some OJ) (.node (some MV) (.node (some HJ) (.node (some B1) .leaf .leaf) .leaf) (.node (some Eu) (.node (some Gg) .leaf .leaf) .leaf)) (.node (some Ox) (.node (some Dx) (.node (some Ce) .leaf .leaf) .leaf) (.node (some yn) .leaf .leaf))) (.node (some OY) (.node (some Pc) (.node (some Gf) (.node (some Gi) .leaf .leaf) .leaf) (.node (some FP) .leaf .leaf)) (.node (some IW) (.node (some Ia) (.node (some xn) .leaf .leaf) .leaf) (.node (some Cq) .leaf .leaf)))) (.node (some Pa) (.node (some Nh) (.node (some Ng) (.node (some Fo) (.node (some Av) .leaf .leaf) .leaf) (.node (some FA) (.node (some EP) .leaf .leaf) .leaf)) (.node (some FF) (.node (some Iq) (.node (some Je) .leaf .leaf) .leaf) (.node (some IX) .leaf .leaf))) (.node (some OT) (.node (some Nv) (.node (some DP) (.node (some zo) .leaf .leaf) .leaf) (.node (some Hh) (.node (some xF) .leaf .leaf) .leaf)) (.node (some yU) (.node (some I2) (.node (some Eh) .leaf .leaf) .leaf) (.node (some B_) .leaf .leaf)))))) (.node (some ti5) (.node (some ti9) (.node (some Nr) (.node (some Pg) (.node (some NJ) (.node (some C5) (.node (some Cm) .leaf .leaf) .leaf) (.node (some E9) (.node (some Cs) .leaf .leaf) .leaf)) (.node (some OU) (.node (some zt) (.node (some By) .leaf .leaf) .leaf) (.node (some BX) (.node (some DA) .leaf .leaf) .leaf))) (.node (some NE) (.node (some O4) (.node (some DM) (.node (some GD) .leaf .leaf) .leaf) (.node (some Dz) (.node (some Ew) .leaf .leaf) .leaf)) (.node (some zN) (.node (some yW) (.node (some AQ) .leaf .leaf) .leaf) (.node (some As) .leaf .leaf)))) (.node (some Ny) (.node (some Nj) (.node (some ND) (.node none (.node (some yT) .leaf .leaf) .leaf) (.node (some Cg) .leaf .leaf)) (.node (some Hu) (.node (some EY) (.node (some Gw) .leaf .leaf) .leaf) (.node (some xJ) .leaf .leaf))) (.node (some Nu) (.node (some M_) (.node (some F_) (.node (some EN) .leaf .leaf) .leaf) (.node (some xY) (.node (some Fu) .leaf .leaf) .leaf)) (.node (some A1) (.node (some Ay) (.node (some Bu) .leaf .leaf) .leaf) (.node (some Ho) .leaf .leaf))))) (.node (some Oa) (.node (some OG) (.node none (.node (some OL) (.node (some zv) (.node (some Bw) .leaf .leaf) .leaf) (.node (some Ck) (.node (some ID) .leaf .leaf) .leaf)) (.node (some AP) (.node (some Aw) (.node (some xq) .leaf .leaf) .leaf) (.node (some FR) .leaf .leaf))) (.node (some Lv) (.node (some OQ) (.node (some AK) (.node (some GY) .leaf .leaf) .leaf) (.node (some Hn) (.node (some DN) .leaf .leaf) .leaf)) (.node (some CQ) (.node (some Aa) (.node (some AB) .leaf .leaf) .leaf) (.node (some HF) .leaf .leaf)))) (.node none (.node (some Np) (.node (some ON) (.node (some xC) (.node (some HI) .leaf .leaf) .leaf) (.node (some FK) (.node (some zC) .leaf .leaf) .leaf)) (.node (some GN) (.node (some Ee) (.node (some DD) .leaf .leaf) .leaf) (.node (some CO) .leaf .leaf))) (.node none (.node (some NY) (.node (some BT) (.node (some FH) .leaf .leaf) .leaf) (.node (some II) (.node (some yS) .leaf .leaf) .leaf)) (.node (some Ak) (.node (some A2) (.node (some Jm) .leaf .leaf) .leaf) (.node (some zA) .leaf .leaf))))))) (.node (some ti2) (.node (some ti4) (.node (some ti8) (.node (some NA) (.node (some OC) (.node (some OB) (.node (some CN) (.node (some BF) .leaf .leaf) .leaf) (.node (some z2) (.node (some In) .leaf .leaf) .leaf)) (.node (some Nm) (.node (some Ij) (.node (some Jf) .leaf .leaf) .leaf) (.node (some Jd) (.node (some HC) .leaf .leaf) .leaf))) (.node (some O7) (.node (some NC) (.node (some Ct) (.node (some I7) .leaf .leaf) .leaf) (.node (some IE) (.node (some BW) .leaf .leaf) .leaf)) (.node (some HU) (.node (some CG) (.node (some Bg) .leaf .leaf) .leaf) (.node (some yH) .leaf .leaf)))) (.node (some NR) (.node (some OW) (.node (some MZ) (.node (some yR) (.node (some Gr) .leaf .leaf) .leaf) (.node (some Ix) (.node (some xA) .leaf .leaf) .leaf)) (.node (some D8) (.node (some Az) (.node (some Fq) .leaf .leaf) .leaf) (.node (some x_) .leaf .leaf))) (.node (some Ku) (.node (some Ov) (.node (some FS) (.node (some DK) .leaf .leaf) .leaf) (.node (some Ir) (.node (some zJ) .leaf .leaf) .leaf)) (.node (some Ih) (.node (some EA) (.node (some IL) .leaf .leaf) .leaf) (.node (some Jo) .leaf .leaf))))) (.node (some N7) (.node none (.node (some Nc) (.node (some MT) (.node (some IA) (.node (some CT) .leaf .leaf) .leaf) (.node (some Jq) (.node (some Bq) .leaf .leaf) .leaf)) (.node (some I_) (.node (some Gn) (.node (some yB) .leaf .leaf) .leaf) (.node (some Cj) .leaf .leaf))) (.node (some OP) (.node (some OO) (.node (some B2) (.node (some BQ) .leaf .leaf) .leaf) (.node (some zk) (.node (some Bf) .leaf .leaf) .leaf)) (.node (some Du) (.node (some D9) (.node (some Cc) .leaf .leaf) .leaf) (.node (some Ii) .leaf .leaf)))) (.node (some Nf) (.node none (.node (some Nn) (.node (some Hm) (.node (some Gb) .leaf .leaf) .leaf) (.node (some G9) (.node (some Ik) .leaf .leaf) .leaf)) (.node (some Hk) (.node (some Hr) (.node (some Gh) .leaf .leaf) .leaf) (.node (some Gc) .leaf .leaf))) (.node (some N8) (.node (some Oz) (.node (some xM) (.node (some F9) .leaf .leaf) .leaf) (.node (some zu) (.node (some G5) .leaf .leaf) .leaf)) (.node (some FM) (.node (some zj) (.node (some yN) .leaf .leaf) .leaf) (.node (some An) .leaf .leaf)))))) (.node (some ti6) (.node (some Od) (.node (some O8) (.node (some Ot) (.node (some NP) (.node (some Bp) (.node (some C_) .leaf .leaf) .leaf) (.node (some FT) (.node (some Df) .leaf .leaf) .leaf)) (.node (some NQ) (.node (some Am) (.node (some zS) .leaf .leaf) .leaf) (.node (some z9) (.node (some EQ) .leaf .leaf) .leaf))) (.node (some Oy) (.node (some NB) (.node none (.node (some Dy) .leaf .leaf) .leaf) (.node (some GB) (.node (some FQ) .leaf .leaf) .leaf)) (.node (some H_) (.node (some yu) (.node (some IR) .leaf .leaf) .leaf) (.node (some HV) .leaf .leaf)))) (.node (some NL) (.node (some MY) (.node (some MU) (.node (some Gy) (.node (some Iw) .leaf .leaf) .leaf) (.node (some xD) (.node (some CM) .leaf .leaf) .leaf)) (.node (some B9) (.node (some GU) (.node (some yv) .leaf .leaf) .leaf) (.node (some Hz) .leaf .leaf))) (.node (some Oh) (.node (some OE) (.node (some EE) (.node (some Hs) .leaf .leaf) .leaf) (.node (some DC) (.node (some Ap) .leaf .leaf) .leaf)) (.node (some BN) (.node (some G0) (.node (some FB) .leaf .leaf) .leaf) (.node (some BP) .leaf .leaf))))) (.node (some Pf) (.node (some LL) (.node (some Nw) (.node none (.node (some F6) (.node (some CS) .leaf .leaf) .leaf) (.node (some If) (.node (some IZ) .leaf .leaf) .leaf)) (.node (some AH) (.node (some FG) (.node (some zT) .leaf .leaf) .leaf) (.node (some yz) .leaf .leaf))) (.node (some Kg) (.node (some Nx) (.node (some Br) (.node (some Dc) .leaf .leaf) .leaf) (.node (some yD) (.node (some BV) .leaf .leaf) .leaf)) (.node (some Id) (.node none (.node (some EL) .leaf .leaf) .leaf) (.node (some Ig) .leaf .leaf)))) (.node (some OD) (.node (some Pk) (.node (some Na) (.node (some Jz) (.node (some Aj) .leaf .leaf) .leaf) (.node (some Hy) (.node (some z_) .leaf .leaf) .leaf)) (.node (some yY) (.node (some I3) (.node (some CK) .leaf .leaf) .leaf) (.node (some Bl) .leaf .leaf))) (.node (some NF) (.node (some N4) (.node (some Ep) (.node (some zU) .leaf .leaf) .leaf) (.node (some EU) (.node (some Dw) .leaf .leaf) .leaf)) (.node (some Ic) (.node (some De) (.node (some Ey) .leaf .leaf) .leaf) (.node (some I0) .leaf .leaf)))))))
theorem BD:tiT.toL=[(1,ti1),(3,ti3),(7,ti7),(15,N2),(31,OK),(127,vj),(255,zf),(191,Ek),(319,Gv),(95,N_),(159,z0),(287,HT),(223,zh),(351,xE),(47,NN),(79,NZ),(143,EX),(271,BG),(207,Co),(335,Au),(111,zQ),(175,CD),(303,IU),(239,zg),(23,NW),(39,NG),(71,O6),(135,Dm),(263,BC),(199,DT),(327,Bv),(103,IS),(167,BM),(295,xp),(231,BE),(55,Nz),(87,Nk),(151,Hg),(279,G7),(215,Cz),(343,zK),(119,Ji),(183,BO),(311,Ad),(247,BI),(11,OH),(19,Pj),(35,OJ),(67,MV),(131,HJ),(259,B1),(195,Eu),(323,Gg),(99,Ox),(163,Dx),(291,Ce),(227,yn),(51,OY),(83,Pc),(147,Gf),(275,Gi),(211,FP),(115,IW),(179,Ia),(307,xn),(243,Cq),(27,Pa),(43,Nh),(75,Ng),(139,Fo),(267,Av),(203,FA),(331,EP),(107,FF),(171,Iq),(299,Je),(235,IX),(59,OT),(91,Nv),(155,DP),(283,zo),(219,Hh),(347,xF),(123,yU),(187,I2),(315,Eh),(251,B_),(5,ti5),(9,ti9),(17,Nr),(33,Pg),(65,NJ),(129,C5),(257,Cm),(193,E9),(321,Cs),(97,OU),(161,zt),(289,By),(225,BX),(353,DA),(49,NE),(81,O4),(145,DM),(273,GD),(209,Dz),(337,Ew),(113,zN),(177,yW),(305,AQ),(241,As),(25,Ny),(41,Nj),(73,ND),(265,yT),(201,Cg),(105,Hu),(169,EY),(297,Gw),(233,xJ),(57,Nu),(89,M_),(153,F_),(281,EN),(217,xY),(345,Fu),(121,A1),(185,Ay),(313,Bu),(249,Ho),(13,Oa),(21,OG),(69,OL),(133,zv),(261,Bw),(197,Ck),(325,ID),(101,AP),(165,Aw),(293,xq),(229,FR),(53,Lv),(85,OQ),(149,AK),(277,GY),(213,Hn),(341,DN),(117,CQ),(181,Aa),(309,AB),(245,HF),(45,Np),(77,ON),(141,xC),(269,HI),(205,FK),(333,zC),(109,GN),(173,Ee),(301,DD),(237,CO),(93,NY),(157,BT),(285,FH),(221,II),(349,yS),(125,Ak),(189,A2),(317,Jm),(253,zA),(2,ti2),(4,ti4),(8,ti8),(16,NA),(32,OC),(64,OB),(128,CN),(256,BF),(192,z2),(320,In),(96,Nm),(160,Ij),(288,Jf),(224,Jd),(352,HC),(48,O7),(80,NC),(144,Ct),(272,I7),(208,IE),(336,BW),(112,HU),(176,CG),(304,Bg),(240,yH),(24,NR),(40,OW),(72,MZ),(136,yR),(264,Gr),(200,Ix),(328,xA),(104,D8),(168,Az),(296,Fq),(232,x_),(56,Ku),(88,Ov),(152,FS),(280,DK),(216,Ir),(344,zJ),(120,Ih),(184,EA),(312,IL),(248,Jo),(12,N7),(36,Nc),(68,MT),(132,IA),(260,CT),(196,Jq),(324,Bq),(100,I_),(164,Gn),(292,yB),(228,Cj),(52,OP),(84,OO),(148,B2),(276,BQ),(212,zk),(340,Bf),(116,Du),(180,D9),(308,Cc),(244,Ii),(28,Nf),(76,Nn),(140,Hm),(268,Gb),(204,G9),(332,Ik),(108,Hk),(172,Hr),(300,Gh),(236,Gc),(60,N8),(92,Oz),(156,xM),(284,F9),(220,zu),(348,G5),(124,FM),(188,zj),(316,yN),(252,An),(6,ti6),(10,Od),(18,O8),(34,Ot),(66,NP),(130,Bp),(258,C_),(194,FT),(322,Df),(98,NQ),(162,Am),(290,zS),(226,z9),(354,EQ),(50,Oy),(82,NB),(274,Dy),(210,GB),(338,FQ),(114,H_),(178,yu),(306,IR),(242,HV),(26,NL),(42,MY),(74,MU),(138,Gy),(266,Iw),(202,xD),(330,CM),(106,B9),(170,GU),(298,yv),(234,Hz),(58,Oh),(90,OE),(154,EE),(282,Hs),(218,DC),(346,Ap),(122,BN),(186,G0),(314,FB),(250,BP),(14,Pf),(22,LL),(38,Nw),(134,F6),(262,CS),(198,If),(326,IZ),(102,AH),(166,FG),(294,zT),(230,yz),(54,Kg),(86,Nx),(150,Br),(278,Dc),(214,yD),(342,BV),(118,Id),(310,EL),(246,Ig),(30,OD),(46,Pk),(78,Na),(142,Jz),(270,Aj),(206,Hy),(334,z_),(110,yY),(174,I3),(302,CK),(238,Bl),(62,NF),(94,N4),(158,Ep),(286,zU),(222,EU),(350,Dw),(126,Ic),(190,De),(318,Ey),(254,I0)]:=by kernel_rfl
theorem ry:∀ t i,tiT.get t=some i→af Tryz.prog t=some i:=by
 refine Tr.all_get (p:=fun t i=>af Tryz.prog t=some i) ?_
 rw [BD]
 exact .cons OX (.cons OZ (.cons OA (.cons K3 (.cons K_ (.cons CF (.cons Jv (.cons Bj (.cons HE (.cons KT (.cons Cn (.cons IF (.cons yK (.cons CY (.cons KA (.cons KX (.cons I5 (.cons Dk (.cons Dg (.cons zd (.cons Hj (.cons Hv (.cons EK (.cons E_ (.cons Ma (.cons LR (.cons JG (.cons D_ (.cons Ip (.cons IT (.cons Iy (.cons Bi (.cons DO (.cons DH (.cons xj (.cons Ll (.cons JD (.cons AC (.cons zY (.cons zx (.cons C1 (.cons yE (.cons F4 (.cons IN (.cons DX (.cons KH (.cons LZ (.cons JL (.cons KQ (.cons Er (.cons xo (.cons HZ (.cons xl (.cons L4 (.cons EJ (.cons Ge (.cons DV (.cons KU (.cons LA (.cons EM (.cons HW (.cons G4 (.cons yb (.cons xR (.cons AL (.cons AA (.cons LP (.cons LH (.cons Lo (.cons IK (.cons AM (.cons yx (.cons yf (.cons Fw (.cons HM (.cons Ea (.cons Iu (.cons JZ (.cons Lk (.cons Gz (.cons Fh (.cons Ch (.cons GM (.cons A6 (.cons yy (.cons EH (.cons HO (.cons Og (.cons Oo (.cons KO (.cons Li (.cons LI (.cons CP (.cons yQ (.cons zp (.cons yP (.cons Lg (.cons xx (.cons Fs (.cons DR (.cons yj (.cons K0 (.cons LE (.cons Ba (.cons AY (.cons zV (.cons E4 (.cons xZ (.cons FC (.cons yq (.cons Ht (.cons J8 (.cons JE (.cons JK (.cons xP (.cons HB (.cons yL (.cons IV (.cons ya (.cons DE (.cons Kw (.cons L6 (.cons AE (.cons Bt (.cons Cy (.cons FV (.cons zn (.cons DQ (.cons Cr (.cons BA (.cons L8 (.cons KD (.cons LQ (.cons HL (.cons xX (.cons Hw (.cons Ei (.cons D3 (.cons yG (.cons D6 (.cons EV (.cons La (.cons KW (.cons Jk (.cons Ec (.cons Gj (.cons I1 (.cons D0 (.cons zy (.cons yo (.cons Bb (.cons K6 (.cons K1 (.cons Dl (.cons C9 (.cons zc (.cons CW (.cons yZ (.cons ym (.cons A5 (.cons GK (.cons Lb (.cons xu (.cons A3 (.cons A_ (.cons AF (.cons Jr (.cons HQ (.cons xT (.cons C4 (.cons MW (.cons O2 (.cons Pd (.cons Ka (.cons Lz (.cons Kl (.cons AW (.cons GC (.cons FX (.cons ET (.cons K7 (.cons Do (.cons xK (.cons Dr (.cons FE (.cons Kt (.cons Kp (.cons Jx (.cons Gm (.cons xG (.cons zI (.cons Da (.cons Gx (.cons Hi (.cons FY (.cons KI (.cons J4 (.cons KP (.cons BY (.cons yA (.cons CH (.cons DF (.cons AZ (.cons Db (.cons F8 (.cons F3 (.cons JC (.cons JB (.cons zR (.cons It (.cons GW (.cons Is (.cons GX (.cons GZ (.cons A8 (.cons Jt (.cons KM (.cons K4 (.cons Ln (.cons ER (.cons E6 (.cons I9 (.cons GT (.cons D5 (.cons Ax (.cons Jj (.cons AD (.cons Lp (.cons JJ (.cons IQ (.cons xe (.cons ES (.cons BL (.cons C6 (.cons Jl (.cons Dh (.cons FU (.cons J7 (.cons Ky (.cons xi (.cons ED (.cons zz (.cons Eo (.cons B7 (.cons Cv (.cons Io (.cons zP (.cons KZ (.cons JF (.cons xB (.cons Dp (.cons BR (.cons BZ (.cons Ci (.cons BU (.cons C8 (.cons Fj (.cons Ob (.cons LM (.cons Mc (.cons Kq (.cons Mh (.cons yJ (.cons B5 (.cons CE (.cons Im (.cons Ko (.cons Dv (.cons FI (.cons Cf (.cons Iz (.cons Lc (.cons LC (.cons zw (.cons DB (.cons AI (.cons yr (.cons zB (.cons GR (.cons Ft (.cons Mg (.cons J5 (.cons JU (.cons IH (.cons Fy (.cons Eb (.cons GO (.cons xN (.cons Cl (.cons DG (.cons zi (.cons Ks (.cons Mi (.cons EG (.cons D4 (.cons Il (.cons Gl (.cons DS (.cons CR (.cons I8 (.cons HY (.cons Mm (.cons Ly (.cons L3 (.cons Fv (.cons zl (.cons HD (.cons Fa (.cons Jh (.cons yO (.cons ye (.cons F5 (.cons Kc (.cons J_ (.cons yh (.cons Dd (.cons Gk (.cons D7 (.cons zW (.cons CL (.cons zG (.cons LJ (.cons L5 (.cons LN (.cons I4 (.cons IB (.cons GQ (.cons C0 (.cons yw (.cons DI (.cons xf (.cons AT (.cons JX (.cons Mb (.cons zH (.cons B4 (.cons Ae (.cons Ef (.cons BH (.cons GI (.cons y_ (.cons xh (.nil))))))))))))))))))))))))))))))))))))))))))))))))))))))))))))))))))))))))))))))))))))))))))))))))))))))))))))))))))))))))))))))))))))))))))))))))))))))))))))))))))))))))))))))))))))))))))))))))))))))))))))))))))))))))))))))))))))))))))))))))))))))))))))))))))))))))))))))))))))))))))))))))))))))))))))))))))))))))))))))))))))))))))))))))))))))
noncomputable def fnT:Tr Func:=.node none (.node none (.node (some Tryz.f3) (.node (some Tryz.f7) (.node (some Tryz.f15) (.node (some Tryz.f31) (.node (some Tryz.f63) (.node (some Tryz.f127) (.node (some Tryz.f255) .leaf .leaf) .leaf) (.node (some Tryz.f191) .leaf .leaf)) (.node (some Tryz.f95) (.node (some Tryz.f159) (.node (some Tryz.f287) .leaf .leaf) .leaf) (.node (some Tryz.f223) .leaf .leaf))) (.node (some Tryz.f47) (.node (some Tryz.f79) (.node (some Tryz.f143) (.node (some Tryz.f271) .leaf .leaf) .leaf) (.node (some Tryz.f207) .leaf .leaf)) (.node (some Tryz.f111) (.node (some Tryz.f175) (.node (some Tryz.f303) .leaf .leaf) .leaf) (.node (some Tryz.f239) .leaf .leaf)))) (.node (some Tryz.f23) (.node (some Tryz.f39) (.node (some Tryz.f71) (.node (some Tryz.f135) (.node (some Tryz.f263) .leaf .leaf) .leaf) (.node (some Tryz.f199) .leaf .leaf)) (.node (some Tryz.f103) (.node (some Tryz.f167) (.node (some Tryz.f295) .leaf .leaf) .leaf) (.node (some Tryz.f231) .leaf .leaf))) (.node (some Tryz.f55) (.node (some Tryz.f87) (.node (some Tryz.f151) (.node (some Tryz.f279) .leaf .leaf) .leaf) (.node (some Tryz.f215) .leaf .leaf)) (.node (some Tryz.f119) (.node (some Tryz.f183) (.node (some Tryz.f311) .leaf .leaf) .leaf) (.node (some Tryz.f247) .leaf .leaf))))) (.node (some Tryz.f11) (.node (some Tryz.f19) (.node (some Tryz.f35) (.node (some Tryz.f67) (.node (some Tryz.f131) (.node (some Tryz.f259) .leaf .leaf) .leaf) (.node (some Tryz.f195) .leaf .leaf)) (.node (some Tryz.f99) (.node (some Tryz.f163) (.node (some Tryz.f291) .leaf .leaf) .leaf) (.node (some Tryz.f227) .leaf .leaf))) (.node (some Tryz.f51) (.node (some Tryz.f83) (.node (some Tryz.f147) (.node (some Tryz.f275) .leaf .leaf) .leaf) (.node (some Tryz.f211) .leaf .leaf)) (.node (some Tryz.f115) (.node (some Tryz.f179) (.node (some Tryz.f307) .leaf .leaf) .leaf) (.node (some Tryz.f243) .leaf .leaf)))) (.node (some Tryz.f27) (.node (some Tryz.f43) (.node (some Tryz.f75) (.node (some Tryz.f139) (.node (some Tryz.f267) .leaf .leaf) .leaf) (.node (some Tryz.f203) .leaf .leaf)) (.node (some Tryz.f107) (.node (some Tryz.f171) (.node (some Tryz.f299) .leaf .leaf) .leaf) (.node (some Tryz.f235) .leaf .leaf))) (.node (some Tryz.f59) (.node (some Tryz.f91) (.node (some Tryz.f155) (.node (some Tryz.f283) .leaf .leaf) .leaf) (.node (some Tryz.f219) .leaf .leaf)) (.node (some Tryz.f123) (.node (some Tryz.f187) (.node (some Tryz.f315) .leaf .leaf) .leaf) (.node (some Tryz.f251) .leaf .leaf)))))) (.node (some Tryz.f5) (.node (some Tryz.f9) (.node (some Tryz.f17) (.node (some Tryz.f33) (.node (some Tryz.f65) (.node (some Tryz.f129) (.node (some Tryz.f257) .leaf .leaf) .leaf) (.node (some Tryz.f193) .leaf .leaf)) (.node (some Tryz.f97) (.node (some Tryz.f161) (.node (some Tryz.f289) .leaf .leaf) .leaf) (.node (some Tryz.f225) .leaf .leaf))) (.node (some Tryz.f49) (.node (some Tryz.f81) (.node (some Tryz.f145) (.node (some Tryz.f273) .leaf .leaf) .leaf) (.node (some Tryz.f209) .leaf .leaf)) (.node (some Tryz.f113) (.node (some Tryz.f177) (.node (some Tryz.f305) .leaf .leaf) .leaf) (.node (some Tryz.f241) .leaf .leaf)))) (.node (some Tryz.f25) (.node (some Tryz.f41) (.node (some Tryz.f73) (.node (some Tryz.f137) (.node (some Tryz.f265) .leaf .leaf) .leaf) (.node (some Tryz.f201) .leaf .leaf)) (.node (some Tryz.f105) (.node (some Tryz.f169) (.node (some Tryz.f297) .leaf .leaf) .leaf) (.node (some Tryz.f233) .leaf .leaf))) (.node (some Tryz.f57) (.node (some Tryz.f89) (.node (some Tryz.f153) (.node (some Tryz.f281) .leaf .leaf) .leaf) (.node (some Tryz.f217) .leaf .leaf)) (.node (some Tryz.f121) (.node (some Tryz.f185) (.node (some Tryz.f313) .leaf .leaf) .leaf) (.node (some Tryz.f249) .leaf .leaf))))) (.node (some Tryz.f13) (.node (some Tryz.f21) (.node (some Tryz.f37) (.node (some Tryz.f69) (.node (some Tryz.f133) (.node (some Tryz.f261) .leaf .leaf) .leaf) (.node (some Tryz.f197) .leaf .leaf)) (.node (some Tryz.f101) (.node (some Tryz.f165) (.node (some Tryz.f293) .leaf .leaf) .leaf) (.node (some Tryz.f229) .leaf .leaf))) (.node (some Tryz.f53) (.node (some Tryz.f85) (.node (some Tryz.f149) (.node (some Tryz.f277) .leaf .leaf) .leaf) (.node (some Tryz.f213) .leaf .leaf)) (.node (some Tryz.f117) (.node (some Tryz.f181) (.node (some Tryz.f309) .leaf .leaf) .leaf) (.node (some Tryz.f245) .leaf .leaf)))) (.node (some Tryz.f29) (.node (some Tryz.f45) (.node (some Tryz.f77) (.node (some Tryz.f141) (.node (some Tryz.f269) .leaf .leaf) .leaf) (.node (some Tryz.f205) .leaf .leaf)) (.node (some Tryz.f109) (.node (some Tryz.f173) (.node (some Tryz.f301) .leaf .leaf) .leaf) (.node (some Tryz.f237) .leaf .leaf))) (.node (some Tryz.f61) (.node (some Tryz.f93) (.node (some Tryz.f157) (.node (some Tryz.f285) .leaf .leaf) .leaf) (.node (some Tryz.f221) .leaf .leaf)) (.node (some Tryz.f125) (.node (some Tryz.f189) .leaf .leaf) (.node (some Tryz.f253) .leaf .leaf))))))) (.node none (.node (some Tryz.f4) (.node (some Tryz.f8) (.node (some Tryz.f16) (.node (some Tryz.f32) (.node (some Tryz.f64) (.node (some Tryz.f128) (.node (some Tryz.f256) .leaf .leaf) .leaf) (.node (some Tryz.f192) .leaf .leaf)) (.node (some Tryz.f96) (.node (some Tryz.f160) (.node (some Tryz.f288) .leaf .leaf) .leaf) (.node (some Tryz.f224) .leaf .leaf))) (.node (some Tryz.f48) (.node (some Tryz.f80) (.node (some Tryz.f144) (.node (some Tryz.f272) .leaf .leaf) .leaf) (.node (some Tryz.f208) .leaf .leaf)) (.node (some Tryz.f112) (.node (some Tryz.f176) (.node (some Tryz.f304) .leaf .leaf) .leaf) (.node (some Tryz.f240) .leaf .leaf)))) (.node (some Tryz.f24) (.node (some Tryz.f40) (.node (some Tryz.f72) (.node (some Tryz.f136) (.node (some Tryz.f264) .leaf .leaf) .leaf) (.node (some Tryz.f200) .leaf .leaf)) (.node (some Tryz.f104) (.node (some Tryz.f168) (.node (some Tryz.f296) .leaf .leaf) .leaf) (.node (some Tryz.f232) .leaf .leaf))) (.node (some Tryz.f56) (.node (some Tryz.f88) (.node (some Tryz.f152) (.node (some Tryz.f280) .leaf .leaf) .leaf) (.node (some Tryz.f216) .leaf .leaf)) (.node (some Tryz.f120) (.node (some Tryz.f184) (.node (some Tryz.f312) .leaf .leaf) .leaf) (.node (some Tryz.f248) .leaf .leaf))))) (.node (some Tryz.f12) (.node (some Tryz.f20) (.node (some Tryz.f36) (.node (some Tryz.f68) (.node (some Tryz.f132) (.node (some Tryz.f260) .leaf .leaf) .leaf) (.node (some Tryz.f196) .leaf .leaf)) (.node (some Tryz.f100) (.node (some Tryz.f164) (.node (some Tryz.f292) .leaf .leaf) .leaf) (.node (some Tryz.f228) .leaf .leaf))) (.node (some Tryz.f52) (.node (some Tryz.f84) (.node (some Tryz.f148) (.node (some Tryz.f276) .leaf .leaf) .leaf) (.node (some Tryz.f212) .leaf .leaf)) (.node (some Tryz.f116) (.node (some Tryz.f180) (.node (some Tryz.f308) .leaf .leaf) .leaf) (.node (some Tryz.f244) .leaf .leaf)))) (.node (some Tryz.f28) (.node (some Tryz.f44) (.node (some Tryz.f76) (.node (some Tryz.f140) (.node (some Tryz.f268) .leaf .leaf) .leaf) (.node (some Tryz.f204) .leaf .leaf)) (.node (some Tryz.f108) (.node (some Tryz.f172) (.node (some Tryz.f300) .leaf .leaf) .leaf) (.node (some Tryz.f236) .leaf .leaf))) (.node (some Tryz.f60) (.node (some Tryz.f92) (.node (some Tryz.f156) (.node (some Tryz.f284) .leaf .leaf) .leaf) (.node (some Tryz.f220) .leaf .leaf)) (.node (some Tryz.f124) (.node (some Tryz.f188) (.node (some Tryz.f316) .leaf .leaf) .leaf) (.node (some Tryz.f252) .leaf .leaf)))))) (.node (some Tryz.f6) (.node (some Tryz.f10) (.node (some Tryz.f18) (.node (some Tryz.f34) (.node (some Tryz.f66) (.node (some Tryz.f130) (.node (some Tryz.f258) .leaf .leaf) .leaf) (.node (some Tryz.f194) .leaf .leaf)) (.node (some Tryz.f98) (.node (some Tryz.f162) (.node (some Tryz.f290) .leaf .leaf) .leaf) (.node (some Tryz.f226) .leaf .leaf))) (.node (some Tryz.f50) (.node (some Tryz.f82) (.node (some Tryz.f146) (.node (some Tryz.f274) .leaf .leaf) .leaf) (.node (some Tryz.f210) .leaf .leaf)) (.node (some Tryz.f114) (.node (some Tryz.f178) (.node (some Tryz.f306) .leaf .leaf) .leaf) (.node (some Tryz.f242) .leaf .leaf)))) (.node (some Tryz.f26) (.node (some Tryz.f42) (.node (some Tryz.f74) (.node (some Tryz.f138) (.node (some Tryz.f266) .leaf .leaf) .leaf) (.node (some Tryz.f202) .leaf .leaf)) (.node (some Tryz.f106) (.node (some Tryz.f170) (.node (some Tryz.f298) .leaf .leaf) .leaf) (.node (some Tryz.f234) .leaf .leaf))) (.node (some Tryz.f58) (.node (some Tryz.f90) (.node (some Tryz.f154) (.node (some Tryz.f282) .leaf .leaf) .leaf) (.node (some Tryz.f218) .leaf .leaf)) (.node (some Tryz.f122) (.node (some Tryz.f186) (.node (some Tryz.f314) .leaf .leaf) .leaf) (.node (some Tryz.f250) .leaf .leaf))))) (.node (some Tryz.f14) (.node (some Tryz.f22) (.node (some Tryz.f38) (.node (some Tryz.f70) (.node (some Tryz.f134) (.node (some Tryz.f262) .leaf .leaf) .leaf) (.node (some Tryz.f198) .leaf .leaf)) (.node (some Tryz.f102) (.node (some Tryz.f166) (.node (some Tryz.f294) .leaf .leaf) .leaf) (.node (some Tryz.f230) .leaf .leaf))) (.node (some Tryz.f54) (.node (some Tryz.f86) (.node (some Tryz.f150) (.node (some Tryz.f278) .leaf .leaf) .leaf) (.node (some Tryz.f214) .leaf .leaf)) (.node (some Tryz.f118) (.node (some Tryz.f182) (.node (some Tryz.f310) .leaf .leaf) .leaf) (.node (some Tryz.f246) .leaf .leaf)))) (.node (some Tryz.f30) (.node (some Tryz.f46) (.node (some Tryz.f78) (.node (some Tryz.f142) (.node (some Tryz.f270) .leaf .leaf) .leaf) (.node (some Tryz.f206) .leaf .leaf)) (.node (some Tryz.f110) (.node (some Tryz.f174) (.node (some Tryz.f302) .leaf .leaf) .leaf) (.node (some Tryz.f238) .leaf .leaf))) (.node (some Tryz.f62) (.node (some Tryz.f94) (.node (some Tryz.f158) (.node (some Tryz.f286) .leaf .leaf) .leaf) (.node (some Tryz.f222) .leaf .leaf)) (.node (some Tryz.f126) (.node (some Tryz.f190) .leaf .leaf) (.node (some Tryz.f254) .leaf .leaf)))))))
theorem Ie:fnT.toL=[(3,Tryz.f3),(7,Tryz.f7),(15,Tryz.f15),(31,Tryz.f31),(63,Tryz.f63),(127,Tryz.f127),(255,Tryz.f255),(191,Tryz.f191),(95,Tryz.f95),(159,Tryz.f159),(287,Tryz.f287),(223,Tryz.f223),(47,Tryz.f47),(79,Tryz.f79),(143,Tryz.f143),(271,Tryz.f271),(207,Tryz.f207),(111,Tryz.f111),(175,Tryz.f175),(303,Tryz.f303),(239,Tryz.f239),(23,Tryz.f23),(39,Tryz.f39),(71,Tryz.f71),(135,Tryz.f135),(263,Tryz.f263),(199,Tryz.f199),(103,Tryz.f103),(167,Tryz.f167),(295,Tryz.f295),(231,Tryz.f231),(55,Tryz.f55),(87,Tryz.f87),(151,Tryz.f151),(279,Tryz.f279),(215,Tryz.f215),(119,Tryz.f119),(183,Tryz.f183),(311,Tryz.f311),(247,Tryz.f247),(11,Tryz.f11),(19,Tryz.f19),(35,Tryz.f35),(67,Tryz.f67),(131,Tryz.f131),(259,Tryz.f259),(195,Tryz.f195),(99,Tryz.f99),(163,Tryz.f163),(291,Tryz.f291),(227,Tryz.f227),(51,Tryz.f51),(83,Tryz.f83),(147,Tryz.f147),(275,Tryz.f275),(211,Tryz.f211),(115,Tryz.f115),(179,Tryz.f179),(307,Tryz.f307),(243,Tryz.f243),(27,Tryz.f27),(43,Tryz.f43),(75,Tryz.f75),(139,Tryz.f139),(267,Tryz.f267),(203,Tryz.f203),(107,Tryz.f107),(171,Tryz.f171),(299,Tryz.f299),(235,Tryz.f235),(59,Tryz.f59),(91,Tryz.f91),(155,Tryz.f155),(283,Tryz.f283),(219,Tryz.f219),(123,Tryz.f123),(187,Tryz.f187),(315,Tryz.f315),(251,Tryz.f251),(5,Tryz.f5),(9,Tryz.f9),(17,Tryz.f17),(33,Tryz.f33),(65,Tryz.f65),(129,Tryz.f129),(257,Tryz.f257),(193,Tryz.f193),(97,Tryz.f97),(161,Tryz.f161),(289,Tryz.f289),(225,Tryz.f225),(49,Tryz.f49),(81,Tryz.f81),(145,Tryz.f145),(273,Tryz.f273),(209,Tryz.f209),(113,Tryz.f113),(177,Tryz.f177),(305,Tryz.f305),(241,Tryz.f241),(25,Tryz.f25),(41,Tryz.f41),(73,Tryz.f73),(137,Tryz.f137),(265,Tryz.f265),(201,Tryz.f201),(105,Tryz.f105),(169,Tryz.f169),(297,Tryz.f297),(233,Tryz.f233),(57,Tryz.f57),(89,Tryz.f89),(153,Tryz.f153),(281,Tryz.f281),(217,Tryz.f217),(121,Tryz.f121),(185,Tryz.f185),(313,Tryz.f313),(249,Tryz.f249),(13,Tryz.f13),(21,Tryz.f21),(37,Tryz.f37),(69,Tryz.f69),(133,Tryz.f133),(261,Tryz.f261),(197,Tryz.f197),(101,Tryz.f101),(165,Tryz.f165),(293,Tryz.f293),(229,Tryz.f229),(53,Tryz.f53),(85,Tryz.f85),(149,Tryz.f149),(277,Tryz.f277),(213,Tryz.f213),(117,Tryz.f117),(181,Tryz.f181),(309,Tryz.f309),(245,Tryz.f245),(29,Tryz.f29),(45,Tryz.f45),(77,Tryz.f77),(141,Tryz.f141),(269,Tryz.f269),(205,Tryz.f205),(109,Tryz.f109),(173,Tryz.f173),(301,Tryz.f301),(237,Tryz.f237),(61,Tryz.f61),(93,Tryz.f93),(157,Tryz.f157),(285,Tryz.f285),(221,Tryz.f221),(125,Tryz.f125),(189,Tryz.f189),(253,Tryz.f253),(4,Tryz.f4),(8,Tryz.f8),(16,Tryz.f16),(32,Tryz.f32),(64,Tryz.f64),(128,Tryz.f128),(256,Tryz.f256),(192,Tryz.f192),(96,Tryz.f96),(160,Tryz.f160),(288,Tryz.f288),(224,Tryz.f224),(48,Tryz.f48),(80,Tryz.f80),(144,Tryz.f144),(272,Tryz.f272),(208,Tryz.f208),(112,Tryz.f112),(176,Tryz.f176),(304,Tryz.f304),(240,Tryz.f240),(24,Tryz.f24),(40,Tryz.f40),(72,Tryz.f72),(136,Tryz.f136),(264,Tryz.f264),(200,Tryz.f200),(104,Tryz.f104),(168,Tryz.f168),(296,Tryz.f296),(232,Tryz.f232),(56,Tryz.f56),(88,Tryz.f88),(152,Tryz.f152),(280,Tryz.f280),(216,Tryz.f216),(120,Tryz.f120),(184,Tryz.f184),(312,Tryz.f312),(248,Tryz.f248),(12,Tryz.f12),(20,Tryz.f20),(36,Tryz.f36),(68,Tryz.f68),(132,Tryz.f132),(260,Tryz.f260),(196,Tryz.f196),(100,Tryz.f100),(164,Tryz.f164),(292,Tryz.f292),(228,Tryz.f228),(52,Tryz.f52),(84,Tryz.f84),(148,Tryz.f148),(276,Tryz.f276),(212,Tryz.f212),(116,Tryz.f116),(180,Tryz.f180),(308,Tryz.f308),(244,Tryz.f244),(28,Tryz.f28),(44,Tryz.f44),(76,Tryz.f76),(140,Tryz.f140),(268,Tryz.f268),(204,Tryz.f204),(108,Tryz.f108),(172,Tryz.f172),(300,Tryz.f300),(236,Tryz.f236),(60,Tryz.f60),(92,Tryz.f92),(156,Tryz.f156),(284,Tryz.f284),(220,Tryz.f220),(124,Tryz.f124),(188,Tryz.f188),(316,Tryz.f316),(252,Tryz.f252),(6,Tryz.f6),(10,Tryz.f10),(18,Tryz.f18),(34,Tryz.f34),(66,Tryz.f66),(130,Tryz.f130),(258,Tryz.f258),(194,Tryz.f194),(98,Tryz.f98),(162,Tryz.f162),(290,Tryz.f290),(226,Tryz.f226),(50,Tryz.f50),(82,Tryz.f82),(146,Tryz.f146),(274,Tryz.f274),(210,Tryz.f210),(114,Tryz.f114),(178,Tryz.f178),(306,Tryz.f306),(242,Tryz.f242),(26,Tryz.f26),(42,Tryz.f42),(74,Tryz.f74),(138,Tryz.f138),(266,Tryz.f266),(202,Tryz.f202),(106,Tryz.f106),(170,Tryz.f170),(298,Tryz.f298),(234,Tryz.f234),(58,Tryz.f58),(90,Tryz.f90),(154,Tryz.f154),(282,Tryz.f282),(218,Tryz.f218),(122,Tryz.f122),(186,Tryz.f186),(314,Tryz.f314),(250,Tryz.f250),(14,Tryz.f14),(22,Tryz.f22),(38,Tryz.f38),(70,Tryz.f70),(134,Tryz.f134),(262,Tryz.f262),(198,Tryz.f198),(102,Tryz.f102),(166,Tryz.f166),(294,Tryz.f294),(230,Tryz.f230),(54,Tryz.f54),(86,Tryz.f86),(150,Tryz.f150),(278,Tryz.f278),(214,Tryz.f214),(118,Tryz.f118),(182,Tryz.f182),(310,Tryz.f310),(246,Tryz.f246),(30,Tryz.f30),(46,Tryz.f46),(78,Tryz.f78),(142,Tryz.f142),(270,Tryz.f270),(206,Tryz.f206),(110,Tryz.f110),(174,Tryz.f174),(302,Tryz.f302),(238,Tryz.f238),(62,Tryz.f62),(94,Tryz.f94),(158,Tryz.f158),(286,Tryz.f286),(222,Tryz.f222),(126,Tryz.f126),(190,Tryz.f190),(254,Tryz.f254)]:=by kernel_rfl
def fnP (k : Nat) (f : Func) : Prop := Tryz.prog.funcs[k]? = some f ∧ (f.name == "runtime.NumGoroutine") = false
theorem uD : ∀ k f, fnT.get k = some f → Tryz.prog.funcs[k]? = some f ∧ (f.name == "runtime.NumGoroutine") = false := by
 refine Tr.all_get (p:=fnP) ?_
 rw [Ie]
 exact .cons ⟨Tryz.func3,by kernel_rfl⟩ (.cons ⟨Tryz.func7,by kernel_rfl⟩ (.cons ⟨Tryz.func15,by kernel_rfl⟩ (.cons ⟨Tryz.func31,by kernel_rfl⟩ (.cons ⟨Tryz.func63,by kernel_rfl⟩ (.cons ⟨Tryz.func127,by kernel_rfl⟩ (.cons ⟨Tryz.func255,by kernel_rfl⟩ (.cons ⟨Tryz.func191,by kernel_rfl⟩ (.cons ⟨Tryz.func95,by kernel_rfl⟩ (.cons ⟨Tryz.func159,by kernel_rfl⟩ (.cons ⟨Tryz.func287,by kernel_rfl⟩ (.cons ⟨Tryz.func223,by kernel_rfl⟩ (.cons ⟨Tryz.func47,by kernel_rfl⟩ (.cons ⟨Tryz.func79,by kernel_rfl⟩ (.cons ⟨Tryz.func143,by kernel_rfl⟩ (.cons ⟨Tryz.func271,by kernel_rfl⟩ (.cons ⟨Tryz.func207,by kernel_rfl⟩ (.cons ⟨Tryz.func111,by kernel_rfl⟩ (.cons ⟨Tryz.func175,by kernel_rfl⟩ (.cons ⟨Tryz.func303,by kernel_rfl⟩ (.cons ⟨Tryz.func239,by kernel_rfl⟩ (.cons ⟨Tryz.func23,by kernel_rfl⟩ (.cons ⟨Tryz.func39,by kernel_rfl⟩ (.cons ⟨Tryz.func71,by kernel_rfl⟩ (.cons ⟨Tryz.func135,by kernel_rfl⟩ (.cons ⟨Tryz.func263,by kernel_rfl⟩ (.cons ⟨Tryz.func199,by kernel_rfl⟩ (.cons ⟨Tryz.func103,by kernel_rfl⟩ (.cons ⟨Tryz.func167,by kernel_rfl⟩ (.cons ⟨Tryz.func295,by kernel_rfl⟩ (.cons ⟨Tryz.func231,by kernel_rfl⟩ (.cons ⟨Tryz.func55,by kernel_rfl⟩ (.cons ⟨Tryz.func87,by kernel_rfl⟩ (.cons ⟨Tryz.func151,by kernel_rfl⟩ (.cons ⟨Tryz.func279,by kernel_rfl⟩ (.cons ⟨Tryz.func215,by kernel_rfl⟩ (.cons ⟨Tryz.func119,by kernel_rfl⟩ (.cons ⟨Tryz.func183,by kernel_rfl⟩ (.cons ⟨Tryz.func311,by kernel_rfl⟩ (.cons ⟨Tryz.func247,by kernel_rfl⟩ (.cons ⟨Tryz.func11,by kernel_rfl⟩ (.cons ⟨Tryz.func19,by kernel_rfl⟩ (.cons ⟨Tryz.func35,by kernel_rfl⟩ (.cons ⟨Tryz.func67,by kernel_rfl⟩ (.cons ⟨Tryz.func131,by kernel_rfl⟩ (.cons ⟨Tryz.func259,by kernel_rfl⟩ (.cons ⟨Tryz.func195,by kernel_rfl⟩ (.cons ⟨Tryz.func99,by kernel_rfl⟩ (.cons ⟨Tryz.func163,by kernel_rfl⟩ (.cons ⟨Tryz.func291,by kernel_rfl⟩ (.cons ⟨Tryz.func227,by kernel_rfl⟩ (.cons ⟨Tryz.func51,by kernel_rfl⟩ (.cons ⟨Tryz.func83,by kernel_rfl⟩ (.cons ⟨Tryz.func147,by kernel_rfl⟩ (.cons ⟨Tryz.func275,by kernel_rfl⟩ (.cons ⟨Tryz.func211,by kernel_rfl⟩ (.cons ⟨Tryz.func115,by kernel_rfl⟩ (.cons ⟨Tryz.func179,by kernel_rfl⟩ (.cons ⟨Tryz.func307,by kernel_rfl⟩ (.cons ⟨Tryz.func243,by kernel_rfl⟩ (.cons ⟨Tryz.func27,by kernel_rfl⟩ (.cons ⟨Tryz.func43,by kernel_rfl⟩ (.cons ⟨Tryz.func75,by kernel_rfl⟩ (.cons ⟨Tryz.func139,by kernel_rfl⟩ (.cons ⟨Tryz.func267,by kernel_rfl⟩ (.cons ⟨Tryz.func203,by kernel_rfl⟩ (.cons ⟨Tryz.func107,by kernel_rfl⟩ (.cons ⟨Tryz.func171,by kernel_rfl⟩ (.cons ⟨Tryz.func299,by kernel_rfl⟩ (.cons ⟨Tryz.func235,by kernel_rfl⟩ (.cons ⟨Tryz.func59,by kernel_rfl⟩ (.cons ⟨Tryz.func91,by kernel_rfl⟩ (.cons ⟨Tryz.func155,by kernel_rfl⟩ (.cons ⟨Tryz.func283,by kernel_rfl⟩ (.cons ⟨Tryz.func219,by kernel_rfl⟩ (.cons ⟨Tryz.func123,by kernel_rfl⟩ (.cons ⟨Tryz.func187,by kernel_rfl⟩ (.cons ⟨Tryz.func315,by kernel_rfl⟩ (.cons ⟨Tryz.func251,by kernel_rfl⟩ (.cons ⟨Tryz.func5,by kernel_rfl⟩ (.cons ⟨Tryz.func9,by kernel_rfl⟩ (.cons ⟨Tryz.func17,by kernel_rfl⟩ (.cons ⟨Tryz.func33,by kernel_rfl⟩ (.cons ⟨Tryz.func65,by kernel_rfl⟩ (.cons ⟨Tryz.func129,by kernel_rfl⟩ (.cons ⟨Tryz.func257,by kernel_rfl⟩ (.cons ⟨Tryz.func193,by kernel_rfl⟩ (.cons ⟨Tryz.func97,by kernel_rfl⟩ (.cons ⟨Tryz.func161,by kernel_rfl⟩ (.cons ⟨Tryz.func289,by kernel_rfl⟩ (.cons ⟨Tryz.func225,by kernel_rfl⟩ (.cons ⟨Tryz.func49,by kernel_rfl⟩ (.cons ⟨Tryz.func81,by kernel_rfl⟩ (.cons ⟨Tryz.func145,by kernel_rfl⟩ (.cons ⟨Tryz.func273,by kernel_rfl⟩ (.cons ⟨Tryz.func209,by kernel_rfl⟩ (.cons ⟨Tryz.func113,by kernel_rfl⟩ (.cons ⟨Tryz.func177,by kernel_rfl⟩ (.cons ⟨Tryz.func305,by kernel_rfl⟩ (.cons ⟨Tryz.func241,by kernel_rfl⟩ (.cons ⟨Tryz.func25,by kernel_rfl⟩ (.cons ⟨Tryz.func41,by kernel_rfl⟩ (.cons ⟨Tryz.func73,by kernel_rfl⟩ (.cons ⟨Tryz.func137,by kernel_rfl⟩ (.cons ⟨Tryz.func265,by kernel_rfl⟩ (.cons ⟨Tryz.func201,by kernel_rfl⟩ (.cons ⟨Tryz.func105,by kernel_rfl⟩ (.cons ⟨Tryz.func169,by kernel_rfl⟩ (.cons ⟨Tryz.func297,by kernel_rfl⟩ (.cons ⟨Tryz.func233,by kernel_rfl⟩ (.cons ⟨Tryz.func57,by kernel_rfl⟩ (.cons ⟨Tryz.func89,by kernel_rfl⟩ (.cons ⟨Tryz.func153,by kernel_rfl⟩ (.cons ⟨Tryz.func281,by kernel_rfl⟩ (.cons ⟨Tryz.func217,by kernel_rfl⟩ (.cons ⟨Tryz.func121,by kernel_rfl⟩ (.cons ⟨Tryz.func185,by kernel_rfl⟩ (.cons ⟨Tryz.func313,by kernel_rfl⟩ (.cons ⟨Tryz.func249,by kernel_rfl⟩ (.cons ⟨Tryz.func13,by kernel_rfl⟩ (.cons ⟨Tryz.func21,by kernel_rfl⟩ (.cons ⟨Tryz.func37,by kernel_rfl⟩ (.cons ⟨Tryz.func69,by kernel_rfl⟩ (.cons ⟨Tryz.func133,by kernel_rfl⟩ (.cons ⟨Tryz.func261,by kernel_rfl⟩ (.cons ⟨Tryz.func197,by kernel_rfl⟩ (.cons ⟨Tryz.func101,by kernel_rfl⟩ (.cons ⟨Tryz.func165,by kernel_rfl⟩ (.cons ⟨Tryz.func293,by kernel_rfl⟩ (.cons ⟨Tryz.func229,by kernel_rfl⟩ (.cons ⟨Tryz.func53,by kernel_rfl⟩ (.cons ⟨Tryz.func85,by kernel_rfl⟩ (.cons ⟨Tryz.func149,by kernel_rfl⟩ (.cons ⟨Tryz.func277,by kernel_rfl⟩ (.cons ⟨Tryz.func213,by kernel_rfl⟩ (.cons ⟨Tryz.func117,by kernel_rfl⟩ (.cons ⟨Tryz.func181,by kernel_rfl⟩ (.cons ⟨Tryz.func309,by kernel_rfl⟩ (.cons ⟨Tryz.func245,by kernel_rfl⟩ (.cons ⟨Tryz.func29,by kernel_rfl⟩ (.cons ⟨Tryz.func45,by kernel_rfl⟩ (.cons ⟨Tryz.func77,by kernel_rfl⟩ (.cons ⟨Tryz.func141,by kernel_rfl⟩ (.cons ⟨Tryz.func269,by kernel_rfl⟩ (.cons ⟨Tryz.func205,by kernel_rfl⟩ (.cons ⟨Tryz.func109,by kernel_rfl⟩ (.cons ⟨Tryz.func173,by kernel_rfl⟩ (.cons ⟨Tryz.func301,by kernel_rfl⟩ (.cons ⟨Tryz.func237,by kernel_rfl⟩ (.cons ⟨Tryz.func61,by kernel_rfl⟩ (.cons ⟨Tryz.func93,by kernel_rfl⟩ (.cons ⟨Tryz.func157,by kernel_rfl⟩ (.cons ⟨Tryz.func285,by kernel_rfl⟩ (.cons ⟨Tryz.func221,by kernel_rfl⟩ (.cons ⟨Tryz.func125,by kernel_rfl⟩ (.cons ⟨Tryz.func189,by kernel_rfl⟩ (.cons ⟨Tryz.func253,by kernel_rfl⟩ (.cons ⟨Tryz.func4,by kernel_rfl⟩ (.cons ⟨Tryz.func8,by kernel_rfl⟩ (.cons ⟨Tryz.func16,by kernel_rfl⟩ (.cons ⟨Tryz.func32,by kernel_rfl⟩ (.cons ⟨Tryz.func64,by kernel_rfl⟩ (.cons ⟨Tryz.func128,by kernel_rfl⟩ (.cons ⟨Tryz.func256,by kernel_rfl⟩ (.cons ⟨Tryz.func192,by kernel_rfl⟩ (.cons ⟨Tryz.func96,by kernel_rfl⟩ (.cons ⟨Tryz.func160,by kernel_rfl⟩ (.cons ⟨Tryz.func288,by kernel_rfl⟩ (.cons ⟨Tryz.func224,by kernel_rfl⟩ (.cons ⟨Tryz.func48,by kernel_rfl⟩ (.cons ⟨Tryz.func80,by kernel_rfl⟩ (.cons ⟨Tryz.func144,by kernel_rfl⟩ (.cons ⟨Tryz.func272,by kernel_rfl⟩ (.cons ⟨Tryz.func208,by kernel_rfl⟩ (.cons ⟨Tryz.func112,by kernel_rfl⟩ (.cons ⟨Tryz.func176,by kernel_rfl⟩ (.cons ⟨Tryz.func304,by kernel_rfl⟩ (.cons ⟨Tryz.func240,by kernel_rfl⟩ (.cons ⟨Tryz.func24,by kernel_rfl⟩ (.cons ⟨Tryz.func40,by kernel_rfl⟩ (.cons ⟨Tryz.func72,by kernel_rfl⟩ (.cons ⟨Tryz.func136,by kernel_rfl⟩ (.cons ⟨Tryz.func264,by kernel_rfl⟩ (.cons ⟨Tryz.func200,by kernel_rfl⟩ (.cons ⟨Tryz.func104,by kernel_rfl⟩ (.cons ⟨Tryz.func168,by kernel_rfl⟩ (.cons ⟨Tryz.func296,by kernel_rfl⟩ (.cons ⟨Tryz.func232,by kernel_rfl⟩ (.cons ⟨Tryz.func56,by kernel_rfl⟩ (.cons ⟨Tryz.func88,by kernel_rfl⟩ (.cons ⟨Tryz.func152,by kernel_rfl⟩ (.cons ⟨Tryz.func280,by kernel_rfl⟩ (.cons ⟨Tryz.func216,by kernel_rfl⟩ (.cons ⟨Tryz.func120,by kernel_rfl⟩ (.cons ⟨Tryz.func184,by kernel_rfl⟩ (.cons ⟨Tryz.func312,by kernel_rfl⟩ (.cons ⟨Tryz.func248,by kernel_rfl⟩ (.cons ⟨Tryz.func12,by kernel_rfl⟩ (.cons ⟨Tryz.func20,by kernel_rfl⟩ (.cons ⟨Tryz.func36,by kernel_rfl⟩ (.cons ⟨Tryz.func68,by kernel_rfl⟩ (.cons ⟨Tryz.func132,by kernel_rfl⟩ (.cons ⟨Tryz.func260,by kernel_rfl⟩ (.cons ⟨Tryz.func196,by kernel_rfl⟩ (.cons ⟨Tryz.func100,by kernel_rfl⟩ (.cons ⟨Tryz.func164,by kernel_rfl⟩ (.cons ⟨Tryz.func292,by kernel_rfl⟩ (.cons ⟨Tryz.func228,by kernel_rfl⟩ (.cons ⟨Tryz.func52,by kernel_rfl⟩ (.cons ⟨Tryz.func84,by kernel_rfl⟩ (.cons ⟨Tryz.func148,by kernel_rfl⟩ (.cons ⟨Tryz.func276,by kernel_rfl⟩ (.cons ⟨Tryz.func212,by kernel_rfl⟩ (.cons ⟨Tryz.func116,by kernel_rfl⟩ (.cons ⟨Tryz.func180,by kernel_rfl⟩ (.cons ⟨Tryz.func308,by kernel_rfl⟩ (.cons ⟨Tryz.func244,by kernel_rfl⟩ (.cons ⟨Tryz.func28,by kernel_rfl⟩ (.cons ⟨Tryz.func44,by kernel_rfl⟩ (.cons ⟨Tryz.func76,by kernel_rfl⟩ (.cons ⟨Tryz.func140,by kernel_rfl⟩ (.cons ⟨Tryz.func268,by kernel_rfl⟩ (.cons ⟨Tryz.func204,by kernel_rfl⟩ (.cons ⟨Tryz.func108,by kernel_rfl⟩ (.cons ⟨Tryz.func172,by kernel_rfl⟩ (.cons ⟨Tryz.func300,by kernel_rfl⟩ (.cons ⟨Tryz.func236,by kernel_rfl⟩ (.cons ⟨Tryz.func60,by kernel_rfl⟩ (.cons ⟨Tryz.func92,by kernel_rfl⟩ (.cons ⟨Tryz.func156,by kernel_rfl⟩ (.cons ⟨Tryz.func284,by kernel_rfl⟩ (.cons ⟨Tryz.func220,by kernel_rfl⟩ (.cons ⟨Tryz.func124,by kernel_rfl⟩ (.cons ⟨Tryz.func188,by kernel_rfl⟩ (.cons ⟨Tryz.func316,by kernel_rfl⟩ (.cons ⟨Tryz.func252,by kernel_rfl⟩ (.cons ⟨Tryz.func6,by kernel_rfl⟩ (.cons ⟨Tryz.func10,by kernel_rfl⟩ (.cons ⟨Tryz.func18,by kernel_rfl⟩ (.cons ⟨Tryz.func34,by kernel_rfl⟩ (.cons ⟨Tryz.func66,by kernel_rfl⟩ (.cons ⟨Tryz.func130,by kernel_rfl⟩ (.cons ⟨Tryz.func258,by kernel_rfl⟩ (.cons ⟨Tryz.func194,by kernel_rfl⟩ (.cons ⟨Tryz.func98,by kernel_rfl⟩ (.cons ⟨Tryz.func162,by kernel_rfl⟩ (.cons ⟨Tryz.func290,by kernel_rfl⟩ (.cons ⟨Tryz.func226,by kernel_rfl⟩ (.cons ⟨Tryz.func50,by kernel_rfl⟩ (.cons ⟨Tryz.func82,by kernel_rfl⟩ (.cons ⟨Tryz.func146,by kernel_rfl⟩ (.cons ⟨Tryz.func274,by kernel_rfl⟩ (.cons ⟨Tryz.func210,by kernel_rfl⟩ (.cons ⟨Tryz.func114,by kernel_rfl⟩ (.cons ⟨Tryz.func178,by kernel_rfl⟩ (.cons ⟨Tryz.func306,by kernel_rfl⟩ (.cons ⟨Tryz.func242,by kernel_rfl⟩ (.cons ⟨Tryz.func26,by kernel_rfl⟩ (.cons ⟨Tryz.func42,by kernel_rfl⟩ (.cons ⟨Tryz.func74,by kernel_rfl⟩ (.cons ⟨Tryz.func138,by kernel_rfl⟩ (.cons ⟨Tryz.func266,by kernel_rfl⟩ (.cons ⟨Tryz.func202,by kernel_rfl⟩ (.cons ⟨Tryz.func106,by kernel_rfl⟩ (.cons ⟨Tryz.func170,by kernel_rfl⟩ (.cons ⟨Tryz.func298,by kernel_rfl⟩ (.cons ⟨Tryz.func234,by kernel_rfl⟩ (.cons ⟨Tryz.func58,by kernel_rfl⟩ (.cons ⟨Tryz.func90,by kernel_rfl⟩ (.cons ⟨Tryz.func154,by kernel_rfl⟩ (.cons ⟨Tryz.func282,by kernel_rfl⟩ (.cons ⟨Tryz.func218,by kernel_rfl⟩ (.cons ⟨Tryz.func122,by kernel_rfl⟩ (.cons ⟨Tryz.func186,by kernel_rfl⟩ (.cons ⟨Tryz.func314,by kernel_rfl⟩ (.cons ⟨Tryz.func250,by kernel_rfl⟩ (.cons ⟨Tryz.func14,by kernel_rfl⟩ (.cons ⟨Tryz.func22,by kernel_rfl⟩ (.cons ⟨Tryz.func38,by kernel_rfl⟩ (.cons ⟨Tryz.func70,by kernel_rfl⟩ (.cons ⟨Tryz.func134,by kernel_rfl⟩ (.cons ⟨Tryz.func262,by kernel_rfl⟩ (.cons ⟨Tryz.func198,by kernel_rfl⟩ (.cons ⟨Tryz.func102,by kernel_rfl⟩ (.cons ⟨Tryz.func166,by kernel_rfl⟩ (.cons ⟨Tryz.func294,by kernel_rfl⟩ (.cons ⟨Tryz.func230,by kernel_rfl⟩ (.cons ⟨Tryz.func54,by kernel_rfl⟩ (.cons ⟨Tryz.func86,by kernel_rfl⟩ (.cons ⟨Tryz.func150,by kernel_rfl⟩ (.cons ⟨Tryz.func278,by kernel_rfl⟩ (.cons ⟨Tryz.func214,by kernel_rfl⟩ (.cons ⟨Tryz.func118,by kernel_rfl⟩ (.cons ⟨Tryz.func182,by kernel_rfl⟩ (.cons ⟨Tryz.func310,by kernel_rfl⟩ (.cons ⟨Tryz.func246,by kernel_rfl⟩ (.cons ⟨Tryz.func30,by kernel_rfl⟩ (.cons ⟨Tryz.func46,by kernel_rfl⟩ (.cons ⟨Tryz.func78,by kernel_rfl⟩ (.cons ⟨Tryz.func142,by kernel_rfl⟩ (.cons ⟨Tryz.func270,by kernel_rfl⟩ (.cons ⟨Tryz.func206,by kernel_rfl⟩ (.cons ⟨Tryz.func110,by kernel_rfl⟩ (.cons ⟨Tryz.func174,by kernel_rfl⟩ (.cons ⟨Tryz.func302,by kernel_rfl⟩ (.cons ⟨Tryz.func238,by kernel_rfl⟩ (.cons ⟨Tryz.func62,by kernel_rfl⟩ (.cons ⟨Tryz.func94,by kernel_rfl⟩ (.cons ⟨Tryz.func158,by kernel_rfl⟩ (.cons ⟨Tryz.func286,by kernel_rfl⟩ (.cons ⟨Tryz.func222,by kernel_rfl⟩ (.cons ⟨Tryz.func126,by kernel_rfl⟩ (.cons ⟨Tryz.func190,by kernel_rfl⟩ (.cons ⟨Tryz.func254,by kernel_rfl⟩ (.nil))))))))))))))))))))))))))))))))))))))))))))))))))))))))))))))))))))))))))))))))))))))))))))))))))))))))))))))))))))))))))))))))))))))))))))))))))))))))))))))))))))))))))))))))))))))))))))))))))))))))))))))))))))))))))))))))))))))))))))))))))))))))))))))))))))))))))))))))))))))))))))))))))))))))))))))))))))))))))
noncomputable def ky7:List KK:=[.int .i64,.int .i64,.bool,.int .u8]
theorem N6:bO Tryz.prog 7=some ky7:=by kernel_rfl
noncomputable def ky8:List KK:=[.int .i64,.int .i64,.bool,.int .u8]
theorem OR:bO Tryz.prog 8=some ky8:=by kernel_rfl
noncomputable def Pe:List KK:=[.int .i64,.int .i64]
theorem Kj:bO Tryz.prog 32=some Pe:=by kernel_rfl
noncomputable def NK:List KK:=[.int .i64,.int .i64]
theorem Lr:bO Tryz.prog 33=some NK:=by kernel_rfl
noncomputable def Pi:List KK:=[.int .i64,.int .i64,.int .i64,.int .i64,.int .i64,.int .i64,.int .i64,.int .i64]
theorem LX:bO Tryz.prog 41=some Pi:=by kernel_rfl
noncomputable def Ou:List KK:=[.int .i64,.int .i64,.int .i64,.int .i64,.int .i64,.int .i64,.int .i64,.int .i64]
theorem JA:bO Tryz.prog 42=some Ou:=by kernel_rfl
noncomputable def Oe:List KK:=[.bool,.bool,.bool,.bool,.bool,.bool,.bool,.bool,.bool,.bool,.bool,.bool,.bool,.bool,.bool,.bool,.bool,.bool,.bool,.bool,.bool,.bool,.bool,.bool,.bool,.bool,.bool,.bool,.bool,.bool,.bool,.bool,.bool,.bool,.bool,.bool,.bool,.bool,.bool,.bool,.bool,.bool,.bool,.bool,.bool,.bool,.bool,.bool,.bool,.bool,.bool,.bool,.bool,.bool,.bool,.bool,.bool,.bool,.bool,.bool,.bool,.bool,.bool,.bool]
theorem LD:bO Tryz.prog 85=some Oe:=by kernel_rfl
noncomputable def N9:List KK:=[.int .i64,.int .i64,.bool,.bool]
theorem KE:bO Tryz.prog 89=some N9:=by kernel_rfl
noncomputable def NI:List KK:=[.int .i64,.int .i64,.bool,.bool]
theorem Ml:bO Tryz.prog 90=some NI:=by kernel_rfl
noncomputable def Gu:List KK:=[.int .i64,.int .i64]
theorem Ar:bO Tryz.prog 111=some Gu:=by kernel_rfl
noncomputable def Jg:List KK:=[.int .i64,.int .i64]
theorem BS:bO Tryz.prog 112=some Jg:=by kernel_rfl
noncomputable def Cw:List KK:=[.int .i64,.int .i64,.int .i64,.int .i64,.int .i64,.int .i64,.int .i64,.int .i64,.int .i64,.int .i64,.int .i64,.int .i64,.int .i64,.int .i64,.int .i64,.int .i64]
theorem Ab:bO Tryz.prog 113=some Cw:=by kernel_rfl
noncomputable def HN:List KK:=[.string,.string]
theorem Es:bO Tryz.prog 126=some HN:=by kernel_rfl
noncomputable def yX:List KK:=[.string,.string]
theorem BB:bO Tryz.prog 127=some yX:=by kernel_rfl
noncomputable def G_:List KK:=[.int .i64,.int .i64,.int .i64,.int .i64,.int .i64,.bool]
theorem xQ:bO Tryz.prog 141=some G_:=by kernel_rfl
noncomputable def xS:List KK:=[.int .i64,.int .i64,.int .i64,.int .i64,.int .i64,.bool]
theorem EI:bO Tryz.prog 142=some xS:=by kernel_rfl
noncomputable def Et:List KK:=[.int .i64]
theorem Cb:bO Tryz.prog 157=some Et:=by kernel_rfl
noncomputable def yM:List KK:=[.int .i64]
theorem za:bO Tryz.prog 158=some yM:=by kernel_rfl
noncomputable def Em:List KK:=[.bool,.bool,.bool,.bool,.bool,.bool,.bool,.bool]
theorem Fk:bO Tryz.prog 181=some Em:=by kernel_rfl
noncomputable def Dt:List KK:=[.int .i64,.int .i64,.int .i64,.bool]
theorem HR:bO Tryz.prog 184=some Dt:=by kernel_rfl
noncomputable def EZ:List KK:=[.int .i64,.int .i64,.int .i64,.bool]
theorem zL:bO Tryz.prog 185=some EZ:=by kernel_rfl
noncomputable def EC:List KK:=[.int .i64,.int .i64,.int .i64,.int .i64,.int .i64,.int .i64,.int .i64,.int .i64,.int .i64]
theorem DZ:bO Tryz.prog 189=some EC:=by kernel_rfl
noncomputable def E5:List KK:=[.int .i64,.int .i64,.int .i64,.int .i64,.int .i64,.int .i64,.int .i64,.int .i64,.int .i64]
theorem AN:bO Tryz.prog 190=some E5:=by kernel_rfl
noncomputable def xW:List KK:=[.int .i64,.int .i64]
theorem zM:bO Tryz.prog 205=some xW:=by kernel_rfl
noncomputable def GJ:List KK:=[.int .i64,.int .i64]
theorem Ao:bO Tryz.prog 206=some GJ:=by kernel_rfl
noncomputable def CB:List KK:=[.int .i64,.int .i64,.int .i64,.int .i64,.int .i64,.int .i64,.int .i64,.int .i64,.int .i64]
theorem zm:bO Tryz.prog 227=some CB:=by kernel_rfl
noncomputable def Cx:List KK:=[.int .i64,.int .i64,.int .i64,.int .i64,.int .i64,.int .i64,.int .i64,.int .i64,.int .i64]
theorem zE:bO Tryz.prog 228=some Cx:=by kernel_rfl
noncomputable def GG:List KK:=[.int .i64,.int .i64]
theorem yV:bO Tryz.prog 246=some GG:=by kernel_rfl
noncomputable def CU:List KK:=[.int .i64,.int .i64]
theorem Cu:bO Tryz.prog 247=some CU:=by kernel_rfl
noncomputable def Fc:List KK:=[.string,.int .i64,.string]
theorem xz:bO Tryz.prog 279=some Fc:=by kernel_rfl
noncomputable def xt:List KK:=[.string,.int .i64,.string]
theorem Cd:bO Tryz.prog 280=some xt:=by kernel_rfl
noncomputable def Ag:List KK:=[.int .i64,.int .i64,.int .i64,.bool,.int .i64]
theorem G8:bO Tryz.prog 286=some Ag:=by kernel_rfl
noncomputable def HK:List KK:=[.int .i64,.int .i64,.int .i64,.bool,.int .i64]
theorem zO:bO Tryz.prog 287=some HK:=by kernel_rfl
noncomputable def yF:List KK:=[.int .i64,.int .i64,.int .i64,.bool,.int .i64,.int .i64,.int .i64,.int .i64,.bool,.int .i64,.int .i64,.int .i64,.int .i64,.bool,.int .i64,.int .i64,.int .i64,.int .i64,.bool,.int .i64,.int .i64,.int .i64,.int .i64,.bool,.int .i64,.int .i64,.int .i64,.int .i64,.bool,.int .i64,.int .i64,.int .i64,.int .i64,.bool,.int .i64,.int .i64,.int .i64,.int .i64,.bool,.int .i64]
theorem Jw:bO Tryz.prog 288=some yF:=by kernel_rfl
noncomputable def AJ:List KK:=[.int .i64,.int .i64,.int .i64]
theorem zD:bO Tryz.prog 293=some AJ:=by kernel_rfl
noncomputable def GA:List KK:=[.int .i64,.int .i64,.int .i64]
theorem Fi:bO Tryz.prog 308=some GA:=by kernel_rfl
noncomputable def yc:List KK:=[.int .i64,.int .i64,.int .i64,.bool]
theorem GS:bO Tryz.prog 325=some yc:=by kernel_rfl
noncomputable def C3:List KK:=[.int .i64,.int .i64,.int .i64,.bool]
theorem Hx:bO Tryz.prog 326=some C3:=by kernel_rfl
noncomputable def kyT:Tr (List KK):=.node none (.node none (.node none (.node (some ky7) (.node none (.node none (.node none (.node (some yX) .leaf .leaf) .leaf) (.node none (.node none (.node (some HK) .leaf .leaf) .leaf) .leaf)) (.node none .leaf (.node (some Gu) .leaf .leaf))) (.node none .leaf (.node none (.node none (.node none (.node (some Fc) .leaf .leaf) .leaf) .leaf) (.node none .leaf (.node (some CU) .leaf .leaf))))) (.node none (.node none (.node none .leaf (.node none .leaf (.node (some CB) .leaf .leaf))) .leaf) .leaf)) (.node none (.node none (.node none (.node (some NK) .leaf .leaf) (.node none .leaf (.node (some Cw) .leaf .leaf))) (.node none (.node (some Pi) .leaf .leaf) (.node none (.node (some N9) .leaf .leaf) (.node none (.node (some EZ) .leaf .leaf) .leaf)))) (.node none (.node none (.node none (.node none .leaf (.node none (.node (some yc) .leaf .leaf) .leaf)) (.node none (.node none (.node (some AJ) .leaf .leaf) .leaf) .leaf)) (.node none (.node (some Oe) .leaf .leaf) (.node none (.node (some Em) .leaf .leaf) .leaf))) (.node none (.node none (.node none (.node (some G_) .leaf .leaf) (.node (some xW) .leaf .leaf)) .leaf) (.node none (.node none (.node (some Et) .leaf .leaf) .leaf) (.node none (.node (some EC) .leaf .leaf) .leaf)))))) (.node none (.node none (.node (some ky8) (.node none (.node (some Pe) .leaf (.node none (.node none (.node (some yF) .leaf .leaf) .leaf) .leaf)) (.node none .leaf (.node (some Jg) .leaf .leaf))) (.node none .leaf (.node none (.node none (.node none (.node (some xt) .leaf .leaf) .leaf) .leaf) (.node none (.node (some Dt) .leaf .leaf) .leaf)))) (.node none (.node none (.node none .leaf (.node none .leaf (.node (some Cx) .leaf .leaf))) (.node none .leaf (.node none (.node none (.node (some GA) .leaf .leaf) .leaf) .leaf))) .leaf)) (.node none (.node none .leaf (.node none (.node (some Ou) .leaf .leaf) (.node none (.node (some NI) .leaf .leaf) .leaf))) (.node none (.node none (.node none (.node none .leaf (.node none (.node (some C3) .leaf .leaf) .leaf)) .leaf) (.node none .leaf (.node none .leaf (.node (some GG) .leaf .leaf)))) (.node none (.node none (.node none (.node (some xS) .leaf .leaf) (.node (some GJ) .leaf .leaf)) .leaf) (.node none (.node none (.node (some yM) (.node (some Ag) .leaf .leaf) .leaf) .leaf) (.node (some HN) (.node (some E5) .leaf .leaf) .leaf))))))
theorem Bh:kyT.toL=[(7,ky7),(127,yX),(287,HK),(111,Gu),(279,Fc),(247,CU),(227,CB),(33,NK),(113,Cw),(41,Pi),(89,N9),(185,EZ),(325,yc),(293,AJ),(85,Oe),(181,Em),(141,G_),(205,xW),(157,Et),(189,EC),(8,ky8),(32,Pe),(288,yF),(112,Jg),(280,xt),(184,Dt),(228,Cx),(308,GA),(42,Ou),(90,NI),(326,C3),(246,GG),(142,xS),(206,GJ),(158,yM),(286,Ag),(126,HN),(190,E5)]:=by kernel_rfl
theorem O9:∀ t ks,kyT.get t=some ks→oN Tryz.prog t ks:=by
 refine Tr.all_get (p:=fun t ks=>oN Tryz.prog t ks) ?_
 rw [Bh]
 exact .cons (aK N6) (.cons (aK BB) (.cons (aK zO) (.cons (aK Ar) (.cons (aK xz) (.cons (aK Cu) (.cons (aK zm) (.cons (aK Lr) (.cons (aK Ab) (.cons (aK LX) (.cons (aK KE) (.cons (aK zL) (.cons (aK GS) (.cons (aK zD) (.cons (aK LD) (.cons (aK Fk) (.cons (aK xQ) (.cons (aK zM) (.cons (aK Cb) (.cons (aK DZ) (.cons (aK OR) (.cons (aK Kj) (.cons (aK Jw) (.cons (aK BS) (.cons (aK Cd) (.cons (aK HR) (.cons (aK zE) (.cons (aK Fi) (.cons (aK JA) (.cons (aK Ml) (.cons (aK Hx) (.cons (aK yV) (.cons (aK EI) (.cons (aK Ao) (.cons (aK za) (.cons (aK G8) (.cons (aK Es) (.cons (aK AN) (.nil))))))))))))))))))))))))))))))))))))))
noncomputable def CX (σ:Sig) (kn:List (bW × Bool)) (hkn:po σ kn):Ctx Tryz.prog:=⟨tiT.get,ry,kyT.get,O9,σ,kn,hkn⟩
theorem vt:Tryz.prog.follows .mixedOrders=true:=by kernel_rfl
noncomputable abbrev CZ (σ:Sig):Ctx Tryz.prog:=CX σ [] wR
def jr (j:Nat→AV):Nat→Nat→List AV
  | _,0=>[]
  | a,n+1=>j a::jr j (a+1) n
noncomputable abbrev fQ (f:Func) (σ:Sig) (K:AV→Hp→Prop):=fnQ (CZ σ).ti f.results.toList K
theorem gwp {σ:Sig} (g:Nat) {f:Nat} {fn:Func} {c:Code} {xs:List AV} {H:Hp} {K:AV→Hp→Prop} (hf:fnT.get f=some fn) (hb:fn.body=some c) (h:wp (CZ σ) g c (xs++List.replicate (fn.ntmps - xs.length) (.lit undef)) H (fnQ (CZ σ).ti fn.results.toList K)):∃ r H',aq Tryz.prog σ f xs H r H'∧K r H' :=
  t8 (CZ σ) vt g (uD f fn hf).1 hb (uD f fn hf).2 h
theorem lrd {σ:Sig} {g:Nat} {c:Code} {T:List AV} {H:Hp} {Q:Exit→List AV→Hp→Prop} (h:wp (CZ σ) g c T H (nx Q fun T1 H1=>∀ js,co (CZ σ) c (ga g js 0 T1) H1 Q)):co (CZ σ) c T H Q :=
  co.round (CZ σ) vt h
end Go.Proofs.YtegioimlblnajaaGreat.Ev
namespace Go.Proofs.YtegioimlblnajaaGreat.Ev
set_option maxRecDepth 100000
set_option maxHeartbeats 4000000
abbrev eO:Nat:=10
abbrev hI:Nat:=15
abbrev hO:Nat:=16
abbrev iF:Nat:=17
abbrev bj:Nat:=18
abbrev dk:Nat:=21
abbrev dK:Nat:=23
abbrev gh:Nat:=24
abbrev dc:Nat:=26
abbrev cB:Nat:=27
abbrev dA:Nat:=28
abbrev dO:Nat:=30
abbrev dw:Nat:=32
abbrev dg:Nat:=34
abbrev da:Nat:=37
abbrev iT:Nat:=38
abbrev iL:Nat:=39
abbrev iX:Nat:=40
abbrev fN:Nat:=42
abbrev ey:Nat:=43
abbrev eh:Nat:=47
abbrev cL:Nat:=54
abbrev gM:Nat:=55
abbrev eT:Nat:=56
abbrev dF:Nat:=59
abbrev dQ:Nat:=61
abbrev f_:Nat:=62
abbrev c0:Nat:=68
abbrev eP:Nat:=70
abbrev gF:Nat:=71
abbrev eH:Nat:=72
abbrev eU:Nat:=73
abbrev fj:Nat:=74
abbrev ji:Nat:=75
abbrev nj:Nat:=76
abbrev de:Nat:=77
abbrev cX:Nat:=78
abbrev ci:Nat:=79
abbrev dE:Nat:=80
abbrev ff:Nat:=81
abbrev eY:Nat:=82
abbrev rK:Nat:=93
abbrev bK:Nat:=100
abbrev bG:Nat:=101
abbrev bF:Nat:=102
abbrev bp:Nat:=103
abbrev bL:Nat:=104
abbrev gu:Nat:=105
abbrev dT:Nat:=109
abbrev dZ:Nat:=122
abbrev fI:Nat:=123
abbrev cN:Nat:=124
abbrev nC:Nat:=125
abbrev g5:Nat:=126
abbrev i7:Nat:=127
abbrev qz:Nat:=128
abbrev fK:Nat:=129
abbrev cD:Nat:=135
abbrev cQ:Nat:=136
abbrev dG:Nat:=137
abbrev bS:Nat:=138
abbrev dP:Nat:=139
abbrev fO:Nat:=140
abbrev eg:Nat:=141
abbrev eK:Nat:=142
abbrev cM:Nat:=143
abbrev dz:Nat:=144
abbrev dI:Nat:=145
abbrev fR:Nat:=146
abbrev fh:Nat:=147
abbrev dH:Nat:=148
abbrev dy:Nat:=149
abbrev dD:Nat:=163
abbrev iD:Nat:=164
abbrev gH:Nat:=165
abbrev aO:Nat:=169
abbrev bD:Nat:=170
abbrev aY:Nat:=171
abbrev d8:Nat:=173
abbrev nW:Nat:=174
abbrev bZ:Nat:=175
abbrev cK:Nat:=176
abbrev gq:Nat:=181
abbrev eX:Nat:=182
abbrev lj:Nat:=183
abbrev iu:Nat:=184
abbrev fG:Nat:=185
abbrev aQ:Nat:=192
abbrev bf:Nat:=193
abbrev bA:Nat:=196
abbrev bN:Nat:=197
abbrev ct:Nat:=198
abbrev bP:Nat:=199
abbrev bu:Nat:=200
abbrev d7:Nat:=210
abbrev aW:Nat:=218
abbrev bX:Nat:=219
abbrev bz:Nat:=220
abbrev bn:Nat:=221
abbrev br:Nat:=222
abbrev cj:Nat:=231
abbrev cm:Nat:=232
abbrev aL:Nat:=233
abbrev bq:Nat:=234
abbrev cJ:Nat:=235
abbrev bi:Nat:=236
abbrev bx:Nat:=243
abbrev cu:Nat:=244
abbrev jf:Nat:=3
abbrev NM:Nat:=4
abbrev fE:Nat:=9
abbrev c7:Nat:=22
abbrev hZ:Nat:=53
abbrev fM:Nat:=54
abbrev j8:Nat:=56
abbrev mu:Nat:=75
abbrev jS:Nat:=127
abbrev qy:Nat:=154
abbrev o0:Nat:=156
abbrev qp:Nat:=254
abbrev oh:Nat:=255
abbrev pI:Nat:=257
abbrev uI:Nat:=259
abbrev sq:Nat:=262
abbrev uP:Nat:=280
theorem te:∃ i,tiT.get jf=some i∧i.d=.int .i64∧i.size=1:=⟨_,(by kernel_rfl:tiT.get jf=some ti3),by kernel_rfl,by kernel_rfl⟩
theorem kv:∃ i,tiT.get fE=some i∧i.d=.string∧i.size=1:=⟨_,(by kernel_rfl:tiT.get fE=some ti9),by kernel_rfl,by kernel_rfl⟩
theorem jG:∃ i,tiT.get c7=some i∧i.d=.slice j8∧i.size=1:=⟨_,(by kernel_rfl:tiT.get c7=some LL),by kernel_rfl,by kernel_rfl⟩
theorem pe:∃ i,tiT.get hZ=some i∧i.d=.slice fE∧i.size=1:=⟨_,(by kernel_rfl:tiT.get hZ=some Lv),by kernel_rfl,by kernel_rfl⟩
theorem ny:∃ i,tiT.get fM=some i∧i.d=.slice jS∧i.size=1:=⟨_,(by kernel_rfl:tiT.get fM=some Kg),by kernel_rfl,by kernel_rfl⟩
theorem ll:∃ i,tiT.get j8=some i∧i.d=.struct [(0,jf),(1,fE),(2,fE),(3,hZ),(4,fM)]∧i.size=5:=⟨_,(by kernel_rfl:tiT.get j8=some Ku),by kernel_rfl,by kernel_rfl⟩
theorem lH:∃ i,tiT.get jS=some i∧i.d=.struct [(0,fE),(1,fE)]∧i.size=2:=⟨_,(by kernel_rfl:tiT.get jS=some vj),by kernel_rfl,by kernel_rfl⟩
end Go.Proofs.YtegioimlblnajaaGreat.Ev
