/- The walks, part 3: the evaluator, the functions, the laws. Conditions: none. -/
import Derived.Lib.Index
import Derived.Lib.Strings
import Derived.Test.YthdcghnjndhecaaGreatProg
import Derived.Test.YthdcghnjndhecaaGreatZ2
namespace Go.Proofs.YthdcghnjndhecaaGreat.Ev
set_option linter.unusedVariables false
set_option linter.unusedSimpArgs false
structure At where
 name:ByteArray
 op:Int
 text:ByteArray
mutual
inductive Pt where
 | mk (comb:Int) (c:Cp)
inductive Cp where
 | mk (tag:ByteArray) (ids classes:List ByteArray) (attrs:List At) (pseudos:List Ps)
inductive Ps where
 | mk (kind a b:Int) (list:List (List Pt))
end
def Pt.comb:Pt→Int | .mk k _=>k
def Pt.c:Pt→Cp | .mk _ c=>c
def Cp.tag:Cp→ByteArray | .mk t _ _ _ _=>t
def Cp.ids:Cp→List ByteArray | .mk _ i _ _ _=>i
def Cp.classes:Cp→List ByteArray | .mk _ _ c _ _=>c
def Cp.attrs:Cp→List At | .mk _ _ _ a _=>a
def Cp.pseudos:Cp→List Ps | .mk _ _ _ _ p=>p
def Ps.kind:Ps→Int | .mk k _ _ _=>k
def Ps.a:Ps→Int | .mk _ a _ _=>a
def Ps.b:Ps→Int | .mk _ _ b _=>b
def Ps.list:Ps→List (List Pt) | .mk _ _ _ l=>l
abbrev Sl:=List Pt
structure ST where
 prop:Int
 kind:Int
 n:Int
 imp:Bool
structure RL where
 sels:List Sl
 sets:List ST
structure Nd where
 parent:Int
 tag:ByteArray
 id:ByteArray
 classes:List ByteArray
 attrs:List (ByteArray × ByteArray)
def dS (a:At):List AV:=[Sx a.name,I a.op,Sx a.text]
def cG (l:List ByteArray):AV:=.imm 1 (l.map fun s=>[Sx s])
mutual
def bo:Pt→List AV
 | .mk k c=>I k::bU c
def bU:Cp→List AV
 | .mk t i c a p=>[Sx t,cG i,cG c,.imm 3 (a.map dS),.imm 4 (rV p)]
def bH:Ps→List AV
 | .mk k a b l=>[I k,I a,I b,.imm 1 (qT l)]
def rH:List Pt→List (List AV)
 | []=>[]
 | p::r=>bo p::rH r
def rV:List Ps→List (List AV)
 | []=>[]
 | p::r=>bH p::rV r
def qT:List (List Pt)→List (List AV)
 | []=>[]
 | s::r=>[.imm 6 (rH s)]::qT r
end
theorem pu:∀ (l:List Pt),rH l=l.map bo
 | []=>rfl
 | p::r=>by rw [rH,pu r]; rfl
theorem uq:∀ (l:List Ps),rV l=l.map bH
 | []=>rfl
 | p::r=>by rw [rV,uq r]; rfl
def aH (s:Sl):List AV:=[.imm 6 (s.map bo)]
theorem uA:∀ (l:List Sl),qT l=l.map aH
 | []=>rfl
 | s::r=>by rw [qT,uA r,pu]; rfl
theorem dm (p:Pt):bo p=I p.comb::bU p.c:=by cases p; rfl
theorem cd (c:Cp):bU c=[Sx c.tag,cG c.ids,cG c.classes,.imm 3 (c.attrs.map dS),.imm 4 (c.pseudos.map bH)]:=by
 cases c; rw [bU,uq]; rfl
theorem e_ (p:Ps):bH p=[I p.kind,I p.a,I p.b,.imm 1 (p.list.map aH)]:=by
 cases p; rw [bH,uA]; rfl
@[simp] theorem rC (p:Pt):(bo p).length=6:=by rw [dm,cd]; rfl
@[simp] theorem qW (p:Cp):(bU p).length=5:=by rw [cd]; rfl
@[simp] theorem rL (p:Ps):(bH p).length=4:=by rw [e_]; rfl
@[simp] theorem R6 (p:Sl):(aH p).length=1:=rfl
@[simp] theorem RT (p:At):(dS p).length=3:=rfl
def sls (l:List Sl):AV:=.imm 1 (l.map aH)
def dk (s:ST):List AV:=[I s.prop,I s.kind,I s.n,Bo s.imp]
def d8 (r:RL):List AV:=[sls r.sels,.imm 4 (r.sets.map dk)]
def rls (l:List RL):AV:=.imm 2 (l.map d8)
def cF (p:ByteArray × ByteArray):List AV:=[Sx p.1,Sx p.2]
def aY (n:Nd):List AV:=[I n.parent,Sx n.tag,Sx n.id,cG n.classes,.imm 2 (n.attrs.map cF)]
def nds (l:List Nd):AV:=.imm 5 (l.map aY)
theorem bC {α:Type} (f:α→List AV) (hf:∀ x,aK (f x)=true):∀ l:List α,eU (l.map f)=true
 | []=>rfl
 | x::r=>by simp only [List.map_cons,eU,hf,bC f hf r,Bool.and_self]
@[simp] theorem mz (l:List ByteArray):bt (cG l)=true:=by
 unfold cG; simp only [bt]; exact bC _ (fun _=>rfl) l
theorem sS (a:At):aK (dS a)=true:=rfl
mutual
theorem Ax:∀ (p:Pt),aK (bo p)=true
 | .mk k c=>by rw [bo]; simp only [aK,bt,m5 c,Bool.and_self]
theorem m5:∀ (c:Cp),aK (bU c)=true
 | .mk t i c a p=>by rw [bU]; simp only [aK,bt,mz,bC _ sS,w6 p,Bool.and_self]
theorem Bq:∀ (p:Ps),aK (bH p)=true
 | .mk k a b l=>by rw [bH]; simp only [aK,bt,yC l,Bool.and_self]
theorem sY:∀ (l:List Pt),eU (rH l)=true
 | []=>rfl
 | p::r=>by rw [rH]; simp only [eU,Ax p,sY r,Bool.and_self]
theorem w6:∀ (l:List Ps),eU (rV l)=true
 | []=>rfl
 | p::r=>by rw [rV]; simp only [eU,Bq p,w6 r,Bool.and_self]
theorem yC:∀ (l:List (List Pt)),eU (qT l)=true
 | []=>rfl
 | s::r=>by rw [qT]; simp only [eU,aK,bt,sY s,yC r,Bool.and_self]
end
theorem gP (s:Sl):aK (aH s)=true:=by
 unfold aH; rw [← pu]; simp only [aK,bt,sY,Bool.and_self]
@[simp] theorem tT (l:List Sl):bt (sls l)=true:=by unfold sls; simp only [bt]; exact bC _ gP l
theorem NA (s:ST):aK (dk s)=true:=rfl
theorem M7 (r:RL):aK (d8 r)=true:=by unfold d8; simp only [aK,bt,tT,bC _ NA,Bool.and_self]
@[simp] theorem S1 (l:List RL):bt (rls l)=true:=by unfold rls; simp only [bt]; exact bC _ M7 l
theorem iR (n:Nd):aK (aY n)=true:=by unfold aY; simp only [aK,bt,mz,bC cF (fun _=>rfl),Bool.and_self]
@[simp] theorem Kh (l:List Nd):bt (nds l)=true:=by unfold nds; simp only [bt]; exact bC _ iR l
end Go.Proofs.YthdcghnjndhecaaGreat.Ev
namespace Go.Proofs.YthdcghnjndhecaaGreat.Ev
@[simp] theorem R_ (l:List ByteArray):AV.one (cG l)=true:=rfl
@[simp] theorem HE (c:Cp):(bU c).all AV.one=true:=by rw [cd]; rfl
@[simp] theorem Tw (p:Pt):(bo p).all AV.one=true:=by rw [dm,List.all_cons,HE]; rfl
@[simp] theorem PV (p:Ps):(bH p).all AV.one=true:=by rw [e_]; rfl
@[simp] theorem PW (p:Sl):(aH p).all AV.one=true:=rfl
@[simp] theorem TL (p:At):(dS p).all AV.one=true:=rfl
@[simp] theorem Tt (p:RL):(d8 p).all AV.one=true:=rfl
@[simp] theorem Qn (p:Nd):(aY p).all AV.one=true:=rfl
@[simp] theorem TN (p:ST):(dk p).all AV.one=true:=rfl
@[simp] theorem RX (p:RL):(d8 p).length=2:=rfl
@[simp] theorem vf (p:Nd):(aY p).length=5:=rfl
@[simp] theorem RR (p:ST):(dk p).length=4:=rfl
theorem bK {α:Type} {l:List α} {k:Nat} {x:α} (h:l[k]?=some x):l.drop k=x::l.drop (k+1):=by
 obtain ⟨hlt,rfl⟩:=List.getElem?_eq_some_iff.1 h
 exact List.drop_eq_getElem_cons hlt
theorem bp {α:Type} {l:List α} {k:Nat} (h:k<l.length):∃ x,l[k]?=some x:=⟨l[k],List.getElem?_eq_getElem h⟩
end Go.Proofs.YthdcghnjndhecaaGreat.Ev
namespace Go.Proofs.YthdcghnjndhecaaGreat.Ev
def i64 (n:Int):Prop:=-9223372036854775808≤n∧n≤9223372036854775807
def tc (N:Nat) (l:List ByteArray):Prop:=l.length≤N∧∀ s ∈ l,s.data.size≤N
mutual
def Pt.wf (N:Nat):Pt→Prop
 | .mk k c=>i64 k∧Cp.wf N c
def Cp.wf (N:Nat):Cp→Prop
 | .mk t i c a p=>t.data.size≤N∧tc N i∧tc N c∧(a.length≤N∧∀ x ∈ a,x.name.data.size≤N∧i64 x.op∧x.text.data.size≤N)∧p.length≤N∧tz N p
def Ps.wf (N:Nat):Ps→Prop
 | .mk k a b l=>i64 k∧i64 a∧i64 b∧l.length≤N∧uu N l
def uk (N:Nat):List Pt→Prop
 | []=>True
 | p::r=>Pt.wf N p∧uk N r
def tz (N:Nat):List Ps→Prop
 | []=>True
 | p::r=>Ps.wf N p∧tz N r
def uu (N:Nat):List (List Pt)→Prop
 | []=>True
 | s::r=>(s.length≤N∧uk N s)∧uu N r
end
theorem u6 {N:Nat}:∀ {l:List Pt},uk N l→∀ p ∈ l,Pt.wf N p
 | p::r,h,q,hq=>by
  rw [uk] at h
  rcases List.mem_cons.1 hq with rfl | hq
  ·exact h.1
  ·exact u6 h.2 q hq
theorem u7 {N:Nat}:∀ {l:List Ps},tz N l→∀ p ∈ l,Ps.wf N p
 | p::r,h,q,hq=>by
  rw [tz] at h
  rcases List.mem_cons.1 hq with rfl | hq
  ·exact h.1
  ·exact u7 h.2 q hq
def lu (N:Nat) (s:Sl):Prop:=s.length≤N∧∀ p ∈ s,Pt.wf N p
theorem uQ {N:Nat}:∀ {l:List Sl},uu N l→∀ s ∈ l,lu N s
 | s::r,h,q,hq=>by
  rw [uu] at h
  rcases List.mem_cons.1 hq with rfl | hq
  ·exact ⟨h.1.1,u6 h.1.2⟩
  ·exact uQ h.2 q hq
theorem yM {N:Nat}:∀ {l:List Pt},(∀ p ∈ l,Pt.wf N p)→uk N l
 | [],_=>by rw [uk]; trivial
 | p::r,h=>by rw [uk]; exact ⟨h p (by simp),yM fun q hq=>h q (by simp [hq])⟩
theorem yH {N:Nat}:∀ {l:List Ps},(∀ p ∈ l,Ps.wf N p)→tz N l
 | [],_=>by rw [tz]; trivial
 | p::r,h=>by rw [tz]; exact ⟨h p (by simp),yH fun q hq=>h q (by simp [hq])⟩
theorem xZ {N:Nat}:∀ {l:List Sl},(∀ p ∈ l,lu N p)→uu N l
 | [],_=>by rw [uu]; trivial
 | p::r,h=>by rw [uu]; exact ⟨⟨(h p (by simp)).1,yM (h p (by simp)).2⟩,xZ fun q hq=>h q (by simp [hq])⟩
def kI (N:Nat) (l:List Sl):Prop:=l.length≤N∧∀ s ∈ l,lu N s
structure BE (N:Nat) (c:Cp):Prop where
 tag:c.tag.data.size≤N
 ids:tc N c.ids
 classes:tc N c.classes
 attrsL:c.attrs.length≤N
 attrs:∀ x ∈ c.attrs,x.name.data.size≤N∧i64 x.op∧x.text.data.size≤N
 psL:c.pseudos.length≤N
 ps:∀ p ∈ c.pseudos,Ps.wf N p
theorem Cp.wf_iff {N:Nat} {c:Cp}:Cp.wf N c ↔ BE N c:=by
 cases c
 rw [Cp.wf]
 exact ⟨fun ⟨a,b,c,d,e,f⟩=>⟨a,b,c,d.1,d.2,e,u7 f⟩,fun ⟨a,b,c,d,d',e,f⟩=>⟨a,b,c,⟨d,d'⟩,e,yH f⟩⟩
theorem Pt.wf_iff {N:Nat} {p:Pt}:Pt.wf N p ↔ i64 p.comb∧BE N p.c:=by
 cases p; rw [Pt.wf,Cp.wf_iff]; rfl
theorem Ps.wf_iff {N:Nat} {p:Ps}:Ps.wf N p ↔ i64 p.kind∧i64 p.a∧i64 p.b∧kI N p.list:=by
 cases p; rw [Ps.wf]
 exact ⟨fun ⟨a,b,c,d,e⟩=>⟨a,b,c,d,uQ e⟩,fun ⟨a,b,c,d⟩=>⟨a,b,c,d.1,xZ d.2⟩⟩
abbrev c6:Nat:=9223372036854775807
theorem cn {k n N:Nat} (h:k<n) (hn:n≤N) (hN:N≤c6:=by decide):wr .i64 ((k:Int)+1)=((k+1:Nat):Int):=by
 have:c6=9223372036854775807:=rfl
 rw [cM (by omega) (by omega)]; rfl
end Go.Proofs.YthdcghnjndhecaaGreat.Ev
namespace Go.Proofs.YthdcghnjndhecaaGreat.Ev
@[simp] theorem kG (l:List ByteArray):aG (cG l)=some (.lit (.int .i64 l.length)):=by simp [cG]
@[simp] theorem kv (l:List Sl):aG (sls l)=some (.lit (.int .i64 l.length)):=by simp [sls]
@[simp] theorem lU (l:List RL):aG (rls l)=some (.lit (.int .i64 l.length)):=by simp [rls]
@[simp] theorem jG (l:List Nd):aG (nds l)=some (.lit (.int .i64 l.length)):=by simp [nds]
end Go.Proofs.YthdcghnjndhecaaGreat.Ev
namespace Go.Proofs.YthdcghnjndhecaaGreat.Ev
@[simp] theorem lY (s:Sl):ldL true 1 (aH s)=some (.agg (aH s)):=rfl
@[simp] theorem Kl (s:Pt):ldL true 6 (bo s)=some (.agg (bo s)):=dg (rC s)
@[simp] theorem Am (s:Cp):ldL true 5 (bU s)=some (.agg (bU s)):=dg (qW s)
@[simp] theorem rj (s:Ps):ldL true 4 (bH s)=some (.agg (bH s)):=dg (rL s)
@[simp] theorem EA (s:At):ldL true 3 (dS s)=some (.agg (dS s)):=rfl
@[simp] theorem rM (s:Nd):ldL true 5 (aY s)=some (.agg (aY s)):=rfl
@[simp] theorem TO (s:RL):ldL true 2 (d8 s)=some (.agg (d8 s)):=rfl
@[simp] theorem Tu (s:ST):ldL true 4 (dk s)=some (.agg (dk s)):=rfl
@[simp] theorem TE (s:ByteArray × ByteArray):ldL true 2 (cF s)=some (.agg (cF s)):=rfl
@[simp] theorem Ua (c:AV) (s:Sl):bO [c] 0 (aH s)=aH s:=rfl
end Go.Proofs.YthdcghnjndhecaaGreat.Ev
namespace Go.Proofs.YthdcghnjndhecaaGreat.Ev
@[simp] theorem Qo (p:Pt):(bo p).tail=bU p.c:=by rw [dm]; rfl
end Go.Proofs.YthdcghnjndhecaaGreat.Ev
namespace Go.Proofs.YthdcghnjndhecaaGreat.Ev
@[simp] theorem tS (x:Ps):ldL false 1 (bH x)=some (I x.kind):=by rw [e_]; rfl
@[simp] theorem R8 (x:Ps):ldL false 1 (bH x).tail=some (I x.a):=by rw [e_]; rfl
@[simp] theorem Sz (x:Ps):ldL false 1 ((bH x).drop 2)=some (I x.b):=by rw [e_]; rfl
@[simp] theorem oh (x:Ps):ldL false 1 ((bH x).drop 3)=some (.imm 1 (x.list.map aH)):=by rw [e_]; rfl
@[simp] theorem yR (x:Cp):ldL false 1 (bU x)=some (Sx x.tag):=by rw [cd]; rfl
@[simp] theorem SA (x:Cp):ldL false 1 (bU x).tail=some (cG x.ids):=by rw [cd]; rfl
theorem vd (x:Cp):ldL false 1 ((bU x).drop 1)=some (cG x.ids):=by rw [cd]; rfl
@[simp] theorem xh (x:Cp):ldL false 1 ((bU x).drop 2)=some (cG x.classes):=by rw [cd]; rfl
@[simp] theorem Ki (x:Cp):ldL false 1 ((bU x).drop 3)=some (.imm 3 (x.attrs.map dS)):=by rw [cd]; rfl
@[simp] theorem nT (x:Cp):ldL false 1 ((bU x).drop 4)=some (.imm 4 (x.pseudos.map bH)):=by rw [cd]; rfl
@[simp] theorem IF (x:Pt):ldL false 1 (bo x)=some (I x.comb):=by rw [dm]; rfl
@[simp] theorem my (x:Sl):ldL false 1 (aH x)=some (.imm 6 (x.map bo)):=rfl
@[simp] theorem S5 (x:At):ldL false 1 (dS x)=some (Sx x.name):=rfl
@[simp] theorem SN (x:At):ldL false 1 (dS x).tail=some (I x.op):=rfl
@[simp] theorem Tc (x:At):ldL false 1 ((dS x).drop 2)=some (Sx x.text):=rfl
@[simp] theorem Ss (x:Nd):ldL false 1 (aY x)=some (I x.parent):=rfl
@[simp] theorem SO (x:Nd):ldL false 1 (aY x).tail=some (Sx x.tag):=rfl
theorem B9 (x:Nd):ldL false 1 ((aY x).drop 1)=some (Sx x.tag):=rfl
@[simp] theorem Dx (x:Nd):ldL false 1 ((aY x).drop 2)=some (Sx x.id):=rfl
@[simp] theorem ur (x:Nd):ldL false 1 ((aY x).drop 3)=some (cG x.classes):=rfl
@[simp] theorem tn (x:Nd):ldL false 1 ((aY x).drop 4)=some (.imm 2 (x.attrs.map cF)):=rfl
@[simp] theorem Su (x:RL):ldL false 1 (d8 x)=some (sls x.sels):=rfl
@[simp] theorem Th (x:RL):ldL false 1 (d8 x).tail=some (.imm 4 (x.sets.map dk)):=rfl
@[simp] theorem KM (x:ST):ldL false 1 (dk x)=some (I x.prop):=rfl
@[simp] theorem SJ (x:ST):ldL false 1 (dk x).tail=some (I x.kind):=rfl
@[simp] theorem Sp (x:ST):ldL false 1 ((dk x).drop 2)=some (I x.n):=rfl
@[simp] theorem Hu (x:ST):ldL false 1 ((dk x).drop 3)=some (Bo x.imp):=rfl
@[simp] theorem FC (x:ByteArray × ByteArray):ldL false 1 (cF x)=some (Sx x.1):=rfl
@[simp] theorem Sc (x:ByteArray × ByteArray):ldL false 1 (cF x).tail=some (Sx x.2):=rfl
theorem Cc (x:ByteArray × ByteArray):ldL false 1 ((cF x).drop 1)=some (Sx x.2):=rfl
theorem Te {l:List AV} (x:Cp) (h:l.length=5):bO l 0 (bU x)=bU x:=bj (by rw [qW,h])
theorem yk {l:List AV} (x:Ps) (h:l.length=4):bO l 0 (bH x)=bH x:=bj (by rw [rL,h])
theorem Pc {l:List AV} (x:Pt) (h:l.length=6):bO l 0 (bo x)=bo x:=bj (by rw [rC,h])
end Go.Proofs.YthdcghnjndhecaaGreat.Ev
namespace Go.Proofs.YthdcghnjndhecaaGreat.Ev
set_option linter.unusedVariables false
set_option linter.unusedSimpArgs false
theorem kE {sz:Nat}:∀ {rows:List (List AV)} {w:Nat} (hs:∀ r ∈ rows,r.length=sz) (h:w<rows.length),rows.flatten.drop (w*sz)=rows[w]++(rows.drop (w+1)).flatten
 | r::rs,0,hs,h=>by simp
 | r::rs,w+1,hs,h=>by
  have hr:r.length=sz:=hs r (by simp)
  have e:(w+1)*sz=sz+w*sz:=by rw [Nat.succ_mul,Nat.add_comm]
  have e1:(r++rs.flatten).drop sz=rs.flatten:=by rw [← hr]; simp
  rw [List.flatten_cons,e,← List.drop_drop,e1]
  exact kE (fun r hr=>hs r (by simp [hr])) (by simpa using h)
theorem qq {a b:List AV} {k:Nat} {xs:List AV}:bO (a++b) (a.length+k) xs=a++bO b k xs:=by
 unfold bO
 rw [Nat.add_assoc,List.take_append,List.drop_append,List.take_of_length_le (by omega),List.drop_eq_nil_of_le (by omega)]
 simp
theorem rm {a b:List AV} {k:Nat} {xs:List AV} (h:k+xs.length≤a.length):bO (a++b) k xs=bO a k xs++b:=by
 unfold bO
 rw [List.take_append_of_le_length (by omega),List.drop_append_of_le_length h]
 simp
theorem i6 {sz:Nat} {xs:List AV} {k:Nat} (hk:k+xs.length≤sz):∀ {rows:List (List AV)} {w:Nat} (hs:∀ r ∈ rows,r.length=sz) (h:w<rows.length),bO rows.flatten (w*sz+k) xs=(rows.set w (bO rows[w] k xs)).flatten
 | r::rs,0,hs,h=>by
  have hr:r.length=sz:=hs r (by simp)
  simp only [Nat.zero_mul,Nat.zero_add,List.flatten_cons,List.getElem_cons_zero,List.set_cons_zero]
  exact rm (by omega)
 | r::rs,w+1,hs,h=>by
  have hr:r.length=sz:=hs r (by simp)
  have e:(w+1)*sz+k=r.length+(w*sz+k):=by rw [Nat.succ_mul,hr]; omega
  simp only [List.flatten_cons,List.getElem_cons_succ,List.set_cons_succ]
  rw [e,qq,i6 hk (fun r hr=>hs r (by simp [hr])) (by simpa using h)]
end Go.Proofs.YthdcghnjndhecaaGreat.Ev
namespace Go.Proofs.YthdcghnjndhecaaGreat.Ev
set_option linter.unusedVariables false
set_option linter.unusedSimpArgs false
def Nd.none:Nd:=⟨0,⟨#[]⟩,⟨#[]⟩,[],[]⟩
def bV (L:List Nd) (i:Nat):Nd:=L.getD i Nd.none
def par (L:List Nd) (i:Nat):Int:=(bV L i).parent
def fe (L:List Nd) (m e:Nat):List Nat:=(List.range m).filter fun j=>decide (0<j)&&decide (par L j=e)
def qg (L:List Nd) (e:Nat):List Nat:=(List.range e).filter fun j=>decide (0<j)&&decide (par L j=par L e)
def qu (l:List Nat):Int:=match l.getLast? with | some j=>j | none=>-1
def dq (L:List Nd) (e:Nat):Int:=(qg L e).length+1
def dA (L:List Nd) (e:Nat):Int:=qu (qg L e)
structure cQ (L:List Nd) (m:Nat) (d:List Nat):Prop where
 len:d.length=m
 le:m≤L.length
 root:0<m→par L 0=-1∧d[0]?=some 0
 step:∀ i,0<i→i<m→∃ p x:Nat,par L i=p∧p<i∧d[p]?=some x∧d[i]?=some (x+1)∧x+1≤256
theorem cQ.nil (L:List Nd):cQ L 0 []:=⟨rfl,Nat.zero_le _,fun h=>absurd h (Nat.lt_irrefl 0),fun i h0 h=>absurd h (Nat.not_lt_zero i)⟩
theorem cQ.first {L:List Nd} (hl:0<L.length) (h:par L 0=-1):cQ L 1 [0]:=⟨rfl,hl,fun _=>⟨h,rfl⟩,fun i h0 h=>by omega⟩
theorem cQ.next {L:List Nd} {m p x:Nat} {d:List Nat} (h:cQ L m d) (hm:0<m) (hl:m<L.length) (hp:par L m=p) (hlt:p<m) (hx:d[p]?=some x) (h256:x+1≤256):cQ L (m+1) (d++[x+1]):=by
 have hlen:=h.len
 refine ⟨by simp [hlen],hl,fun _=>⟨(h.root hm).1,?_⟩,fun i h0 hi=>?_⟩
 ·rw [List.getElem?_append_left (by omega)]; exact (h.root hm).2
 ·by_cases him:i<m
  ·obtain ⟨p',x',e1,e2,e3,e4,e5⟩:=h.step i h0 him
   exact ⟨p',x',e1,e2,by rw [List.getElem?_append_left (by omega)]; exact e3,by rw [List.getElem?_append_left (by omega)]; exact e4,e5⟩
  ·have:i=m:=by omega
   subst this
   exact ⟨p,x,hp,hlt,by rw [List.getElem?_append_left (by omega)]; exact hx,by rw [List.getElem?_append_right (by omega),hlen]; simp,h256⟩
theorem iM (L:List Nd) (m e:Nat):fe L (m+1) e=fe L m e++if 0<m∧par L m=e then [m] else []:=by
 unfold fe
 rw [List.range_succ,List.filter_append]
 congr 1
 by_cases h:0<m∧par L m=(e:Int)
 ·simp [h]
 ·rw [if_neg h]
  simp only [List.filter_cons,List.filter_nil]
  rw [if_neg (by simpa using h)]
theorem qN {L:List Nd} {m p:Nat} (hp:par L m=p):fe L m p=qg L m:=by unfold fe qg; rw [hp]
theorem AT {L:List Nd} {N:Nat} {d:List Nat} (hB:cQ L N d) {m:Nat} (hm:m≤N) {e:Nat} (he:m≤e+1):fe L m e=[]:=by
 unfold fe
 rw [List.filter_eq_nil_iff]
 intro j hj
 simp only [List.mem_range] at hj
 simp only [Bool.and_eq_true,decide_eq_true_eq,not_and]
 intro h0 h1
 obtain ⟨p,x,e1,e2,_⟩:=hB.step j h0 (by omega)
 rw [e1] at h1
 omega
def jj (L:List Nd) (d:List Nat) (i:Nat) (c:AV) (low:Nd→Nd):List AV:=aY (low (bV L i))++[c,I (d.getD i 0),I (dq L i),I (dA L i)]
@[simp] theorem It (L:List Nd) (d:List Nat) (i:Nat) (c:AV) (low:Nd→Nd):(jj L d i c low).length=9:=rfl
def eO (L:List Nd) (d:List Nat) (ch:List AV) (low:Nd→Nd):List (List AV):=ch.mapIdx fun i c=>jj L d i c low
theorem gd (L:List Nd) (d:List Nat) (ch:List AV) (low:Nd→Nd):(eO L d ch low).length=ch.length:=by simp [eO]
theorem qH {L:List Nd} {d:List Nat} {ch:List AV} {low:Nd→Nd}:∀ row ∈ eO L d ch low,row.length=9:=by
 intro row h
 unfold eO at h
 obtain ⟨i,hi,rfl⟩:=List.mem_mapIdx.1 h
 rfl
theorem ru {L:List Nd} {d:List Nat} {ch:List AV} {low:Nd→Nd} {k:Nat} {c:AV} (h:ch[k]?=some c):(eO L d ch low)[k]?=some (jj L d k c low):=by
 unfold eO
 rw [List.getElem?_mapIdx,h]; rfl
theorem Ck {L:List Nd} {d:List Nat} {ch:List AV} {low:Nd→Nd} {k:Nat} {c':AV}:eO L d (ch.set k c') low=(eO L d ch low).set k (jj L d k c' low):=by
 apply List.ext_getElem?
 intro i
 unfold eO
 rw [List.getElem?_mapIdx,List.getElem?_set,List.getElem?_set,List.getElem?_mapIdx]
 by_cases hi:k=i
 ·subst hi
  simp only [if_true,List.length_mapIdx]
  by_cases hk:k<ch.length
  ·simp [hk]
  ·simp [hk]
 ·simp [hi]
theorem Co {L:List Nd} {d:List Nat} {ch:List AV} {low:Nd→Nd} {c:AV}:eO L d (ch++[c]) low=eO L d ch low++[jj L d ch.length c low]:=by
 simp [eO,List.mapIdx_append]
theorem zY {L:List Nd} {d:List Nat} {ch:List AV} {low:Nd→Nd} {k:Nat} {c:AV} (h:ch[k]?=some c):∃ r,(eO L d ch low).flatten.drop (k*9)=jj L d k c low++r:=by
 have hk:=(List.getElem?_eq_some_iff.1 h).1
 have e:=ru (L:=L) (d:=d) (low:=low) h
 have hk':k<(eO L d ch low).length:=by rw [gd]; exact hk
 refine ⟨((eO L d ch low).drop (k+1)).flatten,?_⟩
 rw [kE qH hk']
 congr 1
 rw [List.getElem?_eq_getElem hk'] at e
 exact Option.some.inj e
theorem oL {L:List Nd} {d:List Nat} {ch:List AV} {low:Nd→Nd} {k:Nat} {c:AV} (h:ch[k]?=some c) (j:Nat) (hj:j≤9):∃ r,(eO L d ch low).flatten.drop (k*9+j)=(jj L d k c low).drop j++r:=by
 obtain ⟨r,e⟩:=zY (L:=L) (d:=d) (low:=low) h
 refine ⟨r,?_⟩
 rw [← List.drop_drop,e,List.drop_append_of_le_length (by simpa using hj)]
theorem Ci {L:List Nd} {d:List Nat} {ch:List AV} {low:Nd→Nd} {k:Nat} {c c':AV} (h:ch[k]?=some c):bO (eO L d ch low).flatten (k*9+5) [c']=(eO L d (ch.set k c') low).flatten:=by
 have hk:=(List.getElem?_eq_some_iff.1 h).1
 have hk':k<(eO L d ch low).length:=by rw [gd]; exact hk
 rw [i6 (sz:=9) (by simp) qH hk',Ck]
 congr 2
 have e:=ru (L:=L) (d:=d) (low:=low) h
 rw [List.getElem?_eq_getElem hk'] at e
 rw [Option.some.inj e]
 rfl
end Go.Proofs.YthdcghnjndhecaaGreat.Ev
namespace Go.Proofs.YthdcghnjndhecaaGreat.Ev
set_option linter.unusedVariables false
set_option linter.unusedSimpArgs false
abbrev tl (s:ByteArray):List UInt8:=s.data.toList
def mk (l:List UInt8):ByteArray:=⟨l.toArray⟩
@[simp] theorem od (l:List UInt8):tl (mk l)=l:=by simp [tl,mk]
@[simp] theorem pj (s:ByteArray):mk (tl s)=s:=by simp [tl,mk]
theorem zL {a b:List UInt8} (h:mk a=mk b):a=b:=by rw [← od a,h,od]
theorem PB {a b:ByteArray} (h:tl a=tl b):a=b:=by rw [← pj a,h,pj]
theorem cS (s:ByteArray):(tl s).length=s.data.size:=by simp [tl]
theorem Nl (l:List UInt8):(mk l).data.size=l.length:=by simp [mk]
theorem yX {s:ByteArray} {k:Nat} {c:UInt8} (h:(tl s)[k]?=some c):vE (Sx s) (I (k:Int))=some (.lit (.int .u8 c.toNat)):=by
 simp only [vE,ij]
 simp [h]
theorem F6 {s:ByteArray} {a b:Nat} (h1:a≤b) (h2:b≤s.data.size):fM (Sx s) (some (I (a:Int))) (some (I (b:Int)))=some (Sx (mk (((tl s).drop a).take (b - a)))):=by
 have h3:b≤s.size:=h2
 simp [fM,qP,ij,dn,gk,mu,mk,tl,h1,h3]
theorem wx {s:ByteArray} {b:Nat} (h2:b≤s.data.size):fM (Sx s) none (some (I (b:Int)))=some (Sx (mk ((tl s).take b))):=by
 have h3:b≤s.size:=h2
 simp [fM,qP,ij,dn,gk,mu,mk,tl,h3]
theorem wq {s:ByteArray} {a:Nat} (h1:a≤s.data.size):fM (Sx s) (some (I (a:Int))) none=some (Sx (mk ((tl s).drop a))):=by
 have h3:a≤s.size:=h1
 simp [fM,qP,ij,dn,gk,mu,mk,tl,h3]
 exact List.take_of_length_le (by simp)
theorem HY {a b:ByteArray} (h:a.data.size+b.data.size≤9223372036854775807):ah .add (Sx a) (Sx b)=some (Sx (mk (tl a++tl b))):=by
 have e:a.data++b.data=(a.data.toList++b.data.toList).toArray:=by
  apply Array.ext'
  simp
 have h3:a.size+b.size≤9223372036854775807:=h
 simp [ah,lit?,fX,rp,h3,mk,tl,e]
def vP (s p:List UInt8):Bool:=p.isPrefixOf s
def yD (s p:List UInt8):Bool:=p.isSuffixOf s
theorem w9 (s p:List UInt8) (h:p.length≤s.length):decide (mk (s.take p.length)=mk p)=vP s p:=by
 have:=Go.Lib.hasPrefix_of_take s p
 simp only [h,decide_true,Bool.true_and,Go.Lib.hasPrefix] at this
 unfold vP
 rw [← this]
 by_cases e:s.take p.length=p
 ·simp [e]
 ·have:¬ (mk (s.take p.length)=mk p):=fun h=>e (zL h)
  simp [e,this]
theorem yA (s p:List UInt8) (h:p.length≤s.length):decide (mk (s.drop (s.length - p.length))=mk p)=yD s p:=by
 have:=Go.Lib.hasSuffix_of_drop s p
 simp only [h,decide_true,Bool.true_and,Go.Lib.hasSuffix] at this
 unfold yD
 rw [← this]
 by_cases e:s.drop (s.length - p.length)=p
 ·simp [e]
 ·have:¬ (mk (s.drop (s.length - p.length))=mk p):=fun h=>e (zL h)
  simp [e,this]
theorem xE {s p:List UInt8} (h:s.length<p.length):vP s p=false:=by
 have:=Go.Lib.hasPrefix_of_take s p
 rw [show decide (p.length≤s.length)=false by simp; omega] at this
 simpa [vP,Go.Lib.hasPrefix] using this.symm
theorem w7 {s p:List UInt8} (h:s.length<p.length):yD s p=false:=by
 have:=Go.Lib.hasSuffix_of_drop s p
 rw [show decide (p.length≤s.length)=false by simp; omega] at this
 simpa [yD,Go.Lib.hasSuffix] using this.symm
def wht (c:UInt8):Bool:=c.toNat == 9||(c.toNat == 10||(c.toNat == 12||(c.toNat == 13||c.toNat == 32)))
def nw (c:UInt8):Bool:=!wht c
def wl (l:List UInt8):Nat:=(l.takeWhile nw).length
theorem Jl:∀ (l:List UInt8),wl l≤l.length
 | []=>Nat.le_refl _
 | c::l=>by
  unfold wl
  rw [List.takeWhile_cons]
  split
  ·have:=Jl l; unfold wl at this; simp; exact this
  ·simp
theorem KG:∀ {l:List UInt8} {k:Nat},k<wl l→∃ c,l[k]?=some c∧wht c=false
 | [],k,h=>by simp [wl] at h
 | c::l,k,h=>by
  unfold wl at h
  rw [List.takeWhile_cons] at h
  split at h
  ·rename_i hc
   cases k with
   | zero=>exact ⟨c,rfl,by simpa [nw] using hc⟩
   | succ k=>exact KG (l:=l) (by unfold wl; simpa using h)
  ·simp at h
theorem O9:∀ {l:List UInt8} {c:UInt8},l[wl l]?=some c→wht c=true
 | [],c,h=>by simp at h
 | d::l,c,h=>by
  unfold wl at h
  rw [List.takeWhile_cons] at h
  split at h
  ·exact O9 (l:=l) (by unfold wl; simpa using h)
  ·rename_i hc
   simp at h
   subst h
   simpa [nw] using hc
def oB:Nat→List UInt8→List (List UInt8)
 | 0,_=>[]
 | f+1,l=>if l=[] then [] else if wl l=0 then oB f (l.drop 1) else l.take (wl l)::oB f (l.drop (wl l+1))
theorem oS:∀ (f g:Nat) (l:List UInt8),l.length<f→l.length<g→oB f l=oB g l
 | 0,g,l,h,_=>by omega
 | f+1,0,l,_,h=>by omega
 | f+1,g+1,l,h1,h2=>by
  unfold oB
  by_cases hl:l=[]
  ·rw [if_pos hl,if_pos hl]
  ·have hpos:0<l.length:=List.length_pos_iff.2 hl
   rw [if_neg hl,if_neg hl,oS f g (l.drop 1) (by simp; omega) (by simp; omega),oS f g (l.drop (wl l+1)) (by simp; omega) (by simp; omega)]
def eH (l:List UInt8):List (List UInt8):=oB (l.length+1) l
theorem lj:eH []=[]:=rfl
theorem mH {l:List UInt8} (hl:l≠[]):eH l=if wl l=0 then eH (l.drop 1) else l.take (wl l)::eH (l.drop (wl l+1)):=by
 have hpos:0<l.length:=List.length_pos_iff.2 hl
 show oB (l.length+1) l=_
 unfold oB
 rw [if_neg hl]
 unfold eH
 rw [oS l.length ((l.drop 1).length+1) (l.drop 1) (by simp; omega) (by simp),oS l.length ((l.drop (wl l+1)).length+1) (l.drop (wl l+1)) (by simp; omega) (by simp)]
end Go.Proofs.YthdcghnjndhecaaGreat.Ev
namespace Go.Proofs.YthdcghnjndhecaaGreat.Ev
set_option maxRecDepth 100000
set_option maxHeartbeats 4000000
noncomputable def ti1:TI:=⟨.func,1,8,[.nilFunc]⟩
theorem Qe:aA Tryz.prog 1=some ti1:=by kernel_rfl
noncomputable def ti2:TI:=⟨.int .i64,1,8,[.int .i64 0]⟩
theorem QW:aA Tryz.prog 2=some ti2:=by kernel_rfl
noncomputable def ti3:TI:=⟨.int .i64,1,8,[.int .i64 0]⟩
theorem Q_:aA Tryz.prog 3=some ti3:=by kernel_rfl
noncomputable def ti4:TI:=⟨.bool,1,1,[.bool false]⟩
theorem Qm:aA Tryz.prog 4=some ti4:=by kernel_rfl
noncomputable def ti5:TI:=⟨.int .u8,1,1,[.int .u8 0]⟩
theorem QT:aA Tryz.prog 5=some ti5:=by kernel_rfl
noncomputable def ti6:TI:=⟨.int .u8,1,1,[.int .u8 0]⟩
theorem Py:aA Tryz.prog 6=some ti6:=by kernel_rfl
noncomputable def ti7:TI:=⟨.struct [(0,2),(1,3),(2,4),(3,6)],4,24,[.int .i64 0,.int .i64 0,.bool false,.int .u8 0]⟩
theorem QD:aA Tryz.prog 7=some ti7:=by kernel_rfl
noncomputable def ti8:TI:=⟨.struct [(0,2),(1,3),(2,4),(3,6)],4,24,[.int .i64 0,.int .i64 0,.bool false,.int .u8 0]⟩
theorem QL:aA Tryz.prog 8=some ti8:=by kernel_rfl
noncomputable def ti9:TI:=⟨.string,1,16,[.string ⟨#[]⟩]⟩
theorem RK:aA Tryz.prog 9=some ti9:=by kernel_rfl
noncomputable def PN:TI:=⟨.string,1,16,[.string ⟨#[]⟩]⟩
theorem MS:aA Tryz.prog 10=some PN:=by kernel_rfl
noncomputable def PI:TI:=⟨.string,1,16,[.string ⟨#[]⟩]⟩
theorem L7:aA Tryz.prog 11=some PI:=by kernel_rfl
noncomputable def RB:TI:=⟨.int .u64,1,8,[.int .u64 0]⟩
theorem OF:aA Tryz.prog 12=some RB:=by kernel_rfl
noncomputable def Qh:TI:=⟨.struct [(0,9),(1,12)],2,24,[.string ⟨#[]⟩,.int .u64 0]⟩
theorem NI:aA Tryz.prog 13=some Qh:=by kernel_rfl
noncomputable def PT:TI:=⟨.struct [(0,9),(1,12)],2,24,[.string ⟨#[]⟩,.int .u64 0]⟩
theorem ND:aA Tryz.prog 14=some PT:=by kernel_rfl
noncomputable def PL:TI:=⟨.ptr 262,1,8,[.pointer none]⟩
theorem LX:aA Tryz.prog 15=some PL:=by kernel_rfl
noncomputable def P7:TI:=⟨.ptr 265,1,8,[.pointer none]⟩
theorem OZ:aA Tryz.prog 16=some P7:=by kernel_rfl
noncomputable def Pv:TI:=⟨.ptr 273,1,8,[.pointer none]⟩
theorem NP:aA Tryz.prog 17=some Pv:=by kernel_rfl
noncomputable def Pn:TI:=⟨.struct [(0,17)],1,8,[.pointer none]⟩
theorem Np:aA Tryz.prog 18=some Pn:=by kernel_rfl
noncomputable def Rz:TI:=⟨.struct [(0,17)],1,8,[.pointer none]⟩
theorem NV:aA Tryz.prog 19=some Rz:=by kernel_rfl
noncomputable def Ra:TI:=⟨.int .i32,1,4,[.int .i32 0]⟩
theorem LI:aA Tryz.prog 21=some Ra:=by kernel_rfl
noncomputable def NT:TI:=⟨.slice 41,1,24,[.slice none 0 0]⟩
theorem Oe:aA Tryz.prog 22=some NT:=by kernel_rfl
noncomputable def OO:TI:=⟨.slice 49,1,24,[.slice none 0 0]⟩
theorem Nh:aA Tryz.prog 23=some OO:=by kernel_rfl
noncomputable def QN:TI:=⟨.func,1,8,[.nilFunc]⟩
theorem My:aA Tryz.prog 24=some QN:=by kernel_rfl
noncomputable def Rt:TI:=⟨.func,1,8,[.nilFunc]⟩
theorem OD:aA Tryz.prog 25=some Rt:=by kernel_rfl
noncomputable def Rv:TI:=⟨.ptr 92,1,8,[.pointer none]⟩
theorem O0:aA Tryz.prog 26=some Rv:=by kernel_rfl
noncomputable def RP:TI:=⟨.ptr 113,1,8,[.pointer none]⟩
theorem OQ:aA Tryz.prog 27=some RP:=by kernel_rfl
noncomputable def Pr:TI:=⟨.func,1,8,[.nilFunc]⟩
theorem MZ:aA Tryz.prog 29=some Pr:=by kernel_rfl
noncomputable def Qr:TI:=⟨.struct [(0,3),(1,3)],2,16,[.int .i64 0,.int .i64 0]⟩
theorem ME:aA Tryz.prog 30=some Qr:=by kernel_rfl
noncomputable def NH:TI:=⟨.struct [(0,3),(1,3)],2,16,[.int .i64 0,.int .i64 0]⟩
theorem Nc:aA Tryz.prog 31=some NH:=by kernel_rfl
noncomputable def Qk:TI:=⟨.array 8 31,16,128,[.int .i64 0,.int .i64 0,.int .i64 0,.int .i64 0,.int .i64 0,.int .i64 0,.int .i64 0,.int .i64 0,.int .i64 0,.int .i64 0,.int .i64 0,.int .i64 0,.int .i64 0,.int .i64 0,.int .i64 0,.int .i64 0]⟩
theorem NS:aA Tryz.prog 32=some Qk:=by kernel_rfl
noncomputable def PR:TI:=⟨.func,1,8,[.nilFunc]⟩
theorem MT:aA Tryz.prog 33=some PR:=by kernel_rfl
noncomputable def RD:TI:=⟨.func,1,8,[.nilFunc]⟩
theorem Nw:aA Tryz.prog 34=some RD:=by kernel_rfl
noncomputable def RH:TI:=⟨.func,1,8,[.nilFunc]⟩
theorem M6:aA Tryz.prog 35=some RH:=by kernel_rfl
noncomputable def Qu:TI:=⟨.struct [(0,3),(1,31),(3,4)],4,32,[.int .i64 0,.int .i64 0,.int .i64 0,.bool false]⟩
theorem Od:aA Tryz.prog 36=some Qu:=by kernel_rfl
noncomputable def OG:TI:=⟨.struct [(0,3),(1,31),(3,4)],4,32,[.int .i64 0,.int .i64 0,.int .i64 0,.bool false]⟩
theorem Oy:aA Tryz.prog 37=some OG:=by kernel_rfl
noncomputable def Nj:TI:=⟨.slice 9,1,24,[.slice none 0 0]⟩
theorem OX:aA Tryz.prog 38=some Nj:=by kernel_rfl
noncomputable def OY:TI:=⟨.slice 126,1,24,[.slice none 0 0]⟩
theorem NJ:aA Tryz.prog 39=some OY:=by kernel_rfl
noncomputable def Pp:TI:=⟨.struct [(0,3),(1,9),(2,9),(3,38),(4,39)],5,88,[.int .i64 0,.string ⟨#[]⟩,.string ⟨#[]⟩,.slice none 0 0,.slice none 0 0]⟩
theorem Ol:aA Tryz.prog 40=some Pp:=by kernel_rfl
noncomputable def NY:TI:=⟨.struct [(0,3),(1,9),(2,9),(3,38),(4,39)],5,88,[.int .i64 0,.string ⟨#[]⟩,.string ⟨#[]⟩,.slice none 0 0,.slice none 0 0]⟩
theorem N5:aA Tryz.prog 41=some NY:=by kernel_rfl
noncomputable def Q7:TI:=⟨.int .i64,1,8,[.int .i64 0]⟩
theorem ML:aA Tryz.prog 42=some Q7:=by kernel_rfl
noncomputable def Qq:TI:=⟨.func,1,8,[.nilFunc]⟩
theorem Oh:aA Tryz.prog 44=some Qq:=by kernel_rfl
noncomputable def Nf:TI:=⟨.slice 61,1,24,[.slice none 0 0]⟩
theorem LW:aA Tryz.prog 45=some Nf:=by kernel_rfl
noncomputable def Rd:TI:=⟨.func,1,8,[.nilFunc]⟩
theorem Oj:aA Tryz.prog 46=some Rd:=by kernel_rfl
noncomputable def NK:TI:=⟨.slice 37,1,24,[.slice none 0 0]⟩
theorem No:aA Tryz.prog 47=some NK:=by kernel_rfl
noncomputable def Qg:TI:=⟨.struct [(0,45),(1,47)],2,48,[.slice none 0 0,.slice none 0 0]⟩
theorem Oz:aA Tryz.prog 48=some Qg:=by kernel_rfl
noncomputable def M3:TI:=⟨.struct [(0,45),(1,47)],2,48,[.slice none 0 0,.slice none 0 0]⟩
theorem LV:aA Tryz.prog 49=some M3:=by kernel_rfl
noncomputable def QC:TI:=⟨.func,1,8,[.nilFunc]⟩
theorem Nz:aA Tryz.prog 50=some QC:=by kernel_rfl
noncomputable def QG:TI:=⟨.func,1,8,[.nilFunc]⟩
theorem LP:aA Tryz.prog 51=some QG:=by kernel_rfl
noncomputable def QM:TI:=⟨.func,1,8,[.nilFunc]⟩
theorem NN:aA Tryz.prog 52=some QM:=by kernel_rfl
noncomputable def MI:TI:=⟨.slice 215,1,24,[.slice none 0 0]⟩
theorem Oq:aA Tryz.prog 53=some MI:=by kernel_rfl
noncomputable def ON:TI:=⟨.slice 167,1,24,[.slice none 0 0]⟩
theorem LH:aA Tryz.prog 54=some ON:=by kernel_rfl
noncomputable def Qa:TI:=⟨.struct [(0,9),(1,38),(2,38),(3,53),(4,54)],5,112,[.string ⟨#[]⟩,.slice none 0 0,.slice none 0 0,.slice none 0 0,.slice none 0 0]⟩
theorem Oo:aA Tryz.prog 55=some Qa:=by kernel_rfl
noncomputable def NF:TI:=⟨.struct [(0,9),(1,38),(2,38),(3,53),(4,54)],5,112,[.string ⟨#[]⟩,.slice none 0 0,.slice none 0 0,.slice none 0 0,.slice none 0 0]⟩
theorem L5:aA Tryz.prog 56=some NF:=by kernel_rfl
noncomputable def Rl:TI:=⟨.struct [(0,3),(1,56)],6,120,[.int .i64 0,.string ⟨#[]⟩,.slice none 0 0,.slice none 0 0,.slice none 0 0,.slice none 0 0]⟩
theorem Om:aA Tryz.prog 57=some Rl:=by kernel_rfl
noncomputable def N3:TI:=⟨.struct [(0,3),(1,56)],6,120,[.int .i64 0,.string ⟨#[]⟩,.slice none 0 0,.slice none 0 0,.slice none 0 0,.slice none 0 0]⟩
theorem Nq:aA Tryz.prog 58=some N3:=by kernel_rfl
noncomputable def MH:TI:=⟨.slice 58,1,24,[.slice none 0 0]⟩
theorem Ma:aA Tryz.prog 59=some MH:=by kernel_rfl
noncomputable def PH:TI:=⟨.struct [(0,59)],1,24,[.slice none 0 0]⟩
theorem L_:aA Tryz.prog 60=some PH:=by kernel_rfl
noncomputable def M_:TI:=⟨.struct [(0,59)],1,24,[.slice none 0 0]⟩
theorem LO:aA Tryz.prog 61=some M_:=by kernel_rfl
noncomputable def QE:TI:=⟨.func,1,8,[.nilFunc]⟩
theorem OK:aA Tryz.prog 62=some QE:=by kernel_rfl
noncomputable def MQ:TI:=⟨.slice 3,1,24,[.slice none 0 0]⟩
theorem MM:aA Tryz.prog 63=some MQ:=by kernel_rfl
noncomputable def Pw:TI:=⟨.ptr 104,1,8,[.pointer none]⟩
theorem NG:aA Tryz.prog 64=some Pw:=by kernel_rfl
noncomputable def Re:TI:=⟨.func,1,8,[.nilFunc]⟩
theorem M2:aA Tryz.prog 65=some Re:=by kernel_rfl
noncomputable def PU:TI:=⟨.array 1024 5,1024,1024,(List.replicate 1024 (.int .u8 0))⟩
theorem OL:aA Tryz.prog 66=some PU:=by kernel_rfl
noncomputable def PC:TI:=⟨.struct [(0,66)],1024,1024,(List.replicate 1024 (.int .u8 0))⟩
theorem MD:aA Tryz.prog 67=some PC:=by kernel_rfl
noncomputable def Px:TI:=⟨.struct [(0,66)],1024,1024,(List.replicate 1024 (.int .u8 0))⟩
theorem Mj:aA Tryz.prog 68=some Px:=by kernel_rfl
noncomputable def Qz:TI:=⟨.func,1,8,[.nilFunc]⟩
theorem NL:aA Tryz.prog 69=some Qz:=by kernel_rfl
noncomputable def Rg:TI:=⟨.func,1,8,[.nilFunc]⟩
theorem Mv:aA Tryz.prog 70=some Rg:=by kernel_rfl
noncomputable def Pz:TI:=⟨.func,1,8,[.nilFunc]⟩
theorem OM:aA Tryz.prog 71=some Pz:=by kernel_rfl
noncomputable def Qy:TI:=⟨.func,1,8,[.nilFunc]⟩
theorem OH:aA Tryz.prog 72=some Qy:=by kernel_rfl
noncomputable def RG:TI:=⟨.func,1,8,[.nilFunc]⟩
theorem Og:aA Tryz.prog 73=some RG:=by kernel_rfl
noncomputable def PD:TI:=⟨.ptr 68,1,8,[.pointer none]⟩
theorem LN:aA Tryz.prog 74=some PD:=by kernel_rfl
noncomputable def Rj:TI:=⟨.func,1,8,[.nilFunc]⟩
theorem NC:aA Tryz.prog 75=some Rj:=by kernel_rfl
noncomputable def PX:TI:=⟨.func,1,8,[.nilFunc]⟩
theorem MV:aA Tryz.prog 76=some PX:=by kernel_rfl
noncomputable def QF:TI:=⟨.slice 5,1,24,[.slice none 0 0]⟩
theorem N1:aA Tryz.prog 77=some QF:=by kernel_rfl
noncomputable def QY:TI:=⟨.func,1,8,[.nilFunc]⟩
theorem Ng:aA Tryz.prog 78=some QY:=by kernel_rfl
noncomputable def QJ:TI:=⟨.func,1,8,[.nilFunc]⟩
theorem OE:aA Tryz.prog 79=some QJ:=by kernel_rfl
noncomputable def Rh:TI:=⟨.func,1,8,[.nilFunc]⟩
theorem Mm:aA Tryz.prog 81=some Rh:=by kernel_rfl
noncomputable def RC:TI:=⟨.func,1,8,[.nilFunc]⟩
theorem Mb:aA Tryz.prog 82=some RC:=by kernel_rfl
noncomputable def Rp:TI:=⟨.func,1,8,[.nilFunc]⟩
theorem LM:aA Tryz.prog 83=some Rp:=by kernel_rfl
noncomputable def P1:TI:=⟨.func,1,8,[.nilFunc]⟩
theorem OP:aA Tryz.prog 84=some P1:=by kernel_rfl
noncomputable def RE:TI:=⟨.func,1,8,[.nilFunc]⟩
theorem LZ:aA Tryz.prog 85=some RE:=by kernel_rfl
noncomputable def PE:TI:=⟨.array 8 3,8,64,[.int .i64 0,.int .i64 0,.int .i64 0,.int .i64 0,.int .i64 0,.int .i64 0,.int .i64 0,.int .i64 0]⟩
theorem OR:aA Tryz.prog 86=some PE:=by kernel_rfl
noncomputable def QU:TI:=⟨.array 8 4,8,8,[.bool false,.bool false,.bool false,.bool false,.bool false,.bool false,.bool false,.bool false]⟩
theorem Ov:aA Tryz.prog 87=some QU:=by kernel_rfl
noncomputable def QS:TI:=⟨.func,1,8,[.nilFunc]⟩
theorem Ox:aA Tryz.prog 89=some QS:=by kernel_rfl
noncomputable def Rc:TI:=⟨.slice 135,1,24,[.slice none 0 0]⟩
theorem Ms:aA Tryz.prog 90=some Rc:=by kernel_rfl
noncomputable def PS:TI:=⟨.struct [(0,90)],1,24,[.slice none 0 0]⟩
theorem MN:aA Tryz.prog 91=some PS:=by kernel_rfl
noncomputable def Rm:TI:=⟨.struct [(0,90)],1,24,[.slice none 0 0]⟩
theorem MY:aA Tryz.prog 92=some Rm:=by kernel_rfl
noncomputable def P9:TI:=⟨.func,1,8,[.nilFunc]⟩
theorem NM:aA Tryz.prog 93=some P9:=by kernel_rfl
noncomputable def QR:TI:=⟨.func,1,8,[.nilFunc]⟩
theorem NU:aA Tryz.prog 95=some QR:=by kernel_rfl
noncomputable def QX:TI:=⟨.slice 145,1,24,[.slice none 0 0]⟩
theorem NZ:aA Tryz.prog 96=some QX:=by kernel_rfl
noncomputable def RA:TI:=⟨.func,1,8,[.nilFunc]⟩
theorem MU:aA Tryz.prog 97=some RA:=by kernel_rfl
noncomputable def P2:TI:=⟨.func,1,8,[.nilFunc]⟩
theorem N8:aA Tryz.prog 98=some P2:=by kernel_rfl
noncomputable def Qd:TI:=⟨.func,1,8,[.nilFunc]⟩
theorem Mg:aA Tryz.prog 99=some Qd:=by kernel_rfl
noncomputable def DO:TI:=⟨.map 107 63,1,8,[.map none]⟩
theorem Ly:aA Tryz.prog 100=some DO:=by kernel_rfl
noncomputable def F7:TI:=⟨.struct [(0,100)],1,8,[.map none]⟩
theorem Hc:aA Tryz.prog 101=some F7:=by kernel_rfl
noncomputable def CU:TI:=⟨.struct [(0,100)],1,8,[.map none]⟩
theorem CV:aA Tryz.prog 102=some CU:=by kernel_rfl
noncomputable def CE:TI:=⟨.struct [(0,102),(1,3)],2,16,[.map none,.int .i64 0]⟩
theorem GD:aA Tryz.prog 103=some CE:=by kernel_rfl
noncomputable def GS:TI:=⟨.struct [(0,102),(1,3)],2,16,[.map none,.int .i64 0]⟩
theorem Kf:aA Tryz.prog 104=some GS:=by kernel_rfl
noncomputable def KE:TI:=⟨.func,1,8,[.nilFunc]⟩
theorem C9:aA Tryz.prog 105=some KE:=by kernel_rfl
noncomputable def GW:TI:=⟨.struct [(0,3),(1,9)],2,24,[.int .i64 0,.string ⟨#[]⟩]⟩
theorem E3:aA Tryz.prog 106=some GW:=by kernel_rfl
noncomputable def DN:TI:=⟨.struct [(0,3),(1,9)],2,24,[.int .i64 0,.string ⟨#[]⟩]⟩
theorem EZ:aA Tryz.prog 107=some DN:=by kernel_rfl
noncomputable def Fh:TI:=⟨.func,1,8,[.nilFunc]⟩
theorem HX:aA Tryz.prog 108=some Fh:=by kernel_rfl
noncomputable def Du:TI:=⟨.func,1,8,[.nilFunc]⟩
theorem GV:aA Tryz.prog 109=some Du:=by kernel_rfl
noncomputable def JB:TI:=⟨.func,1,8,[.nilFunc]⟩
theorem Ii:aA Tryz.prog 110=some JB:=by kernel_rfl
noncomputable def Hs:TI:=⟨.func,1,8,[.nilFunc]⟩
theorem FF:aA Tryz.prog 111=some Hs:=by kernel_rfl
noncomputable def Ln:TI:=⟨.struct [(0,22),(1,63)],2,48,[.slice none 0 0,.slice none 0 0]⟩
theorem Eu:aA Tryz.prog 112=some Ln:=by kernel_rfl
noncomputable def Et:TI:=⟨.struct [(0,22),(1,63)],2,48,[.slice none 0 0,.slice none 0 0]⟩
theorem JR:aA Tryz.prog 113=some Et:=by kernel_rfl
noncomputable def Gl:TI:=⟨.func,1,8,[.nilFunc]⟩
theorem Gu:aA Tryz.prog 114=some Gl:=by kernel_rfl
noncomputable def DA:TI:=⟨.func,1,8,[.nilFunc]⟩
theorem E5:aA Tryz.prog 115=some DA:=by kernel_rfl
noncomputable def GO:TI:=⟨.func,1,8,[.nilFunc]⟩
theorem Lw:aA Tryz.prog 116=some GO:=by kernel_rfl
noncomputable def DU:TI:=⟨.slice 120,1,24,[.slice none 0 0]⟩
theorem IN:aA Tryz.prog 117=some DU:=by kernel_rfl
noncomputable def ES:TI:=⟨.func,1,8,[.nilFunc]⟩
theorem D6:aA Tryz.prog 118=some ES:=by kernel_rfl
noncomputable def IX:TI:=⟨.struct [(0,96),(1,96)],2,48,[.slice none 0 0,.slice none 0 0]⟩
theorem DF:aA Tryz.prog 119=some IX:=by kernel_rfl
noncomputable def EN:TI:=⟨.struct [(0,96),(1,96)],2,48,[.slice none 0 0,.slice none 0 0]⟩
theorem Eb:aA Tryz.prog 120=some EN:=by kernel_rfl
noncomputable def EM:TI:=⟨.func,1,8,[.nilFunc]⟩
theorem GA:aA Tryz.prog 121=some EM:=by kernel_rfl
noncomputable def JL:TI:=⟨.slice 161,1,24,[.slice none 0 0]⟩
theorem FR:aA Tryz.prog 122=some JL:=by kernel_rfl
noncomputable def Fp:TI:=⟨.func,1,8,[.nilFunc]⟩
theorem Ec:aA Tryz.prog 123=some Fp:=by kernel_rfl
noncomputable def CN:TI:=⟨.func,1,8,[.nilFunc]⟩
theorem K6:aA Tryz.prog 124=some CN:=by kernel_rfl
noncomputable def Gp:TI:=⟨.struct [(0,9),(1,9)],2,32,[.string ⟨#[]⟩,.string ⟨#[]⟩]⟩
theorem Iu:aA Tryz.prog 125=some Gp:=by kernel_rfl
noncomputable def Bl:TI:=⟨.struct [(0,9),(1,9)],2,32,[.string ⟨#[]⟩,.string ⟨#[]⟩]⟩
theorem Ho:aA Tryz.prog 126=some Bl:=by kernel_rfl
noncomputable def FK:TI:=⟨.func,1,8,[.nilFunc]⟩
theorem GB:aA Tryz.prog 127=some FK:=by kernel_rfl
noncomputable def EC:TI:=⟨.struct [(0,37),(4,3)],5,40,[.int .i64 0,.int .i64 0,.int .i64 0,.bool false,.int .i64 0]⟩
theorem Gw:aA Tryz.prog 128=some EC:=by kernel_rfl
noncomputable def Fv:TI:=⟨.struct [(0,37),(4,3)],5,40,[.int .i64 0,.int .i64 0,.int .i64 0,.bool false,.int .i64 0]⟩
theorem G7:aA Tryz.prog 129=some Fv:=by kernel_rfl
noncomputable def El:TI:=⟨.array 8 129,40,320,[.int .i64 0,.int .i64 0,.int .i64 0,.bool false,.int .i64 0,.int .i64 0,.int .i64 0,.int .i64 0,.bool false,.int .i64 0,.int .i64 0,.int .i64 0,.int .i64 0,.bool false,.int .i64 0,.int .i64 0,.int .i64 0,.int .i64 0,.bool false,.int .i64 0,.int .i64 0,.int .i64 0,.int .i64 0,.bool false,.int .i64 0,.int .i64 0,.int .i64 0,.int .i64 0,.bool false,.int .i64 0,.int .i64 0,.int .i64 0,.int .i64 0,.bool false,.int .i64 0,.int .i64 0,.int .i64 0,.int .i64 0,.bool false,.int .i64 0]⟩
theorem Ju:aA Tryz.prog 130=some El:=by kernel_rfl
noncomputable def Je:TI:=⟨.func,1,8,[.nilFunc]⟩
theorem D_:aA Tryz.prog 131=some Je:=by kernel_rfl
noncomputable def Hl:TI:=⟨.func,1,8,[.nilFunc]⟩
theorem Fi:aA Tryz.prog 132=some Hl:=by kernel_rfl
noncomputable def FY:TI:=⟨.func,1,8,[.nilFunc]⟩
theorem JP:aA Tryz.prog 133=some FY:=by kernel_rfl
noncomputable def FH:TI:=⟨.struct [(0,41),(5,63),(6,3),(7,3),(8,3)],9,136,[.int .i64 0,.string ⟨#[]⟩,.string ⟨#[]⟩,.slice none 0 0,.slice none 0 0,.slice none 0 0,.int .i64 0,.int .i64 0,.int .i64 0]⟩
theorem EE:aA Tryz.prog 134=some FH:=by kernel_rfl
noncomputable def J9:TI:=⟨.struct [(0,41),(5,63),(6,3),(7,3),(8,3)],9,136,[.int .i64 0,.string ⟨#[]⟩,.string ⟨#[]⟩,.slice none 0 0,.slice none 0 0,.slice none 0 0,.int .i64 0,.int .i64 0,.int .i64 0]⟩
theorem D5:aA Tryz.prog 135=some J9:=by kernel_rfl
noncomputable def KD:TI:=⟨.ptr 135,1,8,[.pointer none]⟩
theorem Ik:aA Tryz.prog 136=some KD:=by kernel_rfl
noncomputable def Kr:TI:=⟨.ptr 139,1,8,[.pointer none]⟩
theorem LD:aA Tryz.prog 137=some Kr:=by kernel_rfl
noncomputable def Jc:TI:=⟨.struct [(0,96),(1,3),(2,4),(3,3)],4,48,[.slice none 0 0,.int .i64 0,.bool false,.int .i64 0]⟩
theorem K_:aA Tryz.prog 138=some Jc:=by kernel_rfl
noncomputable def CQ:TI:=⟨.struct [(0,96),(1,3),(2,4),(3,3)],4,48,[.slice none 0 0,.int .i64 0,.bool false,.int .i64 0]⟩
theorem Fl:aA Tryz.prog 139=some CQ:=by kernel_rfl
noncomputable def GP:TI:=⟨.func,1,8,[.nilFunc]⟩
theorem Le:aA Tryz.prog 140=some GP:=by kernel_rfl
noncomputable def DK:TI:=⟨.ptr 143,1,8,[.pointer none]⟩
theorem Dr:aA Tryz.prog 141=some DK:=by kernel_rfl
noncomputable def Hm:TI:=⟨.struct [(0,63),(1,3)],2,32,[.slice none 0 0,.int .i64 0]⟩
theorem Fg:aA Tryz.prog 142=some Hm:=by kernel_rfl
noncomputable def GQ:TI:=⟨.struct [(0,63),(1,3)],2,32,[.slice none 0 0,.int .i64 0]⟩
theorem C5:aA Tryz.prog 143=some GQ:=by kernel_rfl
noncomputable def DH:TI:=⟨.struct [(0,3),(1,9),(2,3),(3,4),(4,3)],5,48,[.int .i64 0,.string ⟨#[]⟩,.int .i64 0,.bool false,.int .i64 0]⟩
theorem FA:aA Tryz.prog 144=some DH:=by kernel_rfl
noncomputable def JQ:TI:=⟨.struct [(0,3),(1,9),(2,3),(3,4),(4,3)],5,48,[.int .i64 0,.string ⟨#[]⟩,.int .i64 0,.bool false,.int .i64 0]⟩
theorem Id:aA Tryz.prog 145=some JQ:=by kernel_rfl
noncomputable def C6:TI:=⟨.func,1,8,[.nilFunc]⟩
theorem HT:aA Tryz.prog 146=some C6:=by kernel_rfl
noncomputable def IG:TI:=⟨.func,1,8,[.nilFunc]⟩
theorem Ie:aA Tryz.prog 147=some IG:=by kernel_rfl
noncomputable def Ej:TI:=⟨.func,1,8,[.nilFunc]⟩
theorem Kc:aA Tryz.prog 148=some Ej:=by kernel_rfl
noncomputable def JX:TI:=⟨.func,1,8,[.nilFunc]⟩
theorem Lf:aA Tryz.prog 149=some JX:=by kernel_rfl
noncomputable def HC:TI:=⟨.ptr 102,1,8,[.pointer none]⟩
theorem Fm:aA Tryz.prog 150=some HC:=by kernel_rfl
noncomputable def Kz:TI:=⟨.func,1,8,[.nilFunc]⟩
theorem HD:aA Tryz.prog 152=some Kz:=by kernel_rfl
noncomputable def DI:TI:=⟨.func,1,8,[.nilFunc]⟩
theorem Kt:aA Tryz.prog 153=some DI:=by kernel_rfl
noncomputable def HJ:TI:=⟨.func,1,8,[.nilFunc]⟩
theorem JH:aA Tryz.prog 154=some HJ:=by kernel_rfl
noncomputable def DM:TI:=⟨.func,1,8,[.nilFunc]⟩
theorem HI:aA Tryz.prog 155=some DM:=by kernel_rfl
noncomputable def Kx:TI:=⟨.func,1,8,[.nilFunc]⟩
theorem KQ:aA Tryz.prog 156=some Kx:=by kernel_rfl
noncomputable def HO:TI:=⟨.func,1,8,[.nilFunc]⟩
theorem Ge:aA Tryz.prog 157=some HO:=by kernel_rfl
noncomputable def IW:TI:=⟨.func,1,8,[.nilFunc]⟩
theorem Ei:aA Tryz.prog 158=some IW:=by kernel_rfl
noncomputable def LE:TI:=⟨.func,1,8,[.nilFunc]⟩
theorem JJ:aA Tryz.prog 159=some LE:=by kernel_rfl
noncomputable def Jr:TI:=⟨.struct [(0,9),(1,96),(2,4)],3,48,[.string ⟨#[]⟩,.slice none 0 0,.bool false]⟩
theorem DS:aA Tryz.prog 160=some Jr:=by kernel_rfl
noncomputable def Dg:TI:=⟨.struct [(0,9),(1,96),(2,4)],3,48,[.string ⟨#[]⟩,.slice none 0 0,.bool false]⟩
theorem KL:aA Tryz.prog 161=some Dg:=by kernel_rfl
noncomputable def IP:TI:=⟨.func,1,8,[.nilFunc]⟩
theorem Lz:aA Tryz.prog 163=some IP:=by kernel_rfl
noncomputable def Gk:TI:=⟨.func,1,8,[.nilFunc]⟩
theorem He:aA Tryz.prog 165=some Gk:=by kernel_rfl
noncomputable def HM:TI:=⟨.struct [(0,3),(1,3),(2,3),(3,45)],4,48,[.int .i64 0,.int .i64 0,.int .i64 0,.slice none 0 0]⟩
theorem FV:aA Tryz.prog 166=some HM:=by kernel_rfl
noncomputable def A4:TI:=⟨.struct [(0,3),(1,3),(2,3),(3,45)],4,48,[.int .i64 0,.int .i64 0,.int .i64 0,.slice none 0 0]⟩
theorem DL:aA Tryz.prog 167=some A4:=by kernel_rfl
noncomputable def Hr:TI:=⟨.func,1,8,[.nilFunc]⟩
theorem Ir:aA Tryz.prog 168=some Hr:=by kernel_rfl
noncomputable def Dt:TI:=⟨.func,1,8,[.nilFunc]⟩
theorem Ds:aA Tryz.prog 169=some Dt:=by kernel_rfl
noncomputable def Gc:TI:=⟨.func,1,8,[.nilFunc]⟩
theorem E4:aA Tryz.prog 170=some Gc:=by kernel_rfl
noncomputable def I1:TI:=⟨.func,1,8,[.nilFunc]⟩
theorem EF:aA Tryz.prog 171=some I1:=by kernel_rfl
noncomputable def Ew:TI:=⟨.func,1,8,[.nilFunc]⟩
theorem ER:aA Tryz.prog 172=some Ew:=by kernel_rfl
noncomputable def EG:TI:=⟨.func,1,8,[.nilFunc]⟩
theorem Fx:aA Tryz.prog 173=some EG:=by kernel_rfl
noncomputable def Dd:TI:=⟨.func,1,8,[.nilFunc]⟩
theorem Il:aA Tryz.prog 174=some Dd:=by kernel_rfl
noncomputable def Fc:TI:=⟨.func,1,8,[.nilFunc]⟩
theorem KN:aA Tryz.prog 175=some Fc:=by kernel_rfl
noncomputable def La:TI:=⟨.func,1,8,[.nilFunc]⟩
theorem Gr:aA Tryz.prog 176=some La:=by kernel_rfl
noncomputable def HW:TI:=⟨.func,1,8,[.nilFunc]⟩
theorem Em:aA Tryz.prog 177=some HW:=by kernel_rfl
noncomputable def Kq:TI:=⟨.int .u32,1,4,[.int .u32 0]⟩
theorem Gf:aA Tryz.prog 178=some Kq:=by kernel_rfl
noncomputable def Fw:TI:=⟨.slice 63,1,24,[.slice none 0 0]⟩
theorem GT:aA Tryz.prog 179=some Fw:=by kernel_rfl
noncomputable def Gb:TI:=⟨.func,1,8,[.nilFunc]⟩
theorem Iw:aA Tryz.prog 180=some Gb:=by kernel_rfl
noncomputable def DE:TI:=⟨.func,1,8,[.nilFunc]⟩
theorem JD:aA Tryz.prog 181=some DE:=by kernel_rfl
noncomputable def D3:TI:=⟨.func,1,8,[.nilFunc]⟩
theorem Gg:aA Tryz.prog 182=some D3:=by kernel_rfl
noncomputable def Fu:TI:=⟨.int .u64,1,8,[.int .u64 0]⟩
theorem IY:aA Tryz.prog 183=some Fu:=by kernel_rfl
noncomputable def GR:TI:=⟨.func,1,8,[.nilFunc]⟩
theorem J8:aA Tryz.prog 184=some GR:=by kernel_rfl
noncomputable def IV:TI:=⟨.func,1,8,[.nilFunc]⟩
theorem Lh:aA Tryz.prog 185=some IV:=by kernel_rfl
noncomputable def G5:TI:=⟨.func,1,8,[.nilFunc]⟩
theorem LC:aA Tryz.prog 186=some G5:=by kernel_rfl
noncomputable def GI:TI:=⟨.func,1,8,[.nilFunc]⟩
theorem EB:aA Tryz.prog 187=some GI:=by kernel_rfl
noncomputable def Lx:TI:=⟨.func,1,8,[.nilFunc]⟩
theorem FG:aA Tryz.prog 188=some Lx:=by kernel_rfl
noncomputable def DC:TI:=⟨.func,1,8,[.nilFunc]⟩
theorem Ld:aA Tryz.prog 189=some DC:=by kernel_rfl
noncomputable def HA:TI:=⟨.func,1,8,[.nilFunc]⟩
theorem Dn:aA Tryz.prog 190=some HA:=by kernel_rfl
noncomputable def KJ:TI:=⟨.func,1,8,[.nilFunc]⟩
theorem Ga:aA Tryz.prog 191=some KJ:=by kernel_rfl
noncomputable def Jz:TI:=⟨.array 3 3,3,24,[.int .i64 0,.int .i64 0,.int .i64 0]⟩
theorem Iz:aA Tryz.prog 192=some Jz:=by kernel_rfl
noncomputable def EU:TI:=⟨.func,1,8,[.nilFunc]⟩
theorem Ij:aA Tryz.prog 193=some EU:=by kernel_rfl
noncomputable def F3:TI:=⟨.func,1,8,[.nilFunc]⟩
theorem DX:aA Tryz.prog 194=some F3:=by kernel_rfl
noncomputable def Kb:TI:=⟨.func,1,8,[.nilFunc]⟩
theorem Kd:aA Tryz.prog 195=some Kb:=by kernel_rfl
noncomputable def Ez:TI:=⟨.int .i64,1,8,[.int .i64 0]⟩
theorem HU:aA Tryz.prog 196=some Ez:=by kernel_rfl
noncomputable def Gm:TI:=⟨.func,1,8,[.nilFunc]⟩
theorem IR:aA Tryz.prog 198=some Gm:=by kernel_rfl
noncomputable def DZ:TI:=⟨.func,1,8,[.nilFunc]⟩
theorem Li:aA Tryz.prog 199=some DZ:=by kernel_rfl
noncomputable def Ed:TI:=⟨.func,1,8,[.nilFunc]⟩
theorem D8:aA Tryz.prog 200=some Ed:=by kernel_rfl
noncomputable def KF:TI:=⟨.func,1,8,[.nilFunc]⟩
theorem CI:aA Tryz.prog 201=some KF:=by kernel_rfl
noncomputable def KZ:TI:=⟨.func,1,8,[.nilFunc]⟩
theorem Js:aA Tryz.prog 202=some KZ:=by kernel_rfl
noncomputable def Ha:TI:=⟨.func,1,8,[.nilFunc]⟩
theorem IQ:aA Tryz.prog 203=some Ha:=by kernel_rfl
noncomputable def GX:TI:=⟨.func,1,8,[.nilFunc]⟩
theorem Dy:aA Tryz.prog 204=some GX:=by kernel_rfl
noncomputable def Fd:TI:=⟨.int .u64,1,8,[.int .u64 0]⟩
theorem Gq:aA Tryz.prog 205=some Fd:=by kernel_rfl
noncomputable def K9:TI:=⟨.func,1,8,[.nilFunc]⟩
theorem J_:aA Tryz.prog 206=some K9:=by kernel_rfl
noncomputable def Ko:TI:=⟨.ptr 230,1,8,[.pointer none]⟩
theorem Lr:aA Tryz.prog 207=some Ko:=by kernel_rfl
noncomputable def DW:TI:=⟨.func,1,8,[.nilFunc]⟩
theorem Lg:aA Tryz.prog 208=some DW:=by kernel_rfl
noncomputable def Hg:TI:=⟨.func,1,8,[.nilFunc]⟩
theorem Gz:aA Tryz.prog 209=some Hg:=by kernel_rfl
noncomputable def Kj:TI:=⟨.func,1,8,[.nilFunc]⟩
theorem D4:aA Tryz.prog 210=some Kj:=by kernel_rfl
noncomputable def E6:TI:=⟨.func,1,8,[.nilFunc]⟩
theorem LB:aA Tryz.prog 211=some E6:=by kernel_rfl
noncomputable def Im:TI:=⟨.array 3 3,3,24,[.int .i64 0,.int .i64 0,.int .i64 0]⟩
theorem JE:aA Tryz.prog 212=some Im:=by kernel_rfl
noncomputable def KT:TI:=⟨.func,1,8,[.nilFunc]⟩
theorem Dz:aA Tryz.prog 213=some KT:=by kernel_rfl
noncomputable def Fk:TI:=⟨.struct [(0,9),(1,3),(2,9)],3,40,[.string ⟨#[]⟩,.int .i64 0,.string ⟨#[]⟩]⟩
theorem IM:aA Tryz.prog 214=some Fk:=by kernel_rfl
noncomputable def Av:TI:=⟨.struct [(0,9),(1,3),(2,9)],3,40,[.string ⟨#[]⟩,.int .i64 0,.string ⟨#[]⟩]⟩
theorem I2:aA Tryz.prog 215=some Av:=by kernel_rfl
noncomputable def FS:TI:=⟨.func,1,8,[.nilFunc]⟩
theorem KU:aA Tryz.prog 216=some FS:=by kernel_rfl
noncomputable def Ic:TI:=⟨.func,1,8,[.nilFunc]⟩
theorem F4:aA Tryz.prog 217=some Ic:=by kernel_rfl
noncomputable def CY:TI:=⟨.func,1,8,[.nilFunc]⟩
theorem JF:aA Tryz.prog 218=some CY:=by kernel_rfl
noncomputable def Hj:TI:=⟨.func,1,8,[.nilFunc]⟩
theorem CG:aA Tryz.prog 219=some Hj:=by kernel_rfl
noncomputable def Fs:TI:=⟨.func,1,8,[.nilFunc]⟩
theorem Ek:aA Tryz.prog 220=some Fs:=by kernel_rfl
noncomputable def Ka:TI:=⟨.int .u64,1,8,[.int .u64 0]⟩
theorem CR:aA Tryz.prog 221=some Ka:=by kernel_rfl
noncomputable def Jv:TI:=⟨.func,1,8,[.nilFunc]⟩
theorem Lu:aA Tryz.prog 222=some Jv:=by kernel_rfl
noncomputable def KW:TI:=⟨.func,1,8,[.nilFunc]⟩
theorem GL:aA Tryz.prog 223=some KW:=by kernel_rfl
noncomputable def F8:TI:=⟨.func,1,8,[.nilFunc]⟩
theorem Lp:aA Tryz.prog 224=some F8:=by kernel_rfl
noncomputable def JG:TI:=⟨.ptr 3,1,8,[.pointer none]⟩
theorem If:aA Tryz.prog 225=some JG:=by kernel_rfl
noncomputable def Lj:TI:=⟨.func,1,8,[.nilFunc]⟩
theorem Fb:aA Tryz.prog 226=some Lj:=by kernel_rfl
noncomputable def I7:TI:=⟨.map 246 4,1,8,[.map none]⟩
theorem Dh:aA Tryz.prog 227=some I7:=by kernel_rfl
noncomputable def K3:TI:=⟨.slice 231,1,24,[.slice none 0 0]⟩
theorem KS:aA Tryz.prog 228=some K3:=by kernel_rfl
noncomputable def JY:TI:=⟨.struct [(0,26),(1,228),(2,227)],3,40,[.pointer none,.slice none 0 0,.map none]⟩
theorem Hb:aA Tryz.prog 229=some JY:=by kernel_rfl
noncomputable def LA:TI:=⟨.struct [(0,26),(1,228),(2,227)],3,40,[.pointer none,.slice none 0 0,.map none]⟩
theorem Ix:aA Tryz.prog 230=some LA:=by kernel_rfl
noncomputable def Fe:TI:=⟨.slice 234,1,24,[.slice none 0 0]⟩
theorem EK:aA Tryz.prog 231=some Fe:=by kernel_rfl
noncomputable def I6:TI:=⟨.func,1,8,[.nilFunc]⟩
theorem IS:aA Tryz.prog 232=some I6:=by kernel_rfl
noncomputable def FO:TI:=⟨.struct [(0,58),(6,179)],7,144,[.int .i64 0,.string ⟨#[]⟩,.slice none 0 0,.slice none 0 0,.slice none 0 0,.slice none 0 0,.slice none 0 0]⟩
theorem KX:aA Tryz.prog 233=some FO:=by kernel_rfl
noncomputable def Ip:TI:=⟨.struct [(0,58),(6,179)],7,144,[.int .i64 0,.string ⟨#[]⟩,.slice none 0 0,.slice none 0 0,.slice none 0 0,.slice none 0 0,.slice none 0 0]⟩
theorem DD:aA Tryz.prog 234=some Ip:=by kernel_rfl
noncomputable def IC:TI:=⟨.ptr 212,1,8,[.pointer none]⟩
theorem IA:aA Tryz.prog 235=some IC:=by kernel_rfl
noncomputable def K7:TI:=⟨.func,1,8,[.nilFunc]⟩
theorem JT:aA Tryz.prog 236=some K7:=by kernel_rfl
noncomputable def F9:TI:=⟨.func,1,8,[.nilFunc]⟩
theorem HL:aA Tryz.prog 237=some F9:=by kernel_rfl
noncomputable def HZ:TI:=⟨.func,1,8,[.nilFunc]⟩
theorem Ht:aA Tryz.prog 238=some HZ:=by kernel_rfl
noncomputable def FE:TI:=⟨.func,1,8,[.nilFunc]⟩
theorem Gd:aA Tryz.prog 239=some FE:=by kernel_rfl
noncomputable def II:TI:=⟨.func,1,8,[.nilFunc]⟩
theorem IT:aA Tryz.prog 240=some II:=by kernel_rfl
noncomputable def DY:TI:=⟨.func,1,8,[.nilFunc]⟩
theorem Eh:aA Tryz.prog 241=some DY:=by kernel_rfl
noncomputable def Ig:TI:=⟨.ptr 221,1,8,[.pointer none]⟩
theorem FU:aA Tryz.prog 242=some Ig:=by kernel_rfl
noncomputable def Ef:TI:=⟨.func,1,8,[.nilFunc]⟩
theorem Ke:aA Tryz.prog 243=some Ef:=by kernel_rfl
noncomputable def IK:TI:=⟨.func,1,8,[.nilFunc]⟩
theorem Jh:aA Tryz.prog 244=some IK:=by kernel_rfl
noncomputable def FI:TI:=⟨.struct [(0,3),(1,3),(2,3),(3,4)],4,32,[.int .i64 0,.int .i64 0,.int .i64 0,.bool false]⟩
theorem Jf:aA Tryz.prog 245=some FI:=by kernel_rfl
noncomputable def Ib:TI:=⟨.struct [(0,3),(1,3),(2,3),(3,4)],4,32,[.int .i64 0,.int .i64 0,.int .i64 0,.bool false]⟩
theorem CM:aA Tryz.prog 246=some Ib:=by kernel_rfl
noncomputable def GM:TI:=⟨.func,1,8,[.nilFunc]⟩
theorem ID:aA Tryz.prog 247=some GM:=by kernel_rfl
noncomputable def K8:TI:=⟨.func,1,8,[.nilFunc]⟩
theorem Hq:aA Tryz.prog 248=some K8:=by kernel_rfl
noncomputable def Dm:TI:=⟨.func,1,8,[.nilFunc]⟩
theorem DT:aA Tryz.prog 250=some Dm:=by kernel_rfl
noncomputable def Kk:TI:=⟨.func,1,8,[.nilFunc]⟩
theorem E9:aA Tryz.prog 251=some Kk:=by kernel_rfl
noncomputable def Kv:TI:=⟨.func,1,8,[.nilFunc]⟩
theorem Ll:aA Tryz.prog 252=some Kv:=by kernel_rfl
noncomputable def I9:TI:=⟨.func,1,8,[.nilFunc]⟩
theorem G4:aA Tryz.prog 253=some I9:=by kernel_rfl
noncomputable def Gi:TI:=⟨.func,1,8,[.nilFunc]⟩
theorem GH:aA Tryz.prog 254=some Gi:=by kernel_rfl
noncomputable def Iq:TI:=⟨.func,1,8,[.nilFunc]⟩
theorem ET:aA Tryz.prog 255=some Iq:=by kernel_rfl
noncomputable def Lm:TI:=⟨.func,1,8,[.nilFunc]⟩
theorem HH:aA Tryz.prog 256=some Lm:=by kernel_rfl
noncomputable def EI:TI:=⟨.func,1,8,[.nilFunc]⟩
theorem Lc:aA Tryz.prog 257=some EI:=by kernel_rfl
noncomputable def FT:TI:=⟨.func,1,8,[.nilFunc]⟩
theorem Eo:aA Tryz.prog 258=some FT:=by kernel_rfl
noncomputable def Ih:TI:=⟨.func,1,8,[.nilFunc]⟩
theorem Jn:aA Tryz.prog 260=some Ih:=by kernel_rfl
noncomputable def CF:TI:=⟨.struct [(0,17),(1,17),(2,17),(3,9)],4,40,[.pointer none,.pointer none,.pointer none,.string ⟨#[]⟩]⟩
theorem Kw:aA Tryz.prog 261=some CF:=by kernel_rfl
noncomputable def Jq:TI:=⟨.struct [(0,17),(1,17),(2,17),(3,9)],4,40,[.pointer none,.pointer none,.pointer none,.string ⟨#[]⟩]⟩
theorem FN:aA Tryz.prog 262=some Jq:=by kernel_rfl
noncomputable def GG:TI:=⟨.array 0 16,0,0,[]⟩
theorem Hy:aA Tryz.prog 263=some GG:=by kernel_rfl
noncomputable def IB:TI:=⟨.struct [(0,263)],0,0,[]⟩
theorem G_:aA Tryz.prog 264=some IB:=by kernel_rfl
noncomputable def Fq:TI:=⟨.struct [(0,263)],0,0,[]⟩
theorem KV:aA Tryz.prog 265=some Fq:=by kernel_rfl
noncomputable def IH:TI:=⟨.int .u8,1,1,[.int .u8 0]⟩
theorem I8:aA Tryz.prog 266=some IH:=by kernel_rfl
noncomputable def CL:TI:=⟨.int .u8,1,1,[.int .u8 0]⟩
theorem GZ:aA Tryz.prog 267=some CL:=by kernel_rfl
noncomputable def EX:TI:=⟨.func,1,8,[.nilFunc]⟩
theorem Fj:aA Tryz.prog 268=some EX:=by kernel_rfl
noncomputable def KH:TI:=⟨.ptr 5,1,8,[.pointer none]⟩
theorem Hi:aA Tryz.prog 269=some KH:=by kernel_rfl
noncomputable def GE:TI:=⟨.int .i32,1,4,[.int .i32 0]⟩
theorem Ee:aA Tryz.prog 270=some GE:=by kernel_rfl
noncomputable def FB:TI:=⟨.int .i32,1,4,[.int .i32 0]⟩
theorem Is:aA Tryz.prog 271=some FB:=by kernel_rfl
noncomputable def Gv:TI:=⟨.struct [(0,12),(1,12),(2,178),(3,266),(4,5),(5,5),(6,267),(7,268),(8,269),(9,270),(10,271)],11,48,[.int .u64 0,.int .u64 0,.int .u32 0,.int .u8 0,.int .u8 0,.int .u8 0,.int .u8 0,.nilFunc,.pointer none,.int .i32 0,.int .i32 0]⟩
theorem JC:aA Tryz.prog 272=some Gv:=by kernel_rfl
noncomputable def HV:TI:=⟨.struct [(0,12),(1,12),(2,178),(3,266),(4,5),(5,5),(6,267),(7,268),(8,269),(9,270),(10,271)],11,48,[.int .u64 0,.int .u64 0,.int .u32 0,.int .u8 0,.int .u8 0,.int .u8 0,.int .u8 0,.nilFunc,.pointer none,.int .i32 0,.int .i32 0]⟩
theorem GN:aA Tryz.prog 273=some HV:=by kernel_rfl
noncomputable def tiT:Tr TI:=.node none (.node (some ti1) (.node (some ti3) (.node (some ti7) (.node (some PL) (.node (some NH) (.node (some MQ) (.node (some FK) (.node (some Iq) .leaf .leaf) .leaf) (.node (some KJ) .leaf .leaf)) (.node (some QR) (.node (some LE) .leaf .leaf) (.node (some KW) .leaf .leaf))) (.node (some NK) (.node (some QJ) (.node (some GQ) (.node (some FB) .leaf .leaf) .leaf) (.node (some Ko) .leaf .leaf)) (.node (some Hs) (.node (some Fc) .leaf .leaf) (.node (some FE) .leaf .leaf)))) (.node (some OO) (.node (some OY) (.node (some Pz) (.node (some J9) (.node (some GG) .leaf .leaf) .leaf) (.node (some DZ) .leaf .leaf)) (.node (some CE) (.node (some A4) .leaf .leaf) (.node (some Fe) .leaf .leaf))) (.node (some Qa) (.node (some QU) .leaf (.node (some Av) .leaf .leaf)) (.node (some IX) (.node (some Fu) .leaf .leaf) (.node (some GM) .leaf .leaf))))) (.node (some PI) (.node (some Rz) (.node (some RH) (.node (some PC) (.node (some Je) .leaf .leaf) (.node (some Kb) .leaf .leaf)) (.node (some Qd) (.node (some IP) .leaf .leaf) (.node (some I7) .leaf .leaf))) (.node (some QG) (.node (some Rp) (.node (some IG) .leaf .leaf) (.node (some E6) .leaf .leaf)) (.node (some DA) (.node (some Fw) .leaf .leaf) (.node (some Ef) .leaf .leaf)))) (.node (some RP) (.node none (.node (some Rj) (.node (some CQ) (.node (some CL) .leaf .leaf) .leaf) (.node (some Ha) .leaf .leaf)) (.node (some DN) (.node (some I1) .leaf .leaf) (.node (some IC) .leaf .leaf))) (.node (some MH) (.node (some PS) (.node (some DM) .leaf .leaf) (.node (some Hj) .leaf .leaf)) (.node (some Fp) (.node (some GI) .leaf .leaf) (.node (some Kk) .leaf .leaf)))))) (.node (some ti5) (.node (some ti9) (.node (some Pv) (.node (some PR) (.node (some Re) (.node (some Fv) (.node (some EI) .leaf .leaf) .leaf) (.node (some EU) .leaf .leaf)) (.node (some RA) (.node (some Dg) .leaf .leaf) (.node (some JG) .leaf .leaf))) (.node (some M3) (.node (some Rh) (.node (some JQ) (.node (some HV) .leaf .leaf) .leaf) (.node (some Hg) .leaf .leaf)) (.node (some Et) (.node (some HW) .leaf .leaf) (.node (some DY) .leaf .leaf)))) (.node (some Rt) (.node (some NY) (.node (some RG) (.node (some Kr) (.node (some Fq) .leaf .leaf) .leaf) (.node (some KF) .leaf .leaf)) (.node (some KE) (.node (some Dt) .leaf .leaf) (.node (some FO) .leaf .leaf))) (.node (some Rl) (.node (some QS) (.node (some DI) .leaf .leaf) (.node (some Ic) .leaf .leaf)) (.node (some EM) (.node (some IV) .leaf .leaf) .leaf)))) (.node (some Qh) (.node (some Ra) (.node (some OG) (.node (some Qz) (.node (some FY) (.node (some CF) .leaf .leaf) .leaf) .leaf) (.node (some F7) (.node (some Gk) .leaf .leaf) (.node (some JY) .leaf .leaf))) (.node (some MI) (.node (some RE) (.node (some JX) .leaf .leaf) (.node (some KT) .leaf .leaf)) (.node (some DU) (.node (some DE) .leaf .leaf) (.node (some FI) .leaf .leaf)))) (.node (some Pr) (.node (some Nf) (.node (some QF) (.node (some DK) (.node (some KH) .leaf .leaf) .leaf) (.node (some Fd) .leaf .leaf)) (.node (some Du) (.node (some EG) .leaf .leaf) (.node (some F9) .leaf .leaf))) (.node (some M_) (.node (some P9) (.node (some HO) .leaf .leaf) (.node (some Ka) .leaf .leaf)) (.node (some Gp) (.node (some DC) .leaf .leaf) (.node (some I9) .leaf .leaf))))))) (.node (some ti2) (.node (some ti4) (.node (some ti8) (.node (some P7) (.node (some Qk) (.node (some Pw) (.node (some EC) (.node (some Lm) .leaf .leaf) .leaf) (.node (some Jz) .leaf .leaf)) (.node (some QX) (.node (some Jr) .leaf .leaf) (.node (some F8) .leaf .leaf))) (.node (some Qg) (.node none (.node (some DH) (.node (some Gv) .leaf .leaf) .leaf) (.node (some DW) .leaf .leaf)) (.node (some Ln) (.node (some La) .leaf .leaf) (.node (some II) .leaf .leaf)))) (.node (some QN) (.node (some Pp) (.node (some Qy) (.node (some KD) (.node (some IB) .leaf .leaf) .leaf) (.node (some Ed) .leaf .leaf)) (.node (some GS) (.node (some Hr) .leaf .leaf) (.node (some I6) .leaf .leaf))) (.node (some NF) (.node none (.node (some Kz) .leaf .leaf) (.node (some FS) .leaf .leaf)) (.node (some EN) (.node (some GR) .leaf .leaf) (.node (some K8) .leaf .leaf))))) (.node (some RB) (.node none (.node (some Qu) (.node (some Px) (.node (some Hl) (.node (some Ih) .leaf .leaf) .leaf) (.node (some Ez) .leaf .leaf)) (.node (some DO) .leaf (.node (some K3) .leaf .leaf))) (.node (some QM) (.node (some P1) (.node (some Ej) .leaf .leaf) (.node (some Im) .leaf .leaf)) (.node (some GO) (.node (some Gb) .leaf .leaf) (.node (some IK) .leaf .leaf)))) (.node none (.node (some Qq) (.node (some PX) (.node (some GP) (.node (some EX) .leaf .leaf) .leaf) (.node (some GX) .leaf .leaf)) (.node (some Fh) (.node (some Ew) .leaf .leaf) (.node (some K7) .leaf .leaf))) (.node (some PH) (.node (some Rm) (.node (some Kx) .leaf .leaf) (.node (some Fs) .leaf .leaf)) (.node (some CN) (.node (some Lx) .leaf .leaf) (.node (some Kv) .leaf .leaf)))))) (.node (some ti6) (.node (some PN) (.node (some Pn) (.node (some RD) (.node (some PU) (.node (some El) (.node (some FT) .leaf .leaf) .leaf) (.node (some F3) .leaf .leaf)) (.node (some P2) .leaf (.node (some Lj) .leaf .leaf))) (.node (some QC) (.node (some RC) (.node (some C6) .leaf .leaf) (.node (some Kj) .leaf .leaf)) (.node (some Gl) (.node (some Kq) .leaf .leaf) (.node (some Ig) .leaf .leaf)))) (.node (some Rv) (.node (some Q7) (.node (some PD) (.node (some Jc) (.node (some IH) .leaf .leaf) .leaf) (.node (some KZ) .leaf .leaf)) (.node (some GW) (.node (some Gc) .leaf .leaf) (.node (some Ip) .leaf .leaf))) (.node (some N3) (.node (some Rc) (.node (some HJ) .leaf .leaf) (.node (some CY) .leaf .leaf)) (.node (some JL) (.node (some G5) .leaf .leaf) (.node (some Dm) .leaf .leaf))))) (.node (some PT) (.node (some NT) (.node (some Nj) (.node (some Rg) (.node (some FH) (.node (some Jq) .leaf .leaf) .leaf) (.node (some Gm) .leaf .leaf)) (.node (some CU) (.node (some HM) .leaf .leaf) (.node (some LA) .leaf .leaf))) (.node (some ON) (.node (some PE) (.node (some HC) .leaf .leaf) (.node (some Fk) .leaf .leaf)) (.node (some ES) (.node (some D3) .leaf .leaf) (.node (some Ib) .leaf .leaf)))) (.node (some Qr) (.node (some Rd) (.node (some QY) (.node (some Hm) (.node (some GE) .leaf .leaf) .leaf) (.node (some K9) .leaf .leaf)) (.node (some JB) (.node (some Dd) .leaf .leaf) (.node (some HZ) .leaf .leaf))) (.node (some QE) (.node none (.node (some IW) .leaf .leaf) (.node (some Jv) .leaf .leaf)) (.node (some Bl) (.node (some HA) .leaf .leaf) (.node (some Gi) .leaf .leaf)))))))
theorem CP:tiT.toL=[(1,ti1),(3,ti3),(7,ti7),(15,PL),(31,NH),(63,MQ),(127,FK),(255,Iq),(191,KJ),(95,QR),(159,LE),(223,KW),(47,NK),(79,QJ),(143,GQ),(271,FB),(207,Ko),(111,Hs),(175,Fc),(239,FE),(23,OO),(39,OY),(71,Pz),(135,J9),(263,GG),(199,DZ),(103,CE),(167,A4),(231,Fe),(55,Qa),(87,QU),(215,Av),(119,IX),(183,Fu),(247,GM),(11,PI),(19,Rz),(35,RH),(67,PC),(131,Je),(195,Kb),(99,Qd),(163,IP),(227,I7),(51,QG),(83,Rp),(147,IG),(211,E6),(115,DA),(179,Fw),(243,Ef),(27,RP),(75,Rj),(139,CQ),(267,CL),(203,Ha),(107,DN),(171,I1),(235,IC),(59,MH),(91,PS),(155,DM),(219,Hj),(123,Fp),(187,GI),(251,Kk),(5,ti5),(9,ti9),(17,Pv),(33,PR),(65,Re),(129,Fv),(257,EI),(193,EU),(97,RA),(161,Dg),(225,JG),(49,M3),(81,Rh),(145,JQ),(273,HV),(209,Hg),(113,Et),(177,HW),(241,DY),(25,Rt),(41,NY),(73,RG),(137,Kr),(265,Fq),(201,KF),(105,KE),(169,Dt),(233,FO),(57,Rl),(89,QS),(153,DI),(217,Ic),(121,EM),(185,IV),(13,Qh),(21,Ra),(37,OG),(69,Qz),(133,FY),(261,CF),(101,F7),(165,Gk),(229,JY),(53,MI),(85,RE),(149,JX),(213,KT),(117,DU),(181,DE),(245,FI),(29,Pr),(45,Nf),(77,QF),(141,DK),(269,KH),(205,Fd),(109,Du),(173,EG),(237,F9),(61,M_),(93,P9),(157,HO),(221,Ka),(125,Gp),(189,DC),(253,I9),(2,ti2),(4,ti4),(8,ti8),(16,P7),(32,Qk),(64,Pw),(128,EC),(256,Lm),(192,Jz),(96,QX),(160,Jr),(224,F8),(48,Qg),(144,DH),(272,Gv),(208,DW),(112,Ln),(176,La),(240,II),(24,QN),(40,Pp),(72,Qy),(136,KD),(264,IB),(200,Ed),(104,GS),(168,Hr),(232,I6),(56,NF),(152,Kz),(216,FS),(120,EN),(184,GR),(248,K8),(12,RB),(36,Qu),(68,Px),(132,Hl),(260,Ih),(196,Ez),(100,DO),(228,K3),(52,QM),(84,P1),(148,Ej),(212,Im),(116,GO),(180,Gb),(244,IK),(44,Qq),(76,PX),(140,GP),(268,EX),(204,GX),(108,Fh),(172,Ew),(236,K7),(60,PH),(92,Rm),(156,Kx),(220,Fs),(124,CN),(188,Lx),(252,Kv),(6,ti6),(10,PN),(18,Pn),(34,RD),(66,PU),(130,El),(258,FT),(194,F3),(98,P2),(226,Lj),(50,QC),(82,RC),(146,C6),(210,Kj),(114,Gl),(178,Kq),(242,Ig),(26,Rv),(42,Q7),(74,PD),(138,Jc),(266,IH),(202,KZ),(106,GW),(170,Gc),(234,Ip),(58,N3),(90,Rc),(154,HJ),(218,CY),(122,JL),(186,G5),(250,Dm),(14,PT),(22,NT),(38,Nj),(70,Rg),(134,FH),(262,Jq),(198,Gm),(102,CU),(166,HM),(230,LA),(54,ON),(86,PE),(150,HC),(214,Fk),(118,ES),(182,D3),(246,Ib),(30,Qr),(46,Rd),(78,QY),(142,Hm),(270,GE),(206,K9),(110,JB),(174,Dd),(238,HZ),(62,QE),(158,IW),(222,Jv),(126,Bl),(190,HA),(254,Gi)]:=by kernel_rfl
theorem sU:∀ t i,tiT.get t=some i→aA Tryz.prog t=some i:=by
 refine Tr.all_get (p:=fun t i=>aA Tryz.prog t=some i) ?_
 rw [CP]
 exact .cons Qe (.cons Q_ (.cons QD (.cons LX (.cons Nc (.cons MM (.cons GB (.cons ET (.cons Ga (.cons NU (.cons JJ (.cons GL (.cons No (.cons OE (.cons C5 (.cons Is (.cons Lr (.cons FF (.cons KN (.cons Gd (.cons Nh (.cons NJ (.cons OM (.cons D5 (.cons Hy (.cons Li (.cons GD (.cons DL (.cons EK (.cons Oo (.cons Ov (.cons I2 (.cons DF (.cons IY (.cons ID (.cons L7 (.cons NV (.cons M6 (.cons MD (.cons D_ (.cons Kd (.cons Mg (.cons Lz (.cons Dh (.cons LP (.cons LM (.cons Ie (.cons LB (.cons E5 (.cons GT (.cons Ke (.cons OQ (.cons NC (.cons Fl (.cons GZ (.cons IQ (.cons EZ (.cons EF (.cons IA (.cons Ma (.cons MN (.cons HI (.cons CG (.cons Ec (.cons EB (.cons E9 (.cons QT (.cons RK (.cons NP (.cons MT (.cons M2 (.cons G7 (.cons Lc (.cons Ij (.cons MU (.cons KL (.cons If (.cons LV (.cons Mm (.cons Id (.cons GN (.cons Gz (.cons JR (.cons Em (.cons Eh (.cons OD (.cons N5 (.cons Og (.cons LD (.cons KV (.cons CI (.cons C9 (.cons Ds (.cons KX (.cons Om (.cons Ox (.cons Kt (.cons F4 (.cons GA (.cons Lh (.cons NI (.cons LI (.cons Oy (.cons NL (.cons JP (.cons Kw (.cons Hc (.cons He (.cons Hb (.cons Oq (.cons LZ (.cons Lf (.cons Dz (.cons IN (.cons JD (.cons Jf (.cons MZ (.cons LW (.cons N1 (.cons Dr (.cons Hi (.cons Gq (.cons GV (.cons Fx (.cons HL (.cons LO (.cons NM (.cons Ge (.cons CR (.cons Iu (.cons Ld (.cons G4 (.cons QW (.cons Qm (.cons QL (.cons OZ (.cons NS (.cons NG (.cons Gw (.cons HH (.cons Iz (.cons NZ (.cons DS (.cons Lp (.cons Oz (.cons FA (.cons JC (.cons Lg (.cons Eu (.cons Gr (.cons IT (.cons My (.cons Ol (.cons OH (.cons Ik (.cons G_ (.cons D8 (.cons Kf (.cons Ir (.cons IS (.cons L5 (.cons HD (.cons KU (.cons Eb (.cons J8 (.cons Hq (.cons OF (.cons Od (.cons Mj (.cons Fi (.cons Jn (.cons HU (.cons Ly (.cons KS (.cons NN (.cons OP (.cons Kc (.cons JE (.cons Lw (.cons Iw (.cons Jh (.cons Oh (.cons MV (.cons Le (.cons Fj (.cons Dy (.cons HX (.cons ER (.cons JT (.cons L_ (.cons MY (.cons KQ (.cons Ek (.cons K6 (.cons FG (.cons Ll (.cons Py (.cons MS (.cons Np (.cons Nw (.cons OL (.cons Ju (.cons Eo (.cons DX (.cons N8 (.cons Fb (.cons Nz (.cons Mb (.cons HT (.cons D4 (.cons Gu (.cons Gf (.cons FU (.cons O0 (.cons ML (.cons LN (.cons K_ (.cons I8 (.cons Js (.cons E3 (.cons E4 (.cons DD (.cons Nq (.cons Ms (.cons JH (.cons JF (.cons FR (.cons LC (.cons DT (.cons ND (.cons Oe (.cons OX (.cons Mv (.cons EE (.cons FN (.cons IR (.cons CV (.cons FV (.cons Ix (.cons LH (.cons OR (.cons Fm (.cons IM (.cons D6 (.cons Gg (.cons CM (.cons ME (.cons Oj (.cons Ng (.cons Fg (.cons Ee (.cons J_ (.cons Ii (.cons Il (.cons Ht (.cons OK (.cons Ei (.cons Lu (.cons Ho (.cons Dn (.cons GH (.nil)))))))))))))))))))))))))))))))))))))))))))))))))))))))))))))))))))))))))))))))))))))))))))))))))))))))))))))))))))))))))))))))))))))))))))))))))))))))))))))))))))))))))))))))))))))))))))))))))))))))))))))))))))))))))))))))))))))))))))))))))))))))))))))))))))))
noncomputable def fnT:Tr Func:=.node none (.node none (.node (some Tryz.f3) (.node (some Tryz.f7) (.node (some Tryz.f15) (.node (some Tryz.f31) (.node (some Tryz.f63) (.node (some Tryz.f127) .leaf .leaf) (.node (some Tryz.f191) .leaf .leaf)) (.node (some Tryz.f95) (.node (some Tryz.f159) .leaf .leaf) .leaf)) (.node (some Tryz.f47) (.node (some Tryz.f79) (.node (some Tryz.f143) .leaf .leaf) (.node (some Tryz.f207) .leaf .leaf)) (.node (some Tryz.f111) (.node (some Tryz.f175) .leaf .leaf) .leaf))) (.node (some Tryz.f23) (.node (some Tryz.f39) (.node (some Tryz.f71) (.node (some Tryz.f135) .leaf .leaf) (.node (some Tryz.f199) .leaf .leaf)) (.node (some Tryz.f103) (.node (some Tryz.f167) .leaf .leaf) .leaf)) (.node (some Tryz.f55) (.node (some Tryz.f87) (.node (some Tryz.f151) .leaf .leaf) .leaf) (.node (some Tryz.f119) (.node (some Tryz.f183) .leaf .leaf) .leaf)))) (.node (some Tryz.f11) (.node (some Tryz.f19) (.node (some Tryz.f35) (.node (some Tryz.f67) (.node (some Tryz.f131) .leaf .leaf) (.node (some Tryz.f195) .leaf .leaf)) (.node (some Tryz.f99) (.node (some Tryz.f163) .leaf .leaf) .leaf)) (.node (some Tryz.f51) (.node (some Tryz.f83) (.node (some Tryz.f147) .leaf .leaf) .leaf) (.node (some Tryz.f115) (.node (some Tryz.f179) .leaf .leaf) .leaf))) (.node (some Tryz.f27) (.node (some Tryz.f43) (.node (some Tryz.f75) (.node (some Tryz.f139) .leaf .leaf) (.node (some Tryz.f203) .leaf .leaf)) (.node (some Tryz.f107) (.node (some Tryz.f171) .leaf .leaf) .leaf)) (.node (some Tryz.f59) (.node (some Tryz.f91) (.node (some Tryz.f155) .leaf .leaf) .leaf) (.node (some Tryz.f123) (.node (some Tryz.f187) .leaf .leaf) .leaf))))) (.node (some Tryz.f5) (.node (some Tryz.f9) (.node (some Tryz.f17) (.node (some Tryz.f33) (.node (some Tryz.f65) (.node (some Tryz.f129) .leaf .leaf) (.node (some Tryz.f193) .leaf .leaf)) (.node (some Tryz.f97) (.node (some Tryz.f161) .leaf .leaf) .leaf)) (.node (some Tryz.f49) (.node (some Tryz.f81) (.node (some Tryz.f145) .leaf .leaf) (.node (some Tryz.f209) .leaf .leaf)) (.node (some Tryz.f113) (.node (some Tryz.f177) .leaf .leaf) .leaf))) (.node (some Tryz.f25) (.node (some Tryz.f41) (.node (some Tryz.f73) (.node (some Tryz.f137) .leaf .leaf) (.node (some Tryz.f201) .leaf .leaf)) (.node (some Tryz.f105) (.node (some Tryz.f169) .leaf .leaf) .leaf)) (.node (some Tryz.f57) (.node (some Tryz.f89) (.node (some Tryz.f153) .leaf .leaf) .leaf) (.node (some Tryz.f121) (.node (some Tryz.f185) .leaf .leaf) .leaf)))) (.node (some Tryz.f13) (.node (some Tryz.f21) (.node (some Tryz.f37) (.node (some Tryz.f69) (.node (some Tryz.f133) .leaf .leaf) (.node (some Tryz.f197) .leaf .leaf)) (.node (some Tryz.f101) (.node (some Tryz.f165) .leaf .leaf) .leaf)) (.node (some Tryz.f53) (.node (some Tryz.f85) (.node (some Tryz.f149) .leaf .leaf) .leaf) (.node (some Tryz.f117) (.node (some Tryz.f181) .leaf .leaf) .leaf))) (.node (some Tryz.f29) (.node (some Tryz.f45) (.node (some Tryz.f77) (.node (some Tryz.f141) .leaf .leaf) (.node (some Tryz.f205) .leaf .leaf)) (.node (some Tryz.f109) (.node (some Tryz.f173) .leaf .leaf) .leaf)) (.node (some Tryz.f61) (.node (some Tryz.f93) (.node (some Tryz.f157) .leaf .leaf) .leaf) (.node (some Tryz.f125) (.node (some Tryz.f189) .leaf .leaf) .leaf)))))) (.node none (.node (some Tryz.f4) (.node (some Tryz.f8) (.node (some Tryz.f16) (.node (some Tryz.f32) (.node (some Tryz.f64) (.node (some Tryz.f128) .leaf .leaf) (.node (some Tryz.f192) .leaf .leaf)) (.node (some Tryz.f96) (.node (some Tryz.f160) .leaf .leaf) .leaf)) (.node (some Tryz.f48) (.node (some Tryz.f80) (.node (some Tryz.f144) .leaf .leaf) (.node (some Tryz.f208) .leaf .leaf)) (.node (some Tryz.f112) (.node (some Tryz.f176) .leaf .leaf) .leaf))) (.node (some Tryz.f24) (.node (some Tryz.f40) (.node (some Tryz.f72) (.node (some Tryz.f136) .leaf .leaf) (.node (some Tryz.f200) .leaf .leaf)) (.node (some Tryz.f104) (.node (some Tryz.f168) .leaf .leaf) .leaf)) (.node (some Tryz.f56) (.node (some Tryz.f88) (.node (some Tryz.f152) .leaf .leaf) .leaf) (.node (some Tryz.f120) (.node (some Tryz.f184) .leaf .leaf) .leaf)))) (.node (some Tryz.f12) (.node (some Tryz.f20) (.node (some Tryz.f36) (.node (some Tryz.f68) (.node (some Tryz.f132) .leaf .leaf) (.node (some Tryz.f196) .leaf .leaf)) (.node (some Tryz.f100) (.node (some Tryz.f164) .leaf .leaf) .leaf)) (.node (some Tryz.f52) (.node (some Tryz.f84) (.node (some Tryz.f148) .leaf .leaf) .leaf) (.node (some Tryz.f116) (.node (some Tryz.f180) .leaf .leaf) .leaf))) (.node (some Tryz.f28) (.node (some Tryz.f44) (.node (some Tryz.f76) (.node (some Tryz.f140) .leaf .leaf) (.node (some Tryz.f204) .leaf .leaf)) (.node (some Tryz.f108) (.node (some Tryz.f172) .leaf .leaf) .leaf)) (.node (some Tryz.f60) (.node (some Tryz.f92) (.node (some Tryz.f156) .leaf .leaf) .leaf) (.node (some Tryz.f124) (.node (some Tryz.f188) .leaf .leaf) .leaf))))) (.node (some Tryz.f6) (.node (some Tryz.f10) (.node (some Tryz.f18) (.node (some Tryz.f34) (.node (some Tryz.f66) (.node (some Tryz.f130) .leaf .leaf) (.node (some Tryz.f194) .leaf .leaf)) (.node (some Tryz.f98) (.node (some Tryz.f162) .leaf .leaf) .leaf)) (.node (some Tryz.f50) (.node (some Tryz.f82) (.node (some Tryz.f146) .leaf .leaf) .leaf) (.node (some Tryz.f114) (.node (some Tryz.f178) .leaf .leaf) .leaf))) (.node (some Tryz.f26) (.node (some Tryz.f42) (.node (some Tryz.f74) (.node (some Tryz.f138) .leaf .leaf) (.node (some Tryz.f202) .leaf .leaf)) (.node (some Tryz.f106) (.node (some Tryz.f170) .leaf .leaf) .leaf)) (.node (some Tryz.f58) (.node (some Tryz.f90) (.node (some Tryz.f154) .leaf .leaf) .leaf) (.node (some Tryz.f122) (.node (some Tryz.f186) .leaf .leaf) .leaf)))) (.node (some Tryz.f14) (.node (some Tryz.f22) (.node (some Tryz.f38) (.node (some Tryz.f70) (.node (some Tryz.f134) .leaf .leaf) (.node (some Tryz.f198) .leaf .leaf)) (.node (some Tryz.f102) (.node (some Tryz.f166) .leaf .leaf) .leaf)) (.node (some Tryz.f54) (.node (some Tryz.f86) (.node (some Tryz.f150) .leaf .leaf) .leaf) (.node (some Tryz.f118) (.node (some Tryz.f182) .leaf .leaf) .leaf))) (.node (some Tryz.f30) (.node (some Tryz.f46) (.node (some Tryz.f78) (.node (some Tryz.f142) .leaf .leaf) (.node (some Tryz.f206) .leaf .leaf)) (.node (some Tryz.f110) (.node (some Tryz.f174) .leaf .leaf) .leaf)) (.node (some Tryz.f62) (.node (some Tryz.f94) (.node (some Tryz.f158) .leaf .leaf) .leaf) (.node (some Tryz.f126) (.node (some Tryz.f190) .leaf .leaf) .leaf))))))
theorem Er:fnT.toL=[(3,Tryz.f3),(7,Tryz.f7),(15,Tryz.f15),(31,Tryz.f31),(63,Tryz.f63),(127,Tryz.f127),(191,Tryz.f191),(95,Tryz.f95),(159,Tryz.f159),(47,Tryz.f47),(79,Tryz.f79),(143,Tryz.f143),(207,Tryz.f207),(111,Tryz.f111),(175,Tryz.f175),(23,Tryz.f23),(39,Tryz.f39),(71,Tryz.f71),(135,Tryz.f135),(199,Tryz.f199),(103,Tryz.f103),(167,Tryz.f167),(55,Tryz.f55),(87,Tryz.f87),(151,Tryz.f151),(119,Tryz.f119),(183,Tryz.f183),(11,Tryz.f11),(19,Tryz.f19),(35,Tryz.f35),(67,Tryz.f67),(131,Tryz.f131),(195,Tryz.f195),(99,Tryz.f99),(163,Tryz.f163),(51,Tryz.f51),(83,Tryz.f83),(147,Tryz.f147),(115,Tryz.f115),(179,Tryz.f179),(27,Tryz.f27),(43,Tryz.f43),(75,Tryz.f75),(139,Tryz.f139),(203,Tryz.f203),(107,Tryz.f107),(171,Tryz.f171),(59,Tryz.f59),(91,Tryz.f91),(155,Tryz.f155),(123,Tryz.f123),(187,Tryz.f187),(5,Tryz.f5),(9,Tryz.f9),(17,Tryz.f17),(33,Tryz.f33),(65,Tryz.f65),(129,Tryz.f129),(193,Tryz.f193),(97,Tryz.f97),(161,Tryz.f161),(49,Tryz.f49),(81,Tryz.f81),(145,Tryz.f145),(209,Tryz.f209),(113,Tryz.f113),(177,Tryz.f177),(25,Tryz.f25),(41,Tryz.f41),(73,Tryz.f73),(137,Tryz.f137),(201,Tryz.f201),(105,Tryz.f105),(169,Tryz.f169),(57,Tryz.f57),(89,Tryz.f89),(153,Tryz.f153),(121,Tryz.f121),(185,Tryz.f185),(13,Tryz.f13),(21,Tryz.f21),(37,Tryz.f37),(69,Tryz.f69),(133,Tryz.f133),(197,Tryz.f197),(101,Tryz.f101),(165,Tryz.f165),(53,Tryz.f53),(85,Tryz.f85),(149,Tryz.f149),(117,Tryz.f117),(181,Tryz.f181),(29,Tryz.f29),(45,Tryz.f45),(77,Tryz.f77),(141,Tryz.f141),(205,Tryz.f205),(109,Tryz.f109),(173,Tryz.f173),(61,Tryz.f61),(93,Tryz.f93),(157,Tryz.f157),(125,Tryz.f125),(189,Tryz.f189),(4,Tryz.f4),(8,Tryz.f8),(16,Tryz.f16),(32,Tryz.f32),(64,Tryz.f64),(128,Tryz.f128),(192,Tryz.f192),(96,Tryz.f96),(160,Tryz.f160),(48,Tryz.f48),(80,Tryz.f80),(144,Tryz.f144),(208,Tryz.f208),(112,Tryz.f112),(176,Tryz.f176),(24,Tryz.f24),(40,Tryz.f40),(72,Tryz.f72),(136,Tryz.f136),(200,Tryz.f200),(104,Tryz.f104),(168,Tryz.f168),(56,Tryz.f56),(88,Tryz.f88),(152,Tryz.f152),(120,Tryz.f120),(184,Tryz.f184),(12,Tryz.f12),(20,Tryz.f20),(36,Tryz.f36),(68,Tryz.f68),(132,Tryz.f132),(196,Tryz.f196),(100,Tryz.f100),(164,Tryz.f164),(52,Tryz.f52),(84,Tryz.f84),(148,Tryz.f148),(116,Tryz.f116),(180,Tryz.f180),(28,Tryz.f28),(44,Tryz.f44),(76,Tryz.f76),(140,Tryz.f140),(204,Tryz.f204),(108,Tryz.f108),(172,Tryz.f172),(60,Tryz.f60),(92,Tryz.f92),(156,Tryz.f156),(124,Tryz.f124),(188,Tryz.f188),(6,Tryz.f6),(10,Tryz.f10),(18,Tryz.f18),(34,Tryz.f34),(66,Tryz.f66),(130,Tryz.f130),(194,Tryz.f194),(98,Tryz.f98),(162,Tryz.f162),(50,Tryz.f50),(82,Tryz.f82),(146,Tryz.f146),(114,Tryz.f114),(178,Tryz.f178),(26,Tryz.f26),(42,Tryz.f42),(74,Tryz.f74),(138,Tryz.f138),(202,Tryz.f202),(106,Tryz.f106),(170,Tryz.f170),(58,Tryz.f58),(90,Tryz.f90),(154,Tryz.f154),(122,Tryz.f122),(186,Tryz.f186),(14,Tryz.f14),(22,Tryz.f22),(38,Tryz.f38),(70,Tryz.f70),(134,Tryz.f134),(198,Tryz.f198),(102,Tryz.f102),(166,Tryz.f166),(54,Tryz.f54),(86,Tryz.f86),(150,Tryz.f150),(118,Tryz.f118),(182,Tryz.f182),(30,Tryz.f30),(46,Tryz.f46),(78,Tryz.f78),(142,Tryz.f142),(206,Tryz.f206),(110,Tryz.f110),(174,Tryz.f174),(62,Tryz.f62),(94,Tryz.f94),(158,Tryz.f158),(126,Tryz.f126),(190,Tryz.f190)]:=by kernel_rfl
def fnP (k : Nat) (f : Func) : Prop := Tryz.prog.funcs[k]? = some f ∧ (f.name == "runtime.NumGoroutine") = false
theorem vL : ∀ k f, fnT.get k = some f → Tryz.prog.funcs[k]? = some f ∧ (f.name == "runtime.NumGoroutine") = false := by
 refine Tr.all_get (p:=fnP) ?_
 rw [Er]
 exact .cons ⟨Tryz.func3,by kernel_rfl⟩ (.cons ⟨Tryz.func7,by kernel_rfl⟩ (.cons ⟨Tryz.func15,by kernel_rfl⟩ (.cons ⟨Tryz.func31,by kernel_rfl⟩ (.cons ⟨Tryz.func63,by kernel_rfl⟩ (.cons ⟨Tryz.func127,by kernel_rfl⟩ (.cons ⟨Tryz.func191,by kernel_rfl⟩ (.cons ⟨Tryz.func95,by kernel_rfl⟩ (.cons ⟨Tryz.func159,by kernel_rfl⟩ (.cons ⟨Tryz.func47,by kernel_rfl⟩ (.cons ⟨Tryz.func79,by kernel_rfl⟩ (.cons ⟨Tryz.func143,by kernel_rfl⟩ (.cons ⟨Tryz.func207,by kernel_rfl⟩ (.cons ⟨Tryz.func111,by kernel_rfl⟩ (.cons ⟨Tryz.func175,by kernel_rfl⟩ (.cons ⟨Tryz.func23,by kernel_rfl⟩ (.cons ⟨Tryz.func39,by kernel_rfl⟩ (.cons ⟨Tryz.func71,by kernel_rfl⟩ (.cons ⟨Tryz.func135,by kernel_rfl⟩ (.cons ⟨Tryz.func199,by kernel_rfl⟩ (.cons ⟨Tryz.func103,by kernel_rfl⟩ (.cons ⟨Tryz.func167,by kernel_rfl⟩ (.cons ⟨Tryz.func55,by kernel_rfl⟩ (.cons ⟨Tryz.func87,by kernel_rfl⟩ (.cons ⟨Tryz.func151,by kernel_rfl⟩ (.cons ⟨Tryz.func119,by kernel_rfl⟩ (.cons ⟨Tryz.func183,by kernel_rfl⟩ (.cons ⟨Tryz.func11,by kernel_rfl⟩ (.cons ⟨Tryz.func19,by kernel_rfl⟩ (.cons ⟨Tryz.func35,by kernel_rfl⟩ (.cons ⟨Tryz.func67,by kernel_rfl⟩ (.cons ⟨Tryz.func131,by kernel_rfl⟩ (.cons ⟨Tryz.func195,by kernel_rfl⟩ (.cons ⟨Tryz.func99,by kernel_rfl⟩ (.cons ⟨Tryz.func163,by kernel_rfl⟩ (.cons ⟨Tryz.func51,by kernel_rfl⟩ (.cons ⟨Tryz.func83,by kernel_rfl⟩ (.cons ⟨Tryz.func147,by kernel_rfl⟩ (.cons ⟨Tryz.func115,by kernel_rfl⟩ (.cons ⟨Tryz.func179,by kernel_rfl⟩ (.cons ⟨Tryz.func27,by kernel_rfl⟩ (.cons ⟨Tryz.func43,by kernel_rfl⟩ (.cons ⟨Tryz.func75,by kernel_rfl⟩ (.cons ⟨Tryz.func139,by kernel_rfl⟩ (.cons ⟨Tryz.func203,by kernel_rfl⟩ (.cons ⟨Tryz.func107,by kernel_rfl⟩ (.cons ⟨Tryz.func171,by kernel_rfl⟩ (.cons ⟨Tryz.func59,by kernel_rfl⟩ (.cons ⟨Tryz.func91,by kernel_rfl⟩ (.cons ⟨Tryz.func155,by kernel_rfl⟩ (.cons ⟨Tryz.func123,by kernel_rfl⟩ (.cons ⟨Tryz.func187,by kernel_rfl⟩ (.cons ⟨Tryz.func5,by kernel_rfl⟩ (.cons ⟨Tryz.func9,by kernel_rfl⟩ (.cons ⟨Tryz.func17,by kernel_rfl⟩ (.cons ⟨Tryz.func33,by kernel_rfl⟩ (.cons ⟨Tryz.func65,by kernel_rfl⟩ (.cons ⟨Tryz.func129,by kernel_rfl⟩ (.cons ⟨Tryz.func193,by kernel_rfl⟩ (.cons ⟨Tryz.func97,by kernel_rfl⟩ (.cons ⟨Tryz.func161,by kernel_rfl⟩ (.cons ⟨Tryz.func49,by kernel_rfl⟩ (.cons ⟨Tryz.func81,by kernel_rfl⟩ (.cons ⟨Tryz.func145,by kernel_rfl⟩ (.cons ⟨Tryz.func209,by kernel_rfl⟩ (.cons ⟨Tryz.func113,by kernel_rfl⟩ (.cons ⟨Tryz.func177,by kernel_rfl⟩ (.cons ⟨Tryz.func25,by kernel_rfl⟩ (.cons ⟨Tryz.func41,by kernel_rfl⟩ (.cons ⟨Tryz.func73,by kernel_rfl⟩ (.cons ⟨Tryz.func137,by kernel_rfl⟩ (.cons ⟨Tryz.func201,by kernel_rfl⟩ (.cons ⟨Tryz.func105,by kernel_rfl⟩ (.cons ⟨Tryz.func169,by kernel_rfl⟩ (.cons ⟨Tryz.func57,by kernel_rfl⟩ (.cons ⟨Tryz.func89,by kernel_rfl⟩ (.cons ⟨Tryz.func153,by kernel_rfl⟩ (.cons ⟨Tryz.func121,by kernel_rfl⟩ (.cons ⟨Tryz.func185,by kernel_rfl⟩ (.cons ⟨Tryz.func13,by kernel_rfl⟩ (.cons ⟨Tryz.func21,by kernel_rfl⟩ (.cons ⟨Tryz.func37,by kernel_rfl⟩ (.cons ⟨Tryz.func69,by kernel_rfl⟩ (.cons ⟨Tryz.func133,by kernel_rfl⟩ (.cons ⟨Tryz.func197,by kernel_rfl⟩ (.cons ⟨Tryz.func101,by kernel_rfl⟩ (.cons ⟨Tryz.func165,by kernel_rfl⟩ (.cons ⟨Tryz.func53,by kernel_rfl⟩ (.cons ⟨Tryz.func85,by kernel_rfl⟩ (.cons ⟨Tryz.func149,by kernel_rfl⟩ (.cons ⟨Tryz.func117,by kernel_rfl⟩ (.cons ⟨Tryz.func181,by kernel_rfl⟩ (.cons ⟨Tryz.func29,by kernel_rfl⟩ (.cons ⟨Tryz.func45,by kernel_rfl⟩ (.cons ⟨Tryz.func77,by kernel_rfl⟩ (.cons ⟨Tryz.func141,by kernel_rfl⟩ (.cons ⟨Tryz.func205,by kernel_rfl⟩ (.cons ⟨Tryz.func109,by kernel_rfl⟩ (.cons ⟨Tryz.func173,by kernel_rfl⟩ (.cons ⟨Tryz.func61,by kernel_rfl⟩ (.cons ⟨Tryz.func93,by kernel_rfl⟩ (.cons ⟨Tryz.func157,by kernel_rfl⟩ (.cons ⟨Tryz.func125,by kernel_rfl⟩ (.cons ⟨Tryz.func189,by kernel_rfl⟩ (.cons ⟨Tryz.func4,by kernel_rfl⟩ (.cons ⟨Tryz.func8,by kernel_rfl⟩ (.cons ⟨Tryz.func16,by kernel_rfl⟩ (.cons ⟨Tryz.func32,by kernel_rfl⟩ (.cons ⟨Tryz.func64,by kernel_rfl⟩ (.cons ⟨Tryz.func128,by kernel_rfl⟩ (.cons ⟨Tryz.func192,by kernel_rfl⟩ (.cons ⟨Tryz.func96,by kernel_rfl⟩ (.cons ⟨Tryz.func160,by kernel_rfl⟩ (.cons ⟨Tryz.func48,by kernel_rfl⟩ (.cons ⟨Tryz.func80,by kernel_rfl⟩ (.cons ⟨Tryz.func144,by kernel_rfl⟩ (.cons ⟨Tryz.func208,by kernel_rfl⟩ (.cons ⟨Tryz.func112,by kernel_rfl⟩ (.cons ⟨Tryz.func176,by kernel_rfl⟩ (.cons ⟨Tryz.func24,by kernel_rfl⟩ (.cons ⟨Tryz.func40,by kernel_rfl⟩ (.cons ⟨Tryz.func72,by kernel_rfl⟩ (.cons ⟨Tryz.func136,by kernel_rfl⟩ (.cons ⟨Tryz.func200,by kernel_rfl⟩ (.cons ⟨Tryz.func104,by kernel_rfl⟩ (.cons ⟨Tryz.func168,by kernel_rfl⟩ (.cons ⟨Tryz.func56,by kernel_rfl⟩ (.cons ⟨Tryz.func88,by kernel_rfl⟩ (.cons ⟨Tryz.func152,by kernel_rfl⟩ (.cons ⟨Tryz.func120,by kernel_rfl⟩ (.cons ⟨Tryz.func184,by kernel_rfl⟩ (.cons ⟨Tryz.func12,by kernel_rfl⟩ (.cons ⟨Tryz.func20,by kernel_rfl⟩ (.cons ⟨Tryz.func36,by kernel_rfl⟩ (.cons ⟨Tryz.func68,by kernel_rfl⟩ (.cons ⟨Tryz.func132,by kernel_rfl⟩ (.cons ⟨Tryz.func196,by kernel_rfl⟩ (.cons ⟨Tryz.func100,by kernel_rfl⟩ (.cons ⟨Tryz.func164,by kernel_rfl⟩ (.cons ⟨Tryz.func52,by kernel_rfl⟩ (.cons ⟨Tryz.func84,by kernel_rfl⟩ (.cons ⟨Tryz.func148,by kernel_rfl⟩ (.cons ⟨Tryz.func116,by kernel_rfl⟩ (.cons ⟨Tryz.func180,by kernel_rfl⟩ (.cons ⟨Tryz.func28,by kernel_rfl⟩ (.cons ⟨Tryz.func44,by kernel_rfl⟩ (.cons ⟨Tryz.func76,by kernel_rfl⟩ (.cons ⟨Tryz.func140,by kernel_rfl⟩ (.cons ⟨Tryz.func204,by kernel_rfl⟩ (.cons ⟨Tryz.func108,by kernel_rfl⟩ (.cons ⟨Tryz.func172,by kernel_rfl⟩ (.cons ⟨Tryz.func60,by kernel_rfl⟩ (.cons ⟨Tryz.func92,by kernel_rfl⟩ (.cons ⟨Tryz.func156,by kernel_rfl⟩ (.cons ⟨Tryz.func124,by kernel_rfl⟩ (.cons ⟨Tryz.func188,by kernel_rfl⟩ (.cons ⟨Tryz.func6,by kernel_rfl⟩ (.cons ⟨Tryz.func10,by kernel_rfl⟩ (.cons ⟨Tryz.func18,by kernel_rfl⟩ (.cons ⟨Tryz.func34,by kernel_rfl⟩ (.cons ⟨Tryz.func66,by kernel_rfl⟩ (.cons ⟨Tryz.func130,by kernel_rfl⟩ (.cons ⟨Tryz.func194,by kernel_rfl⟩ (.cons ⟨Tryz.func98,by kernel_rfl⟩ (.cons ⟨Tryz.func162,by kernel_rfl⟩ (.cons ⟨Tryz.func50,by kernel_rfl⟩ (.cons ⟨Tryz.func82,by kernel_rfl⟩ (.cons ⟨Tryz.func146,by kernel_rfl⟩ (.cons ⟨Tryz.func114,by kernel_rfl⟩ (.cons ⟨Tryz.func178,by kernel_rfl⟩ (.cons ⟨Tryz.func26,by kernel_rfl⟩ (.cons ⟨Tryz.func42,by kernel_rfl⟩ (.cons ⟨Tryz.func74,by kernel_rfl⟩ (.cons ⟨Tryz.func138,by kernel_rfl⟩ (.cons ⟨Tryz.func202,by kernel_rfl⟩ (.cons ⟨Tryz.func106,by kernel_rfl⟩ (.cons ⟨Tryz.func170,by kernel_rfl⟩ (.cons ⟨Tryz.func58,by kernel_rfl⟩ (.cons ⟨Tryz.func90,by kernel_rfl⟩ (.cons ⟨Tryz.func154,by kernel_rfl⟩ (.cons ⟨Tryz.func122,by kernel_rfl⟩ (.cons ⟨Tryz.func186,by kernel_rfl⟩ (.cons ⟨Tryz.func14,by kernel_rfl⟩ (.cons ⟨Tryz.func22,by kernel_rfl⟩ (.cons ⟨Tryz.func38,by kernel_rfl⟩ (.cons ⟨Tryz.func70,by kernel_rfl⟩ (.cons ⟨Tryz.func134,by kernel_rfl⟩ (.cons ⟨Tryz.func198,by kernel_rfl⟩ (.cons ⟨Tryz.func102,by kernel_rfl⟩ (.cons ⟨Tryz.func166,by kernel_rfl⟩ (.cons ⟨Tryz.func54,by kernel_rfl⟩ (.cons ⟨Tryz.func86,by kernel_rfl⟩ (.cons ⟨Tryz.func150,by kernel_rfl⟩ (.cons ⟨Tryz.func118,by kernel_rfl⟩ (.cons ⟨Tryz.func182,by kernel_rfl⟩ (.cons ⟨Tryz.func30,by kernel_rfl⟩ (.cons ⟨Tryz.func46,by kernel_rfl⟩ (.cons ⟨Tryz.func78,by kernel_rfl⟩ (.cons ⟨Tryz.func142,by kernel_rfl⟩ (.cons ⟨Tryz.func206,by kernel_rfl⟩ (.cons ⟨Tryz.func110,by kernel_rfl⟩ (.cons ⟨Tryz.func174,by kernel_rfl⟩ (.cons ⟨Tryz.func62,by kernel_rfl⟩ (.cons ⟨Tryz.func94,by kernel_rfl⟩ (.cons ⟨Tryz.func158,by kernel_rfl⟩ (.cons ⟨Tryz.func126,by kernel_rfl⟩ (.cons ⟨Tryz.func190,by kernel_rfl⟩ (.nil)))))))))))))))))))))))))))))))))))))))))))))))))))))))))))))))))))))))))))))))))))))))))))))))))))))))))))))))))))))))))))))))))))))))))))))))))))))))))))))))))))))))))))))))))))))))))))))))))))))))))))))))
noncomputable def ky7:List KK:=[.int .i64,.int .i64,.bool,.int .u8]
theorem Rb:dT Tryz.prog 7=some ky7:=by kernel_rfl
noncomputable def ky8:List KK:=[.int .i64,.int .i64,.bool,.int .u8]
theorem PF:dT Tryz.prog 8=some ky8:=by kernel_rfl
noncomputable def Pu:List KK:=[.int .i64,.int .i64]
theorem OJ:dT Tryz.prog 30=some Pu:=by kernel_rfl
noncomputable def P3:List KK:=[.int .i64,.int .i64]
theorem Md:dT Tryz.prog 31=some P3:=by kernel_rfl
noncomputable def P0:List KK:=[.int .i64,.int .i64,.int .i64,.int .i64,.int .i64,.int .i64,.int .i64,.int .i64,.int .i64,.int .i64,.int .i64,.int .i64,.int .i64,.int .i64,.int .i64,.int .i64]
theorem Mw:dT Tryz.prog 32=some P0:=by kernel_rfl
noncomputable def P8:List KK:=[.int .i64,.int .i64,.int .i64,.bool]
theorem Mt:dT Tryz.prog 36=some P8:=by kernel_rfl
noncomputable def RJ:List KK:=[.int .i64,.int .i64,.int .i64,.bool]
theorem MF:dT Tryz.prog 37=some RJ:=by kernel_rfl
noncomputable def PO:List KK:=[.int .i64,.int .i64,.int .i64,.int .i64,.int .i64,.int .i64,.int .i64,.int .i64]
theorem NX:dT Tryz.prog 86=some PO:=by kernel_rfl
noncomputable def RF:List KK:=[.bool,.bool,.bool,.bool,.bool,.bool,.bool,.bool]
theorem Me:dT Tryz.prog 87=some RF:=by kernel_rfl
noncomputable def Di:List KK:=[.int .i64,.string]
theorem CH:dT Tryz.prog 106=some Di:=by kernel_rfl
noncomputable def KR:List KK:=[.int .i64,.string]
theorem KO:dT Tryz.prog 107=some KR:=by kernel_rfl
noncomputable def CK:List KK:=[.string,.string]
theorem K5:dT Tryz.prog 125=some CK:=by kernel_rfl
noncomputable def Lv:List KK:=[.string,.string]
theorem C8:dT Tryz.prog 126=some Lv:=by kernel_rfl
noncomputable def C_:List KK:=[.int .i64,.int .i64,.int .i64,.bool,.int .i64]
theorem Dk:dT Tryz.prog 128=some C_:=by kernel_rfl
noncomputable def GF:List KK:=[.int .i64,.int .i64,.int .i64,.bool,.int .i64]
theorem Df:dT Tryz.prog 129=some GF:=by kernel_rfl
noncomputable def Da:List KK:=[.int .i64,.int .i64,.int .i64,.bool,.int .i64,.int .i64,.int .i64,.int .i64,.bool,.int .i64,.int .i64,.int .i64,.int .i64,.bool,.int .i64,.int .i64,.int .i64,.int .i64,.bool,.int .i64,.int .i64,.int .i64,.int .i64,.bool,.int .i64,.int .i64,.int .i64,.int .i64,.bool,.int .i64,.int .i64,.int .i64,.int .i64,.bool,.int .i64,.int .i64,.int .i64,.int .i64,.bool,.int .i64]
theorem GJ:dT Tryz.prog 130=some Da:=by kernel_rfl
noncomputable def DB:List KK:=[.int .i64,.string,.int .i64,.bool,.int .i64]
theorem I_:dT Tryz.prog 144=some DB:=by kernel_rfl
noncomputable def DP:List KK:=[.int .i64,.string,.int .i64,.bool,.int .i64]
theorem GK:dT Tryz.prog 145=some DP:=by kernel_rfl
noncomputable def Ls:List KK:=[.int .i64,.int .i64,.int .i64]
theorem FZ:dT Tryz.prog 192=some Ls:=by kernel_rfl
noncomputable def F_:List KK:=[.int .i64,.int .i64,.int .i64]
theorem G9:dT Tryz.prog 212=some F_:=by kernel_rfl
noncomputable def I0:List KK:=[.string,.int .i64,.string]
theorem Fa:dT Tryz.prog 214=some I0:=by kernel_rfl
noncomputable def Dw:List KK:=[.string,.int .i64,.string]
theorem DQ:dT Tryz.prog 215=some Dw:=by kernel_rfl
noncomputable def Jj:List KK:=[.int .i64,.int .i64,.int .i64,.bool]
theorem Gn:dT Tryz.prog 245=some Jj:=by kernel_rfl
noncomputable def Iy:List KK:=[.int .i64,.int .i64,.int .i64,.bool]
theorem Lb:dT Tryz.prog 246=some Iy:=by kernel_rfl
noncomputable def kyT:Tr (List KK):=.node none (.node none (.node none (.node (some ky7) (.node none (.node (some P3) .leaf .leaf) .leaf) (.node none .leaf (.node none (.node (some RF) .leaf (.node (some Dw) .leaf .leaf)) .leaf))) (.node none .leaf (.node none (.node none .leaf (.node (some KR) .leaf .leaf)) .leaf))) (.node none (.node none (.node none (.node none (.node none (.node (some GF) .leaf .leaf) .leaf) .leaf) (.node none (.node none (.node (some DP) .leaf .leaf) .leaf) .leaf)) .leaf) (.node none (.node none (.node (some RJ) .leaf .leaf) (.node none .leaf (.node none .leaf (.node (some Jj) .leaf .leaf)))) (.node none .leaf (.node none .leaf (.node (some CK) .leaf .leaf)))))) (.node none (.node none (.node (some ky8) (.node none (.node (some P0) (.node none (.node (some C_) .leaf .leaf) (.node (some Ls) .leaf .leaf)) .leaf) (.node none (.node none (.node (some DB) .leaf .leaf) .leaf) .leaf)) .leaf) (.node none (.node none (.node (some P8) .leaf .leaf) (.node none (.node none .leaf (.node (some F_) .leaf .leaf)) .leaf)) .leaf)) (.node none (.node none (.node none (.node none (.node none (.node (some Da) .leaf .leaf) .leaf) .leaf) .leaf) (.node none (.node none .leaf (.node (some Di) .leaf .leaf)) .leaf)) (.node none (.node none .leaf (.node none (.node (some PO) .leaf (.node (some I0) .leaf .leaf)) (.node none .leaf (.node (some Iy) .leaf .leaf)))) (.node (some Pu) .leaf (.node none .leaf (.node (some Lv) .leaf .leaf))))))
theorem IU:kyT.toL=[(7,ky7),(31,P3),(87,RF),(215,Dw),(107,KR),(129,GF),(145,DP),(37,RJ),(245,Jj),(125,CK),(8,ky8),(32,P0),(128,C_),(192,Ls),(144,DB),(36,P8),(212,F_),(130,Da),(106,Di),(86,PO),(214,I0),(246,Iy),(30,Pu),(126,Lv)]:=by kernel_rfl
theorem Rx:∀ t ks,kyT.get t=some ks→sW Tryz.prog t ks:=by
 refine Tr.all_get (p:=fun t ks=>sW Tryz.prog t ks) ?_
 rw [IU]
 exact .cons (cq Rb) (.cons (cq Md) (.cons (cq Me) (.cons (cq DQ) (.cons (cq KO) (.cons (cq Df) (.cons (cq GK) (.cons (cq MF) (.cons (cq Gn) (.cons (cq K5) (.cons (cq PF) (.cons (cq Mw) (.cons (cq Dk) (.cons (cq FZ) (.cons (cq I_) (.cons (cq Mt) (.cons (cq G9) (.cons (cq GJ) (.cons (cq CH) (.cons (cq NX) (.cons (cq Fa) (.cons (cq Lb) (.cons (cq OJ) (.cons (cq C8) (.nil))))))))))))))))))))))))
noncomputable def CX (σ:Sig) (kn:List (cK × Bool)) (hkn:uv σ kn):Ctx Tryz.prog:=⟨tiT.get,sU,kyT.get,Rx,σ,kn,hkn⟩
theorem mixed:Tryz.prog.follows .mixedOrders=true:=by kernel_rfl
noncomputable abbrev CZ (σ:Sig):Ctx Tryz.prog:=CX σ [] B7
def jr (j:Nat→AV):Nat→Nat→List AV
  | _,0=>[]
  | a,n+1=>j a::jr j (a+1) n
noncomputable abbrev fQ (f:Func) (σ:Sig) (K:AV→Hp→Prop):=fnQ (CZ σ).ti f.results.toList K
theorem gwp {σ:Sig} (g:Nat) {f:Nat} {fn:Func} {c:Code} {xs:List AV} {H:Hp} {K:AV→Hp→Prop} (hf:fnT.get f=some fn) (hb:fn.body=some c) (h:wp (CZ σ) g c (xs++List.replicate (fn.ntmps - xs.length) (.lit undef)) H (fnQ (CZ σ).ti fn.results.toList K)):∃ r H',au Tryz.prog σ f xs H r H'∧K r H' :=
  yY (CZ σ) mixed g (vL f fn hf).1 hb (vL f fn hf).2 h
theorem lrd {σ:Sig} {g:Nat} {c:Code} {T:List AV} {H:Hp} {Q:Exit→List AV→Hp→Prop} (h:wp (CZ σ) g c T H (nx Q fun T1 H1=>∀ js,aN (CZ σ) c (cv g js 0 T1) H1 Q)):aN (CZ σ) c T H Q :=
  aN.round (CZ σ) mixed h
end Go.Proofs.YthdcghnjndhecaaGreat.Ev
namespace Go.Proofs.YthdcghnjndhecaaGreat.Ev
set_option maxRecDepth 100000
set_option maxHeartbeats 4000000
abbrev fq:Nat:=8
abbrev jJ:Nat:=9
abbrev g_:Nat:=10
abbrev jc:Nat:=11
abbrev gw:Nat:=12
abbrev fu:Nat:=13
abbrev kC:Nat:=14
abbrev kB:Nat:=17
abbrev d_:Nat:=18
abbrev cB:Nat:=19
abbrev kJ:Nat:=20
abbrev gU:Nat:=21
abbrev gM:Nat:=22
abbrev iQ:Nat:=23
abbrev jd:Nat:=24
abbrev nf:Nat:=25
abbrev iD:Nat:=26
abbrev eX:Nat:=27
abbrev dR:Nat:=28
abbrev fi:Nat:=29
abbrev gX:Nat:=30
abbrev jb:Nat:=31
abbrev mE:Nat:=32
abbrev pa:Nat:=33
abbrev oz:Nat:=34
abbrev eW:Nat:=35
abbrev cL:Nat:=36
abbrev lJ:Nat:=37
abbrev ia:Nat:=38
abbrev dc:Nat:=39
abbrev cY:Nat:=40
abbrev eP:Nat:=41
abbrev gY:Nat:=42
abbrev io:Nat:=43
abbrev fV:Nat:=44
abbrev eD:Nat:=45
abbrev fZ:Nat:=46
abbrev qp:Nat:=47
abbrev nY:Nat:=48
abbrev m7:Nat:=49
abbrev er:Nat:=50
abbrev gF:Nat:=51
abbrev dv:Nat:=52
abbrev eo:Nat:=53
abbrev kw:Nat:=54
abbrev jN:Nat:=55
abbrev iq:Nat:=56
abbrev gO:Nat:=69
abbrev dP:Nat:=70
abbrev gK:Nat:=71
abbrev gT:Nat:=72
abbrev gZ:Nat:=73
abbrev dW:Nat:=74
abbrev eS:Nat:=75
abbrev dJ:Nat:=76
abbrev iU:Nat:=77
abbrev dN:Nat:=78
abbrev iP:Nat:=85
abbrev hY:Nat:=86
abbrev nj:Nat:=87
abbrev ev:Nat:=88
abbrev jf:Nat:=89
abbrev lL:Nat:=101
abbrev c9:Nat:=102
abbrev gj:Nat:=103
abbrev bJ:Nat:=106
abbrev bY:Nat:=107
abbrev lD:Nat:=115
abbrev fP:Nat:=116
abbrev jB:Nat:=117
abbrev eZ:Nat:=123
abbrev gz:Nat:=124
abbrev mZ:Nat:=136
abbrev md:Nat:=137
abbrev gH:Nat:=138
abbrev dY:Nat:=139
abbrev d5:Nat:=140
abbrev dw:Nat:=141
abbrev fj:Nat:=142
abbrev ld:Nat:=146
abbrev lW:Nat:=147
abbrev cA:Nat:=148
abbrev dj:Nat:=149
abbrev iV:Nat:=156
abbrev fp:Nat:=157
abbrev dH:Nat:=158
abbrev fD:Nat:=159
abbrev fU:Nat:=160
abbrev hO:Nat:=163
abbrev ir:Nat:=164
abbrev lA:Nat:=165
abbrev oT:Nat:=166
abbrev dZ:Nat:=167
abbrev fH:Nat:=168
abbrev dQ:Nat:=169
abbrev mK:Nat:=170
abbrev d7:Nat:=171
abbrev eL:Nat:=173
abbrev iE:Nat:=174
abbrev ep:Nat:=175
abbrev dt:Nat:=176
abbrev ku:Nat:=177
abbrev iy:Nat:=178
abbrev fk:Nat:=179
abbrev fd:Nat:=180
abbrev fc:Nat:=181
abbrev gp:Nat:=182
abbrev fW:Nat:=183
abbrev lR:Nat:=184
abbrev kq:Nat:=185
abbrev d6:Nat:=186
abbrev dF:Nat:=187
abbrev eN:Nat:=188
abbrev fA:Nat:=189
abbrev lE:Nat:=190
abbrev gu:Nat:=191
abbrev mR:Nat:=192
abbrev kz:Nat:=193
abbrev ee:Nat:=194
abbrev fl:Nat:=195
abbrev kV:Nat:=196
abbrev l9:Nat:=197
abbrev cR:Nat:=198
abbrev cP:Nat:=199
abbrev kg:Nat:=201
abbrev jF:Nat:=202
abbrev kj:Nat:=3
abbrev uC:Nat:=4
abbrev fI:Nat:=9
abbrev dM:Nat:=22
abbrev dO:Nat:=23
abbrev lP:Nat:=31
abbrev oU:Nat:=37
abbrev fJ:Nat:=38
abbrev ii:Nat:=39
abbrev nr:Nat:=41
abbrev dV:Nat:=45
abbrev ji:Nat:=47
abbrev nn:Nat:=49
abbrev ik:Nat:=53
abbrev iv:Nat:=54
abbrev je:Nat:=56
abbrev mW:Nat:=58
abbrev il:Nat:=59
abbrev gN:Nat:=61
abbrev jS:Nat:=63
abbrev m8:Nat:=126
abbrev kr:Nat:=167
abbrev nb:Nat:=215
theorem tb:∃ i,tiT.get kj=some i∧i.d=.int .i64∧i.size=1:=⟨_,(by kernel_rfl:tiT.get kj=some ti3),by kernel_rfl,by kernel_rfl⟩
theorem Bx:∃ i,tiT.get uC=some i∧i.d=.bool∧i.size=1:=⟨_,(by kernel_rfl:tiT.get uC=some ti4),by kernel_rfl,by kernel_rfl⟩
theorem lN:∃ i,tiT.get fI=some i∧i.d=.string∧i.size=1:=⟨_,(by kernel_rfl:tiT.get fI=some ti9),by kernel_rfl,by kernel_rfl⟩
theorem mr:∃ i,tiT.get dM=some i∧i.d=.slice nr∧i.size=1:=⟨_,(by kernel_rfl:tiT.get dM=some NT),by kernel_rfl,by kernel_rfl⟩
theorem mJ:∃ i,tiT.get dO=some i∧i.d=.slice nn∧i.size=1:=⟨_,(by kernel_rfl:tiT.get dO=some OO),by kernel_rfl,by kernel_rfl⟩
theorem uD:∃ i,tiT.get lP=some i∧i.d=.struct [(0,kj),(1,kj)]∧i.size=2:=⟨_,(by kernel_rfl:tiT.get lP=some NH),by kernel_rfl,by kernel_rfl⟩
theorem qf:∃ i,tiT.get oU=some i∧i.d=.struct [(0,kj),(1,lP),(3,uC)]∧i.size=4:=⟨_,(by kernel_rfl:tiT.get oU=some OG),by kernel_rfl,by kernel_rfl⟩
theorem oo:∃ i,tiT.get fJ=some i∧i.d=.slice fI∧i.size=1:=⟨_,(by kernel_rfl:tiT.get fJ=some Nj),by kernel_rfl,by kernel_rfl⟩
theorem rG:∃ i,tiT.get ii=some i∧i.d=.slice m8∧i.size=1:=⟨_,(by kernel_rfl:tiT.get ii=some OY),by kernel_rfl,by kernel_rfl⟩
theorem o_:∃ i,tiT.get nr=some i∧i.d=.struct [(0,kj),(1,fI),(2,fI),(3,fJ),(4,ii)]∧i.size=5:=⟨_,(by kernel_rfl:tiT.get nr=some NY),by kernel_rfl,by kernel_rfl⟩
theorem jO:∃ i,tiT.get dV=some i∧i.d=.slice gN∧i.size=1:=⟨_,(by kernel_rfl:tiT.get dV=some Nf),by kernel_rfl,by kernel_rfl⟩
theorem sG:∃ i,tiT.get ji=some i∧i.d=.slice oU∧i.size=1:=⟨_,(by kernel_rfl:tiT.get ji=some NK),by kernel_rfl,by kernel_rfl⟩
theorem pe:∃ i,tiT.get nn=some i∧i.d=.struct [(0,dV),(1,ji)]∧i.size=2:=⟨_,(by kernel_rfl:tiT.get nn=some M3),by kernel_rfl,by kernel_rfl⟩
theorem rO:∃ i,tiT.get ik=some i∧i.d=.slice nb∧i.size=1:=⟨_,(by kernel_rfl:tiT.get ik=some MI),by kernel_rfl,by kernel_rfl⟩
theorem pz:∃ i,tiT.get iv=some i∧i.d=.slice kr∧i.size=1:=⟨_,(by kernel_rfl:tiT.get iv=some ON),by kernel_rfl,by kernel_rfl⟩
theorem pL:∃ i,tiT.get je=some i∧i.d=.struct [(0,fI),(1,fJ),(2,fJ),(3,ik),(4,iv)]∧i.size=5:=⟨_,(by kernel_rfl:tiT.get je=some NF),by kernel_rfl,by kernel_rfl⟩
theorem pd:∃ i,tiT.get mW=some i∧i.d=.struct [(0,kj),(1,je)]∧i.size=6:=⟨_,(by kernel_rfl:tiT.get mW=some N3),by kernel_rfl,by kernel_rfl⟩
theorem rR:∃ i,tiT.get il=some i∧i.d=.slice mW∧i.size=1:=⟨_,(by kernel_rfl:tiT.get il=some MH),by kernel_rfl,by kernel_rfl⟩
theorem gv:∃ i,tiT.get gN=some i∧i.d=.struct [(0,il)]∧i.size=1:=⟨_,(by kernel_rfl:tiT.get gN=some M_),by kernel_rfl,by kernel_rfl⟩
theorem sc:∃ i,tiT.get jS=some i∧i.d=.slice kj∧i.size=1:=⟨_,(by kernel_rfl:tiT.get jS=some MQ),by kernel_rfl,by kernel_rfl⟩
theorem o8:∃ i,tiT.get m8=some i∧i.d=.struct [(0,fI),(1,fI)]∧i.size=2:=⟨_,(by kernel_rfl:tiT.get m8=some Bl),by kernel_rfl,by kernel_rfl⟩
theorem nB:∃ i,tiT.get kr=some i∧i.d=.struct [(0,kj),(1,kj),(2,kj),(3,dV)]∧i.size=4:=⟨_,(by kernel_rfl:tiT.get kr=some A4),by kernel_rfl,by kernel_rfl⟩
theorem o6:∃ i,tiT.get nb=some i∧i.d=.struct [(0,fI),(1,kj),(2,fI)]∧i.size=3:=⟨_,(by kernel_rfl:tiT.get nb=some Av),by kernel_rfl,by kernel_rfl⟩
end Go.Proofs.YthdcghnjndhecaaGreat.Ev
