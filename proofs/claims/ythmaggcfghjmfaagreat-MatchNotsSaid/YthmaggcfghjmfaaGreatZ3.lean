/- The walks, part 3: the evaluator, the functions, the laws. Conditions: none. -/
import Derived.Lib.Index
import Derived.Lib.Strings
import Derived.Test.YthmaggcfghjmfaaGreatProg
import Derived.Test.YthmaggcfghjmfaaGreatZ2
namespace Go.Proofs.YthmaggcfghjmfaaGreat.Ev
set_option linter.unusedVariables false
set_option linter.unusedSimpArgs false
structure At where
 name:ByteArray
 op:Int
 text:ByteArray
mutual
inductive Pt where
 | mk (comb:Int) (c:Cp)
inductive Cp where
 | mk (tag:ByteArray) (ids classes:List ByteArray) (attrs:List At) (pseudos:List Ps)
inductive Ps where
 | mk (kind a b:Int) (list:List (List Pt))
end
def Pt.comb:Pt→Int | .mk k _=>k
def Pt.c:Pt→Cp | .mk _ c=>c
def Cp.tag:Cp→ByteArray | .mk t _ _ _ _=>t
def Cp.ids:Cp→List ByteArray | .mk _ i _ _ _=>i
def Cp.classes:Cp→List ByteArray | .mk _ _ c _ _=>c
def Cp.attrs:Cp→List At | .mk _ _ _ a _=>a
def Cp.pseudos:Cp→List Ps | .mk _ _ _ _ p=>p
def Ps.kind:Ps→Int | .mk k _ _ _=>k
def Ps.a:Ps→Int | .mk _ a _ _=>a
def Ps.b:Ps→Int | .mk _ _ b _=>b
def Ps.list:Ps→List (List Pt) | .mk _ _ _ l=>l
abbrev Sl:=List Pt
structure ST where
 prop:Int
 kind:Int
 n:Int
 imp:Bool
structure RL where
 sels:List Sl
 sets:List ST
structure Nd where
 parent:Int
 tag:ByteArray
 id:ByteArray
 classes:List ByteArray
 attrs:List (ByteArray × ByteArray)
def bU (a:At):List AV:=[Sx a.name,I a.op,Sx a.text]
def d_ (l:List ByteArray):AV:=.imm 1 (l.map fun s=>[Sx s])
mutual
def bm:Pt→List AV
 | .mk k c=>I k::bG c
def bG:Cp→List AV
 | .mk t i c a p=>[Sx t,d_ i,d_ c,.imm 3 (a.map bU),.imm 4 (nH p)]
def bA:Ps→List AV
 | .mk k a b l=>[I k,I a,I b,.imm 1 (oq l)]
def ov:List Pt→List (List AV)
 | []=>[]
 | p::r=>bm p::ov r
def nH:List Ps→List (List AV)
 | []=>[]
 | p::r=>bA p::nH r
def oq:List (List Pt)→List (List AV)
 | []=>[]
 | s::r=>[.imm 6 (ov s)]::oq r
end
theorem l_:∀ (l:List Pt),ov l=l.map bm
 | []=>rfl
 | p::r=>by rw [ov,l_ r]; rfl
theorem pd:∀ (l:List Ps),nH l=l.map bA
 | []=>rfl
 | p::r=>by rw [nH,pd r]; rfl
def aX (s:Sl):List AV:=[.imm 6 (s.map bm)]
theorem pr:∀ (l:List Sl),oq l=l.map aX
 | []=>rfl
 | s::r=>by rw [oq,pr r,l_]; rfl
theorem dE (p:Pt):bm p=I p.comb::bG p.c:=by cases p; rfl
theorem cD (c:Cp):bG c=[Sx c.tag,d_ c.ids,d_ c.classes,.imm 3 (c.attrs.map bU),.imm 4 (c.pseudos.map bA)]:=by
 cases c; rw [bG,pd]; rfl
theorem dF (p:Ps):bA p=[I p.kind,I p.a,I p.b,.imm 1 (p.list.map aX)]:=by
 cases p; rw [bA,pr]; rfl
@[simp] theorem gg (p:Pt):(bm p).length=6:=by rw [dE,cD]; rfl
@[simp] theorem iO (p:Cp):(bG p).length=5:=by rw [cD]; rfl
@[simp] theorem fC (p:Ps):(bA p).length=4:=by rw [dF]; rfl
@[simp] theorem I9 (p:Sl):(aX p).length=1:=rfl
@[simp] theorem I_ (p:At):(bU p).length=3:=rfl
def sls (l:List Sl):AV:=.imm 1 (l.map aX)
def k_ (s:ST):List AV:=[I s.prop,I s.kind,I s.n,Bo s.imp]
def mJ (r:RL):List AV:=[sls r.sels,.imm 4 (r.sets.map k_)]
def rls (l:List RL):AV:=.imm 2 (l.map mJ)
def cK (p:ByteArray × ByteArray):List AV:=[Sx p.1,Sx p.2]
def bF (n:Nd):List AV:=[I n.parent,Sx n.tag,Sx n.id,d_ n.classes,.imm 2 (n.attrs.map cK)]
def nds (l:List Nd):AV:=.imm 5 (l.map bF)
theorem ba {α:Type} (f:α→List AV) (hf:∀ x,aU (f x)=true):∀ l:List α,dV (l.map f)=true
 | []=>rfl
 | x::r=>by simp only [List.map_cons,dV,hf,ba f hf r,Bool.and_self]
@[simp] theorem lI (l:List ByteArray):bS (d_ l)=true:=by
 unfold d_; simp only [bS]; exact ba _ (fun _=>rfl) l
theorem o4 (a:At):aU (bU a)=true:=rfl
mutual
theorem o8:∀ (p:Pt),aU (bm p)=true
 | .mk k c=>by rw [bm]; simp only [aU,bS,lL c,Bool.and_self]
theorem lL:∀ (c:Cp),aU (bG c)=true
 | .mk t i c a p=>by rw [bG]; simp only [aU,bS,lI,ba _ o4,tp p,Bool.and_self]
theorem wB:∀ (p:Ps),aU (bA p)=true
 | .mk k a b l=>by rw [bA]; simp only [aU,bS,uy l,Bool.and_self]
theorem qh:∀ (l:List Pt),dV (ov l)=true
 | []=>rfl
 | p::r=>by rw [ov]; simp only [dV,o8 p,qh r,Bool.and_self]
theorem tp:∀ (l:List Ps),dV (nH l)=true
 | []=>rfl
 | p::r=>by rw [nH]; simp only [dV,wB p,tp r,Bool.and_self]
theorem uy:∀ (l:List (List Pt)),dV (oq l)=true
 | []=>rfl
 | s::r=>by rw [oq]; simp only [dV,aU,bS,qh s,uy r,Bool.and_self]
end
theorem lO (s:Sl):aU (aX s)=true:=by
 unfold aX; rw [← l_]; simp only [aU,bS,qh,Bool.and_self]
@[simp] theorem nl (l:List Sl):bS (sls l)=true:=by unfold sls; simp only [bS]; exact ba _ lO l
theorem DV (s:ST):aU (k_ s)=true:=rfl
theorem Dz (r:RL):aU (mJ r)=true:=by unfold mJ; simp only [aU,bS,nl,ba _ DV,Bool.and_self]
@[simp] theorem JA (l:List RL):bS (rls l)=true:=by unfold rls; simp only [bS]; exact ba _ Dz l
theorem kw (n:Nd):aU (bF n)=true:=by unfold bF; simp only [aU,bS,lI,ba cK (fun _=>rfl),Bool.and_self]
@[simp] theorem Cb (l:List Nd):bS (nds l)=true:=by unfold nds; simp only [bS]; exact ba _ kw l
end Go.Proofs.YthmaggcfghjmfaaGreat.Ev
namespace Go.Proofs.YthmaggcfghjmfaaGreat.Ev
@[simp] theorem JT (l:List ByteArray):AV.one (d_ l)=true:=rfl
@[simp] theorem Cw (c:Cp):(bG c).all AV.one=true:=by rw [cD]; rfl
@[simp] theorem In (p:Pt):(bm p).all AV.one=true:=by rw [dE,List.all_cons,Cw]; rfl
@[simp] theorem AP (p:Ps):(bA p).all AV.one=true:=by rw [dF]; rfl
@[simp] theorem KF (p:Sl):(aX p).all AV.one=true:=rfl
@[simp] theorem KR (p:At):(bU p).all AV.one=true:=rfl
@[simp] theorem KE (p:RL):(mJ p).all AV.one=true:=rfl
@[simp] theorem KS (p:Nd):(bF p).all AV.one=true:=rfl
@[simp] theorem KX (p:ST):(k_ p).all AV.one=true:=rfl
@[simp] theorem IZ (p:RL):(mJ p).length=2:=rfl
@[simp] theorem I5 (p:Nd):(bF p).length=5:=rfl
@[simp] theorem I8 (p:ST):(k_ p).length=4:=rfl
theorem cI {α:Type} {l:List α} {k:Nat} {x:α} (h:l[k]?=some x):l.drop k=x::l.drop (k+1):=by
 obtain ⟨hlt,rfl⟩:=List.getElem?_eq_some_iff.1 h
 exact List.drop_eq_getElem_cons hlt
theorem ce {α:Type} {l:List α} {k:Nat} (h:k<l.length):∃ x,l[k]?=some x:=⟨l[k],List.getElem?_eq_getElem h⟩
end Go.Proofs.YthmaggcfghjmfaaGreat.Ev
namespace Go.Proofs.YthmaggcfghjmfaaGreat.Ev
def i64 (n:Int):Prop:=-9223372036854775808≤n∧n≤9223372036854775807
def sH (N:Nat) (l:List ByteArray):Prop:=l.length≤N∧∀ s ∈ l,s.data.size≤N
mutual
def Pt.wf (N:Nat):Pt→Prop
 | .mk k c=>i64 k∧Cp.wf N c
def Cp.wf (N:Nat):Cp→Prop
 | .mk t i c a p=>t.data.size≤N∧sH N i∧sH N c∧(a.length≤N∧∀ x ∈ a,x.name.data.size≤N∧i64 x.op∧x.text.data.size≤N)∧p.length≤N∧qv N p
def Ps.wf (N:Nat):Ps→Prop
 | .mk k a b l=>i64 k∧i64 a∧i64 b∧l.length≤N∧qe N l
def qm (N:Nat):List Pt→Prop
 | []=>True
 | p::r=>Pt.wf N p∧qm N r
def qv (N:Nat):List Ps→Prop
 | []=>True
 | p::r=>Ps.wf N p∧qv N r
def qe (N:Nat):List (List Pt)→Prop
 | []=>True
 | s::r=>(s.length≤N∧qm N s)∧qe N r
end
theorem qY {N:Nat}:∀ {l:List Pt},qm N l→∀ p ∈ l,Pt.wf N p
 | p::r,h,q,hq=>by
  rw [qm] at h
  rcases List.mem_cons.1 hq with rfl | hq
  ·exact h.1
  ·exact qY h.2 q hq
theorem qV {N:Nat}:∀ {l:List Ps},qv N l→∀ p ∈ l,Ps.wf N p
 | p::r,h,q,hq=>by
  rw [qv] at h
  rcases List.mem_cons.1 hq with rfl | hq
  ·exact h.1
  ·exact qV h.2 q hq
def uY (N:Nat) (s:Sl):Prop:=s.length≤N∧∀ p ∈ s,Pt.wf N p
theorem qZ {N:Nat}:∀ {l:List Sl},qe N l→∀ s ∈ l,uY N s
 | s::r,h,q,hq=>by
  rw [qe] at h
  rcases List.mem_cons.1 hq with rfl | hq
  ·exact ⟨h.1.1,qY h.1.2⟩
  ·exact qZ h.2 q hq
theorem tv {N:Nat}:∀ {l:List Pt},(∀ p ∈ l,Pt.wf N p)→qm N l
 | [],_=>by rw [qm]; trivial
 | p::r,h=>by rw [qm]; exact ⟨h p (by simp),tv fun q hq=>h q (by simp [hq])⟩
theorem tY {N:Nat}:∀ {l:List Ps},(∀ p ∈ l,Ps.wf N p)→qv N l
 | [],_=>by rw [qv]; trivial
 | p::r,h=>by rw [qv]; exact ⟨h p (by simp),tY fun q hq=>h q (by simp [hq])⟩
theorem uf {N:Nat}:∀ {l:List Sl},(∀ p ∈ l,uY N p)→qe N l
 | [],_=>by rw [qe]; trivial
 | p::r,h=>by rw [qe]; exact ⟨⟨(h p (by simp)).1,tv (h p (by simp)).2⟩,uf fun q hq=>h q (by simp [hq])⟩
def gd (N:Nat) (l:List Sl):Prop:=l.length≤N∧∀ s ∈ l,uY N s
structure pq (N:Nat) (c:Cp):Prop where
 tag:c.tag.data.size≤N
 ids:sH N c.ids
 classes:sH N c.classes
 attrsL:c.attrs.length≤N
 attrs:∀ x ∈ c.attrs,x.name.data.size≤N∧i64 x.op∧x.text.data.size≤N
 psL:c.pseudos.length≤N
 ps:∀ p ∈ c.pseudos,Ps.wf N p
theorem Cp.wf_iff {N:Nat} {c:Cp}:Cp.wf N c ↔ pq N c:=by
 cases c
 rw [Cp.wf]
 exact ⟨fun ⟨a,b,c,d,e,f⟩=>⟨a,b,c,d.1,d.2,e,qV f⟩,fun ⟨a,b,c,d,d',e,f⟩=>⟨a,b,c,⟨d,d'⟩,e,tY f⟩⟩
theorem Pt.wf_iff {N:Nat} {p:Pt}:Pt.wf N p ↔ i64 p.comb∧pq N p.c:=by
 cases p; rw [Pt.wf,Cp.wf_iff]; rfl
theorem Ps.wf_iff {N:Nat} {p:Ps}:Ps.wf N p ↔ i64 p.kind∧i64 p.a∧i64 p.b∧gd N p.list:=by
 cases p; rw [Ps.wf]
 exact ⟨fun ⟨a,b,c,d,e⟩=>⟨a,b,c,d,qZ e⟩,fun ⟨a,b,c,d⟩=>⟨a,b,c,d.1,uf d.2⟩⟩
abbrev cF:Nat:=9223372036854775807
theorem dr {k n N:Nat} (h:k<n) (hn:n≤N) (hN:N≤cF:=by decide):wr .i64 ((k:Int)+1)=((k+1:Nat):Int):=by
 have:cF=9223372036854775807:=rfl
 rw [fw (by omega) (by omega)]; rfl
end Go.Proofs.YthmaggcfghjmfaaGreat.Ev
namespace Go.Proofs.YthmaggcfghjmfaaGreat.Ev
@[simp] theorem pe (l:List ByteArray):a8 (d_ l)=some (.lit (.int .i64 l.length)):=by simp [d_]
@[simp] theorem Fd (l:List Sl):a8 (sls l)=some (.lit (.int .i64 l.length)):=by simp [sls]
@[simp] theorem Kx (l:List RL):a8 (rls l)=some (.lit (.int .i64 l.length)):=by simp [rls]
@[simp] theorem gY (l:List Nd):a8 (nds l)=some (.lit (.int .i64 l.length)):=by simp [nds]
end Go.Proofs.YthmaggcfghjmfaaGreat.Ev
namespace Go.Proofs.YthmaggcfghjmfaaGreat.Ev
@[simp] theorem rL (s:Sl):ldL true 1 (aX s)=some (.agg (aX s)):=rfl
@[simp] theorem yK (s:Pt):ldL true 6 (bm s)=some (.agg (bm s)):=cQ (gg s)
@[simp] theorem BU (s:Cp):ldL true 5 (bG s)=some (.agg (bG s)):=cQ (iO s)
@[simp] theorem qf (s:Ps):ldL true 4 (bA s)=some (.agg (bA s)):=cQ (fC s)
@[simp] theorem II (s:At):ldL true 3 (bU s)=some (.agg (bU s)):=rfl
@[simp] theorem IT (s:Nd):ldL true 5 (bF s)=some (.agg (bF s)):=rfl
@[simp] theorem KM (s:RL):ldL true 2 (mJ s)=some (.agg (mJ s)):=rfl
@[simp] theorem KT (s:ST):ldL true 4 (k_ s)=some (.agg (k_ s)):=rfl
@[simp] theorem K3 (s:ByteArray × ByteArray):ldL true 2 (cK s)=some (.agg (cK s)):=rfl
@[simp] theorem K5 (c:AV) (s:Sl):bN [c] 0 (aX s)=aX s:=rfl
end Go.Proofs.YthmaggcfghjmfaaGreat.Ev
namespace Go.Proofs.YthmaggcfghjmfaaGreat.Ev
@[simp] theorem G6 (p:Pt):(bm p).tail=bG p.c:=by rw [dE]; rfl
end Go.Proofs.YthmaggcfghjmfaaGreat.Ev
namespace Go.Proofs.YthmaggcfghjmfaaGreat.Ev
@[simp] theorem tD (x:Ps):ldL false 1 (bA x)=some (I x.kind):=by rw [dF]; rfl
@[simp] theorem J9 (x:Ps):ldL false 1 (bA x).tail=some (I x.a):=by rw [dF]; rfl
@[simp] theorem Jv (x:Ps):ldL false 1 ((bA x).drop 2)=some (I x.b):=by rw [dF]; rfl
@[simp] theorem nB (x:Ps):ldL false 1 ((bA x).drop 3)=some (.imm 1 (x.list.map aX)):=by rw [dF]; rfl
@[simp] theorem Jl (x:Cp):ldL false 1 (bG x)=some (Sx x.tag):=by rw [cD]; rfl
@[simp] theorem JL (x:Cp):ldL false 1 (bG x).tail=some (d_ x.ids):=by rw [cD]; rfl
@[simp] theorem JH (x:Cp):ldL false 1 ((bG x).drop 2)=some (d_ x.classes):=by rw [cD]; rfl
@[simp] theorem Jq (x:Cp):ldL false 1 ((bG x).drop 3)=some (.imm 3 (x.attrs.map bU)):=by rw [cD]; rfl
@[simp] theorem pR (x:Cp):ldL false 1 ((bG x).drop 4)=some (.imm 4 (x.pseudos.map bA)):=by rw [cD]; rfl
@[simp] theorem Jj (x:Pt):ldL false 1 (bm x)=some (I x.comb):=by rw [dE]; rfl
@[simp] theorem kP (x:Sl):ldL false 1 (aX x)=some (.imm 6 (x.map bm)):=rfl
@[simp] theorem JN (x:At):ldL false 1 (bU x)=some (Sx x.name):=rfl
@[simp] theorem JK (x:At):ldL false 1 (bU x).tail=some (I x.op):=rfl
@[simp] theorem Ke (x:At):ldL false 1 ((bU x).drop 2)=some (Sx x.text):=rfl
@[simp] theorem Jt (x:Nd):ldL false 1 (bF x)=some (I x.parent):=rfl
@[simp] theorem J8 (x:Nd):ldL false 1 (bF x).tail=some (Sx x.tag):=rfl
theorem xz (x:Nd):ldL false 1 ((bF x).drop 1)=some (Sx x.tag):=rfl
@[simp] theorem BV (x:Nd):ldL false 1 ((bF x).drop 2)=some (Sx x.id):=rfl
@[simp] theorem py (x:Nd):ldL false 1 ((bF x).drop 3)=some (d_ x.classes):=rfl
@[simp] theorem qH (x:Nd):ldL false 1 ((bF x).drop 4)=some (.imm 2 (x.attrs.map cK)):=rfl
@[simp] theorem JC (x:RL):ldL false 1 (mJ x)=some (sls x.sels):=rfl
@[simp] theorem Jk (x:RL):ldL false 1 (mJ x).tail=some (.imm 4 (x.sets.map k_)):=rfl
@[simp] theorem JR (x:ST):ldL false 1 (k_ x)=some (I x.prop):=rfl
@[simp] theorem Jn (x:ST):ldL false 1 (k_ x).tail=some (I x.kind):=rfl
@[simp] theorem Js (x:ST):ldL false 1 ((k_ x).drop 2)=some (I x.n):=rfl
@[simp] theorem Kj (x:ST):ldL false 1 ((k_ x).drop 3)=some (Bo x.imp):=rfl
@[simp] theorem yI (x:ByteArray × ByteArray):ldL false 1 (cK x)=some (Sx x.1):=rfl
@[simp] theorem Jx (x:ByteArray × ByteArray):ldL false 1 (cK x).tail=some (Sx x.2):=rfl
theorem wW (x:ByteArray × ByteArray):ldL false 1 ((cK x).drop 1)=some (Sx x.2):=rfl
theorem wj {l:List AV} (x:Ps) (h:l.length=4):bN l 0 (bA x)=bA x:=aQ (by rw [fC,h])
theorem FX {l:List AV} (x:Pt) (h:l.length=6):bN l 0 (bm x)=bm x:=aQ (by rw [gg,h])
end Go.Proofs.YthmaggcfghjmfaaGreat.Ev
namespace Go.Proofs.YthmaggcfghjmfaaGreat.Ev
set_option linter.unusedVariables false
set_option linter.unusedSimpArgs false
theorem jQ {sz:Nat}:∀ {rows:List (List AV)} {w:Nat} (hs:∀ r ∈ rows,r.length=sz) (h:w<rows.length),rows.flatten.drop (w*sz)=rows[w]++(rows.drop (w+1)).flatten
 | r::rs,0,hs,h=>by simp
 | r::rs,w+1,hs,h=>by
  have hr:r.length=sz:=hs r (by simp)
  have e:(w+1)*sz=sz+w*sz:=by rw [Nat.succ_mul,Nat.add_comm]
  have e1:(r++rs.flatten).drop sz=rs.flatten:=by rw [← hr]; simp
  rw [List.flatten_cons,e,← List.drop_drop,e1]
  exact jQ (fun r hr=>hs r (by simp [hr])) (by simpa using h)
theorem mH {a b:List AV} {k:Nat} {xs:List AV}:bN (a++b) (a.length+k) xs=a++bN b k xs:=by
 unfold bN
 rw [Nat.add_assoc,List.take_append,List.drop_append,List.take_of_length_le (by omega),List.drop_eq_nil_of_le (by omega)]
 simp
theorem nS {a b:List AV} {k:Nat} {xs:List AV} (h:k+xs.length≤a.length):bN (a++b) k xs=bN a k xs++b:=by
 unfold bN
 rw [List.take_append_of_le_length (by omega),List.drop_append_of_le_length h]
 simp
theorem iJ {sz:Nat} {xs:List AV} {k:Nat} (hk:k+xs.length≤sz):∀ {rows:List (List AV)} {w:Nat} (hs:∀ r ∈ rows,r.length=sz) (h:w<rows.length),bN rows.flatten (w*sz+k) xs=(rows.set w (bN rows[w] k xs)).flatten
 | r::rs,0,hs,h=>by
  have hr:r.length=sz:=hs r (by simp)
  simp only [Nat.zero_mul,Nat.zero_add,List.flatten_cons,List.getElem_cons_zero,List.set_cons_zero]
  exact nS (by omega)
 | r::rs,w+1,hs,h=>by
  have hr:r.length=sz:=hs r (by simp)
  have e:(w+1)*sz+k=r.length+(w*sz+k):=by rw [Nat.succ_mul,hr]; omega
  simp only [List.flatten_cons,List.getElem_cons_succ,List.set_cons_succ]
  rw [e,mH,iJ hk (fun r hr=>hs r (by simp [hr])) (by simpa using h)]
end Go.Proofs.YthmaggcfghjmfaaGreat.Ev
namespace Go.Proofs.YthmaggcfghjmfaaGreat.Ev
set_option linter.unusedVariables false
set_option linter.unusedSimpArgs false
def Nd.none:Nd:=⟨0,⟨#[]⟩,⟨#[]⟩,[],[]⟩
def cW (L:List Nd) (i:Nat):Nd:=L.getD i Nd.none
def par (L:List Nd) (i:Nat):Int:=(cW L i).parent
def iR (L:List Nd) (m e:Nat):List Nat:=(List.range m).filter fun j=>decide (0<j)&&decide (par L j=e)
def pi (L:List Nd) (e:Nat):List Nat:=(List.range e).filter fun j=>decide (0<j)&&decide (par L j=par L e)
def rh (l:List Nat):Int:=match l.getLast? with | some j=>j | none=>-1
def cZ (L:List Nd) (e:Nat):Int:=(pi L e).length+1
def jl (L:List Nd) (e:Nat):Int:=rh (pi L e)
structure dh (L:List Nd) (m:Nat) (d:List Nat):Prop where
 len:d.length=m
 le:m≤L.length
 root:0<m→par L 0=-1∧d[0]?=some 0
 step:∀ i,0<i→i<m→∃ p x:Nat,par L i=p∧p<i∧d[p]?=some x∧d[i]?=some (x+1)∧x+1≤256
theorem dh.nil (L:List Nd):dh L 0 []:=⟨rfl,Nat.zero_le _,fun h=>absurd h (Nat.lt_irrefl 0),fun i h0 h=>absurd h (Nat.not_lt_zero i)⟩
theorem dh.first {L:List Nd} (hl:0<L.length) (h:par L 0=-1):dh L 1 [0]:=⟨rfl,hl,fun _=>⟨h,rfl⟩,fun i h0 h=>by omega⟩
theorem dh.next {L:List Nd} {m p x:Nat} {d:List Nat} (h:dh L m d) (hm:0<m) (hl:m<L.length) (hp:par L m=p) (hlt:p<m) (hx:d[p]?=some x) (h256:x+1≤256):dh L (m+1) (d++[x+1]):=by
 have hlen:=h.len
 refine ⟨by simp [hlen],hl,fun _=>⟨(h.root hm).1,?_⟩,fun i h0 hi=>?_⟩
 ·rw [List.getElem?_append_left (by omega)]; exact (h.root hm).2
 ·by_cases him:i<m
  ·obtain ⟨p',x',e1,e2,e3,e4,e5⟩:=h.step i h0 him
   exact ⟨p',x',e1,e2,by rw [List.getElem?_append_left (by omega)]; exact e3,by rw [List.getElem?_append_left (by omega)]; exact e4,e5⟩
  ·have:i=m:=by omega
   subst this
   exact ⟨p,x,hp,hlt,by rw [List.getElem?_append_left (by omega)]; exact hx,by rw [List.getElem?_append_right (by omega),hlen]; simp,h256⟩
theorem nE (L:List Nd) (m e:Nat):iR L (m+1) e=iR L m e++if 0<m∧par L m=e then [m] else []:=by
 unfold iR
 rw [List.range_succ,List.filter_append]
 congr 1
 by_cases h:0<m∧par L m=(e:Int)
 ·simp [h]
 ·rw [if_neg h]
  simp only [List.filter_cons,List.filter_nil]
  rw [if_neg (by simpa using h)]
theorem ry {L:List Nd} {m p:Nat} (hp:par L m=p):iR L m p=pi L m:=by unfold iR pi; rw [hp]
theorem EV {L:List Nd} {N:Nat} {d:List Nat} (hB:dh L N d) {m:Nat} (hm:m≤N) {e:Nat} (he:m≤e+1):iR L m e=[]:=by
 unfold iR
 rw [List.filter_eq_nil_iff]
 intro j hj
 simp only [List.mem_range] at hj
 simp only [Bool.and_eq_true,decide_eq_true_eq,not_and]
 intro h0 h1
 obtain ⟨p,x,e1,e2,_⟩:=hB.step j h0 (by omega)
 rw [e1] at h1
 omega
def gH (L:List Nd) (d:List Nat) (i:Nat) (c:AV) (low:Nd→Nd):List AV:=bF (low (cW L i))++[c,I (d.getD i 0),I (cZ L i),I (jl L i)]
@[simp] theorem Ao (L:List Nd) (d:List Nat) (i:Nat) (c:AV) (low:Nd→Nd):(gH L d i c low).length=9:=rfl
def dT (L:List Nd) (d:List Nat) (ch:List AV) (low:Nd→Nd):List (List AV):=ch.mapIdx fun i c=>gH L d i c low
theorem eX (L:List Nd) (d:List Nat) (ch:List AV) (low:Nd→Nd):(dT L d ch low).length=ch.length:=by simp [dT]
theorem nf {L:List Nd} {d:List Nat} {ch:List AV} {low:Nd→Nd}:∀ row ∈ dT L d ch low,row.length=9:=by
 intro row h
 unfold dT at h
 obtain ⟨i,hi,rfl⟩:=List.mem_mapIdx.1 h
 rfl
theorem nM {L:List Nd} {d:List Nat} {ch:List AV} {low:Nd→Nd} {k:Nat} {c:AV} (h:ch[k]?=some c):(dT L d ch low)[k]?=some (gH L d k c low):=by
 unfold dT
 rw [List.getElem?_mapIdx,h]; rfl
theorem ya {L:List Nd} {d:List Nat} {ch:List AV} {low:Nd→Nd} {k:Nat} {c':AV}:dT L d (ch.set k c') low=(dT L d ch low).set k (gH L d k c' low):=by
 apply List.ext_getElem?
 intro i
 unfold dT
 rw [List.getElem?_mapIdx,List.getElem?_set,List.getElem?_set,List.getElem?_mapIdx]
 by_cases hi:k=i
 ·subst hi
  simp only [if_true,List.length_mapIdx]
  by_cases hk:k<ch.length
  ·simp [hk]
  ·simp [hk]
 ·simp [hi]
theorem x_ {L:List Nd} {d:List Nat} {ch:List AV} {low:Nd→Nd} {c:AV}:dT L d (ch++[c]) low=dT L d ch low++[gH L d ch.length c low]:=by
 simp [dT,List.mapIdx_append]
theorem u_ {L:List Nd} {d:List Nat} {ch:List AV} {low:Nd→Nd} {k:Nat} {c:AV} (h:ch[k]?=some c):∃ r,(dT L d ch low).flatten.drop (k*9)=gH L d k c low++r:=by
 have hk:=(List.getElem?_eq_some_iff.1 h).1
 have e:=nM (L:=L) (d:=d) (low:=low) h
 have hk':k<(dT L d ch low).length:=by rw [eX]; exact hk
 refine ⟨((dT L d ch low).drop (k+1)).flatten,?_⟩
 rw [jQ nf hk']
 congr 1
 rw [List.getElem?_eq_getElem hk'] at e
 exact Option.some.inj e
theorem lC {L:List Nd} {d:List Nat} {ch:List AV} {low:Nd→Nd} {k:Nat} {c:AV} (h:ch[k]?=some c) (j:Nat) (hj:j≤9):∃ r,(dT L d ch low).flatten.drop (k*9+j)=(gH L d k c low).drop j++r:=by
 obtain ⟨r,e⟩:=u_ (L:=L) (d:=d) (low:=low) h
 refine ⟨r,?_⟩
 rw [← List.drop_drop,e,List.drop_append_of_le_length (by simpa using hj)]
theorem xK {L:List Nd} {d:List Nat} {ch:List AV} {low:Nd→Nd} {k:Nat} {c c':AV} (h:ch[k]?=some c):bN (dT L d ch low).flatten (k*9+5) [c']=(dT L d (ch.set k c') low).flatten:=by
 have hk:=(List.getElem?_eq_some_iff.1 h).1
 have hk':k<(dT L d ch low).length:=by rw [eX]; exact hk
 rw [iJ (sz:=9) (by simp) nf hk',ya]
 congr 2
 have e:=nM (L:=L) (d:=d) (low:=low) h
 rw [List.getElem?_eq_getElem hk'] at e
 rw [Option.some.inj e]
 rfl
end Go.Proofs.YthmaggcfghjmfaaGreat.Ev
namespace Go.Proofs.YthmaggcfghjmfaaGreat.Ev
set_option linter.unusedVariables false
set_option linter.unusedSimpArgs false
abbrev tl (s:ByteArray):List UInt8:=s.data.toList
def mk (l:List UInt8):ByteArray:=⟨l.toArray⟩
@[simp] theorem oC (l:List UInt8):tl (mk l)=l:=by simp [tl,mk]
@[simp] theorem zK (s:ByteArray):mk (tl s)=s:=by simp [tl,mk]
theorem vI {a b:List UInt8} (h:mk a=mk b):a=b:=by rw [← oC a,h,oC]
theorem gX (s:ByteArray):(tl s).length=s.data.size:=by simp [tl]
theorem EL (l:List UInt8):(mk l).data.size=l.length:=by simp [mk]
theorem vQ {s:ByteArray} {k:Nat} {c:UInt8} (h:(tl s)[k]?=some c):gI (Sx s) (I (k:Int))=some (.lit (.int .u8 c.toNat)):=by
 simp only [gI,jJ]
 simp [h]
theorem wo {s:ByteArray} {b:Nat} (h2:b≤s.data.size):gJ (Sx s) none (some (I (b:Int)))=some (Sx (mk ((tl s).take b))):=by
 have h3:b≤s.size:=h2
 simp [gJ,nP,jJ,cR,eZ,lp,mk,tl,h3]
theorem wL {s:ByteArray} {a:Nat} (h1:a≤s.data.size):gJ (Sx s) (some (I (a:Int))) none=some (Sx (mk ((tl s).drop a))):=by
 have h3:a≤s.size:=h1
 simp [gJ,nP,jJ,cR,eZ,lp,mk,tl,h3]
 exact List.take_of_length_le (by simp)
theorem HD {a b:ByteArray} (h:a.data.size+b.data.size≤9223372036854775807):af .add (Sx a) (Sx b)=some (Sx (mk (tl a++tl b))):=by
 have e:a.data++b.data=(a.data.toList++b.data.toList).toArray:=by
  apply Array.ext'
  simp
 have h3:a.size+b.size≤9223372036854775807:=h
 simp [af,lit?,eT,pD,h3,mk,tl,e]
def tS (s p:List UInt8):Bool:=p.isPrefixOf s
def vt (s p:List UInt8):Bool:=p.isSuffixOf s
theorem zD (s p:List UInt8) (h:p.length≤s.length):decide (mk (s.take p.length)=mk p)=tS s p:=by
 have:=Go.Lib.hasPrefix_of_take s p
 simp only [h,decide_true,Bool.true_and,Go.Lib.hasPrefix] at this
 unfold tS
 rw [← this]
 by_cases e:s.take p.length=p
 ·simp [e]
 ·have:¬ (mk (s.take p.length)=mk p):=fun h=>e (vI h)
  simp [e,this]
theorem B9 (s p:List UInt8) (h:p.length≤s.length):decide (mk (s.drop (s.length - p.length))=mk p)=vt s p:=by
 have:=Go.Lib.hasSuffix_of_drop s p
 simp only [h,decide_true,Bool.true_and,Go.Lib.hasSuffix] at this
 unfold vt
 rw [← this]
 by_cases e:s.drop (s.length - p.length)=p
 ·simp [e]
 ·have:¬ (mk (s.drop (s.length - p.length))=mk p):=fun h=>e (vI h)
  simp [e,this]
theorem Ag {s p:List UInt8} (h:s.length<p.length):tS s p=false:=by
 have:=Go.Lib.hasPrefix_of_take s p
 rw [show decide (p.length≤s.length)=false by simp; omega] at this
 simpa [tS,Go.Lib.hasPrefix] using this.symm
theorem A0 {s p:List UInt8} (h:s.length<p.length):vt s p=false:=by
 have:=Go.Lib.hasSuffix_of_drop s p
 rw [show decide (p.length≤s.length)=false by simp; omega] at this
 simpa [vt,Go.Lib.hasSuffix] using this.symm
def wht (c:UInt8):Bool:=c.toNat == 9||(c.toNat == 10||(c.toNat == 12||(c.toNat == 13||c.toNat == 32)))
def nw (c:UInt8):Bool:=!wht c
def wl (l:List UInt8):Nat:=(l.takeWhile nw).length
theorem FR:∀ (l:List UInt8),wl l≤l.length
 | []=>Nat.le_refl _
 | c::l=>by
  unfold wl
  rw [List.takeWhile_cons]
  split
  ·have:=FR l; unfold wl at this; simp; exact this
  ·simp
theorem F9:∀ {l:List UInt8} {k:Nat},k<wl l→∃ c,l[k]?=some c∧wht c=false
 | [],k,h=>by simp [wl] at h
 | c::l,k,h=>by
  unfold wl at h
  rw [List.takeWhile_cons] at h
  split at h
  ·rename_i hc
   cases k with
   | zero=>exact ⟨c,rfl,by simpa [nw] using hc⟩
   | succ k=>exact F9 (l:=l) (by unfold wl; simpa using h)
  ·simp at h
theorem FV:∀ {l:List UInt8} {c:UInt8},l[wl l]?=some c→wht c=true
 | [],c,h=>by simp at h
 | d::l,c,h=>by
  unfold wl at h
  rw [List.takeWhile_cons] at h
  split at h
  ·exact FV (l:=l) (by unfold wl; simpa using h)
  ·rename_i hc
   simp at h
   subst h
   simpa [nw] using hc
def li:Nat→List UInt8→List (List UInt8)
 | 0,_=>[]
 | f+1,l=>if l=[] then [] else if wl l=0 then li f (l.drop 1) else l.take (wl l)::li f (l.drop (wl l+1))
theorem lM:∀ (f g:Nat) (l:List UInt8),l.length<f→l.length<g→li f l=li g l
 | 0,g,l,h,_=>by omega
 | f+1,0,l,_,h=>by omega
 | f+1,g+1,l,h1,h2=>by
  unfold li
  by_cases hl:l=[]
  ·rw [if_pos hl,if_pos hl]
  ·have hpos:0<l.length:=List.length_pos_iff.2 hl
   rw [if_neg hl,if_neg hl,lM f g (l.drop 1) (by simp; omega) (by simp; omega),lM f g (l.drop (wl l+1)) (by simp; omega) (by simp; omega)]
def ld (l:List UInt8):List (List UInt8):=li (l.length+1) l
theorem vP:ld []=[]:=rfl
theorem wZ {l:List UInt8} (hl:l≠[]):ld l=if wl l=0 then ld (l.drop 1) else l.take (wl l)::ld (l.drop (wl l+1)):=by
 have hpos:0<l.length:=List.length_pos_iff.2 hl
 show li (l.length+1) l=_
 unfold li
 rw [if_neg hl]
 unfold ld
 rw [lM l.length ((l.drop 1).length+1) (l.drop 1) (by simp; omega) (by simp),lM l.length ((l.drop (wl l+1)).length+1) (l.drop (wl l+1)) (by simp; omega) (by simp)]
end Go.Proofs.YthmaggcfghjmfaaGreat.Ev
namespace Go.Proofs.YthmaggcfghjmfaaGreat.Ev
set_option maxRecDepth 100000
set_option maxHeartbeats 4000000
noncomputable def ti1:TI:=⟨.func,1,8,[.nilFunc]⟩
theorem HQ:aO Tryz.prog 1=some ti1:=by kernel_rfl
noncomputable def ti2:TI:=⟨.int .i64,1,8,[.int .i64 0]⟩
theorem Hw:aO Tryz.prog 2=some ti2:=by kernel_rfl
noncomputable def ti3:TI:=⟨.int .i64,1,8,[.int .i64 0]⟩
theorem Gl:aO Tryz.prog 3=some ti3:=by kernel_rfl
noncomputable def ti4:TI:=⟨.bool,1,1,[.bool false]⟩
theorem IV:aO Tryz.prog 4=some ti4:=by kernel_rfl
noncomputable def ti5:TI:=⟨.int .u8,1,1,[.int .u8 0]⟩
theorem GI:aO Tryz.prog 5=some ti5:=by kernel_rfl
noncomputable def ti6:TI:=⟨.int .u8,1,1,[.int .u8 0]⟩
theorem Iy:aO Tryz.prog 6=some ti6:=by kernel_rfl
noncomputable def ti7:TI:=⟨.struct [(0,2),(1,3),(2,4),(3,6)],4,24,[.int .i64 0,.int .i64 0,.bool false,.int .u8 0]⟩
theorem GK:aO Tryz.prog 7=some ti7:=by kernel_rfl
noncomputable def ti8:TI:=⟨.struct [(0,2),(1,3),(2,4),(3,6)],4,24,[.int .i64 0,.int .i64 0,.bool false,.int .u8 0]⟩
theorem Hi:aO Tryz.prog 8=some ti8:=by kernel_rfl
noncomputable def ti9:TI:=⟨.string,1,16,[.string ⟨#[]⟩]⟩
theorem IJ:aO Tryz.prog 9=some ti9:=by kernel_rfl
noncomputable def Iu:TI:=⟨.string,1,16,[.string ⟨#[]⟩]⟩
theorem ET:aO Tryz.prog 10=some Iu:=by kernel_rfl
noncomputable def IE:TI:=⟨.string,1,16,[.string ⟨#[]⟩]⟩
theorem DU:aO Tryz.prog 11=some IE:=by kernel_rfl
noncomputable def GY:TI:=⟨.int .u64,1,8,[.int .u64 0]⟩
theorem Da:aO Tryz.prog 12=some GY:=by kernel_rfl
noncomputable def G8:TI:=⟨.struct [(0,9),(1,12)],2,24,[.string ⟨#[]⟩,.int .u64 0]⟩
theorem EX:aO Tryz.prog 13=some G8:=by kernel_rfl
noncomputable def GW:TI:=⟨.struct [(0,9),(1,12)],2,24,[.string ⟨#[]⟩,.int .u64 0]⟩
theorem C1:aO Tryz.prog 14=some GW:=by kernel_rfl
noncomputable def HE:TI:=⟨.ptr 161,1,8,[.pointer none]⟩
theorem Fc:aO Tryz.prog 15=some HE:=by kernel_rfl
noncomputable def HL:TI:=⟨.ptr 164,1,8,[.pointer none]⟩
theorem EZ:aO Tryz.prog 16=some HL:=by kernel_rfl
noncomputable def Hr:TI:=⟨.ptr 172,1,8,[.pointer none]⟩
theorem CY:aO Tryz.prog 17=some Hr:=by kernel_rfl
noncomputable def GM:TI:=⟨.struct [(0,17)],1,8,[.pointer none]⟩
theorem EQ:aO Tryz.prog 18=some GM:=by kernel_rfl
noncomputable def Hq:TI:=⟨.struct [(0,17)],1,8,[.pointer none]⟩
theorem E4:aO Tryz.prog 19=some Hq:=by kernel_rfl
noncomputable def Hj:TI:=⟨.int .i32,1,4,[.int .i32 0]⟩
theorem Dm:aO Tryz.prog 21=some Hj:=by kernel_rfl
noncomputable def FH:TI:=⟨.slice 56,1,24,[.slice none 0 0]⟩
theorem Fx:aO Tryz.prog 22=some FH:=by kernel_rfl
noncomputable def Ik:TI:=⟨.func,1,8,[.nilFunc]⟩
theorem EE:aO Tryz.prog 23=some Ik:=by kernel_rfl
noncomputable def G9:TI:=⟨.ptr 78,1,8,[.pointer none]⟩
theorem Df:aO Tryz.prog 24=some G9:=by kernel_rfl
noncomputable def Ii:TI:=⟨.ptr 83,1,8,[.pointer none]⟩
theorem DB:aO Tryz.prog 25=some Ii:=by kernel_rfl
noncomputable def Ih:TI:=⟨.func,1,8,[.nilFunc]⟩
theorem C6:aO Tryz.prog 27=some Ih:=by kernel_rfl
noncomputable def IW:TI:=⟨.slice 36,1,24,[.slice none 0 0]⟩
theorem CW:aO Tryz.prog 28=some IW:=by kernel_rfl
noncomputable def IA:TI:=⟨.func,1,8,[.nilFunc]⟩
theorem EP:aO Tryz.prog 29=some IA:=by kernel_rfl
noncomputable def Hc:TI:=⟨.func,1,8,[.nilFunc]⟩
theorem DO:aO Tryz.prog 30=some Hc:=by kernel_rfl
noncomputable def Ig:TI:=⟨.func,1,8,[.nilFunc]⟩
theorem Di:aO Tryz.prog 31=some Ig:=by kernel_rfl
noncomputable def HN:TI:=⟨.func,1,8,[.nilFunc]⟩
theorem EA:aO Tryz.prog 32=some HN:=by kernel_rfl
noncomputable def HH:TI:=⟨.func,1,8,[.nilFunc]⟩
theorem FB:aO Tryz.prog 33=some HH:=by kernel_rfl
noncomputable def IR:TI:=⟨.slice 48,1,24,[.slice none 0 0]⟩
theorem DH:aO Tryz.prog 34=some IR:=by kernel_rfl
noncomputable def GC:TI:=⟨.struct [(0,34)],1,24,[.slice none 0 0]⟩
theorem Dg:aO Tryz.prog 35=some GC:=by kernel_rfl
noncomputable def ID:TI:=⟨.struct [(0,34)],1,24,[.slice none 0 0]⟩
theorem C8:aO Tryz.prog 36=some ID:=by kernel_rfl
noncomputable def He:TI:=⟨.func,1,8,[.nilFunc]⟩
theorem E6:aO Tryz.prog 37=some He:=by kernel_rfl
noncomputable def IG:TI:=⟨.func,1,8,[.nilFunc]⟩
theorem Er:aO Tryz.prog 38=some IG:=by kernel_rfl
noncomputable def Hy:TI:=⟨.struct [(0,3),(1,3),(2,3),(3,28)],4,48,[.int .i64 0,.int .i64 0,.int .i64 0,.slice none 0 0]⟩
theorem EJ:aO Tryz.prog 39=some Hy:=by kernel_rfl
noncomputable def Gt:TI:=⟨.struct [(0,3),(1,3),(2,3),(3,28)],4,48,[.int .i64 0,.int .i64 0,.int .i64 0,.slice none 0 0]⟩
theorem Dk:aO Tryz.prog 40=some Gt:=by kernel_rfl
noncomputable def Ix:TI:=⟨.slice 40,1,24,[.slice none 0 0]⟩
theorem FK:aO Tryz.prog 41=some Ix:=by kernel_rfl
noncomputable def Dl:TI:=⟨.slice 9,1,24,[.slice none 0 0]⟩
theorem EN:aO Tryz.prog 42=some Dl:=by kernel_rfl
noncomputable def Gx:TI:=⟨.slice 134,1,24,[.slice none 0 0]⟩
theorem E8:aO Tryz.prog 43=some Gx:=by kernel_rfl
noncomputable def Ic:TI:=⟨.struct [(0,9),(1,42),(2,42),(3,43),(4,41)],5,112,[.string ⟨#[]⟩,.slice none 0 0,.slice none 0 0,.slice none 0 0,.slice none 0 0]⟩
theorem Dw:aO Tryz.prog 44=some Ic:=by kernel_rfl
noncomputable def GG:TI:=⟨.struct [(0,9),(1,42),(2,42),(3,43),(4,41)],5,112,[.string ⟨#[]⟩,.slice none 0 0,.slice none 0 0,.slice none 0 0,.slice none 0 0]⟩
theorem DG:aO Tryz.prog 45=some GG:=by kernel_rfl
noncomputable def Iw:TI:=⟨.func,1,8,[.nilFunc]⟩
theorem Dh:aO Tryz.prog 46=some Iw:=by kernel_rfl
noncomputable def Ij:TI:=⟨.struct [(0,3),(1,45)],6,120,[.int .i64 0,.string ⟨#[]⟩,.slice none 0 0,.slice none 0 0,.slice none 0 0,.slice none 0 0]⟩
theorem FE:aO Tryz.prog 47=some Ij:=by kernel_rfl
noncomputable def Gm:TI:=⟨.struct [(0,3),(1,45)],6,120,[.int .i64 0,.string ⟨#[]⟩,.slice none 0 0,.slice none 0 0,.slice none 0 0,.slice none 0 0]⟩
theorem Fp:aO Tryz.prog 48=some Gm:=by kernel_rfl
noncomputable def Hs:TI:=⟨.func,1,8,[.nilFunc]⟩
theorem DC:aO Tryz.prog 49=some Hs:=by kernel_rfl
noncomputable def HO:TI:=⟨.func,1,8,[.nilFunc]⟩
theorem FC:aO Tryz.prog 50=some HO:=by kernel_rfl
noncomputable def GE:TI:=⟨.int .i64,1,8,[.int .i64 0]⟩
theorem FJ:aO Tryz.prog 51=some GE:=by kernel_rfl
noncomputable def HZ:TI:=⟨.func,1,8,[.nilFunc]⟩
theorem De:aO Tryz.prog 53=some HZ:=by kernel_rfl
noncomputable def D8:TI:=⟨.slice 81,1,24,[.slice none 0 0]⟩
theorem Fj:aO Tryz.prog 54=some D8:=by kernel_rfl
noncomputable def Hz:TI:=⟨.struct [(0,3),(1,9),(2,9),(3,42),(4,54)],5,88,[.int .i64 0,.string ⟨#[]⟩,.string ⟨#[]⟩,.slice none 0 0,.slice none 0 0]⟩
theorem Fk:aO Tryz.prog 55=some Hz:=by kernel_rfl
noncomputable def EG:TI:=⟨.struct [(0,3),(1,9),(2,9),(3,42),(4,54)],5,88,[.int .i64 0,.string ⟨#[]⟩,.string ⟨#[]⟩,.slice none 0 0,.slice none 0 0]⟩
theorem Fl:aO Tryz.prog 56=some EG:=by kernel_rfl
noncomputable def Ip:TI:=⟨.func,1,8,[.nilFunc]⟩
theorem En:aO Tryz.prog 57=some Ip:=by kernel_rfl
noncomputable def HG:TI:=⟨.func,1,8,[.nilFunc]⟩
theorem C7:aO Tryz.prog 59=some HG:=by kernel_rfl
noncomputable def HF:TI:=⟨.func,1,8,[.nilFunc]⟩
theorem EO:aO Tryz.prog 61=some HF:=by kernel_rfl
noncomputable def GX:TI:=⟨.slice 95,1,24,[.slice none 0 0]⟩
theorem EW:aO Tryz.prog 62=some GX:=by kernel_rfl
noncomputable def IX:TI:=⟨.func,1,8,[.nilFunc]⟩
theorem Dd:aO Tryz.prog 63=some IX:=by kernel_rfl
noncomputable def IF:TI:=⟨.slice 3,1,24,[.slice none 0 0]⟩
theorem Ee:aO Tryz.prog 64=some IF:=by kernel_rfl
noncomputable def Iq:TI:=⟨.func,1,8,[.nilFunc]⟩
theorem Ek:aO Tryz.prog 65=some Iq:=by kernel_rfl
noncomputable def Ie:TI:=⟨.slice 5,1,24,[.slice none 0 0]⟩
theorem Dt:aO Tryz.prog 66=some Ie:=by kernel_rfl
noncomputable def HY:TI:=⟨.func,1,8,[.nilFunc]⟩
theorem DP:aO Tryz.prog 67=some HY:=by kernel_rfl
noncomputable def GU:TI:=⟨.func,1,8,[.nilFunc]⟩
theorem D_:aO Tryz.prog 68=some GU:=by kernel_rfl
noncomputable def Gy:TI:=⟨.ptr 102,1,8,[.pointer none]⟩
theorem DX:aO Tryz.prog 69=some Gy:=by kernel_rfl
noncomputable def GS:TI:=⟨.func,1,8,[.nilFunc]⟩
theorem Fa:aO Tryz.prog 70=some GS:=by kernel_rfl
noncomputable def GR:TI:=⟨.func,1,8,[.nilFunc]⟩
theorem E3:aO Tryz.prog 71=some GR:=by kernel_rfl
noncomputable def GJ:TI:=⟨.func,1,8,[.nilFunc]⟩
theorem Ff:aO Tryz.prog 72=some GJ:=by kernel_rfl
noncomputable def Hu:TI:=⟨.func,1,8,[.nilFunc]⟩
theorem D5:aO Tryz.prog 73=some Hu:=by kernel_rfl
noncomputable def GF:TI:=⟨.func,1,8,[.nilFunc]⟩
theorem DS:aO Tryz.prog 74=some GF:=by kernel_rfl
noncomputable def IS:TI:=⟨.func,1,8,[.nilFunc]⟩
theorem E5:aO Tryz.prog 75=some IS:=by kernel_rfl
noncomputable def Gh:TI:=⟨.slice 110,1,24,[.slice none 0 0]⟩
theorem D6:aO Tryz.prog 76=some Gh:=by kernel_rfl
noncomputable def IP:TI:=⟨.struct [(0,76)],1,24,[.slice none 0 0]⟩
theorem DK:aO Tryz.prog 77=some IP:=by kernel_rfl
noncomputable def Ir:TI:=⟨.struct [(0,76)],1,24,[.slice none 0 0]⟩
theorem El:aO Tryz.prog 78=some Ir:=by kernel_rfl
noncomputable def Im:TI:=⟨.func,1,8,[.nilFunc]⟩
theorem Ej:aO Tryz.prog 79=some Im:=by kernel_rfl
noncomputable def IH:TI:=⟨.struct [(0,9),(1,9)],2,32,[.string ⟨#[]⟩,.string ⟨#[]⟩]⟩
theorem DW:aO Tryz.prog 80=some IH:=by kernel_rfl
noncomputable def FN:TI:=⟨.struct [(0,9),(1,9)],2,32,[.string ⟨#[]⟩,.string ⟨#[]⟩]⟩
theorem Eo:aO Tryz.prog 81=some FN:=by kernel_rfl
noncomputable def GN:TI:=⟨.struct [(0,22),(1,64)],2,48,[.slice none 0 0,.slice none 0 0]⟩
theorem DQ:aO Tryz.prog 82=some GN:=by kernel_rfl
noncomputable def IQ:TI:=⟨.struct [(0,22),(1,64)],2,48,[.slice none 0 0,.slice none 0 0]⟩
theorem Ew:aO Tryz.prog 83=some IQ:=by kernel_rfl
noncomputable def IB:TI:=⟨.func,1,8,[.nilFunc]⟩
theorem DJ:aO Tryz.prog 84=some IB:=by kernel_rfl
noncomputable def Gk:TI:=⟨.ptr 87,1,8,[.pointer none]⟩
theorem DF:aO Tryz.prog 85=some Gk:=by kernel_rfl
noncomputable def G_:TI:=⟨.struct [(0,62),(1,3),(2,4),(3,3)],4,48,[.slice none 0 0,.int .i64 0,.bool false,.int .i64 0]⟩
theorem Ds:aO Tryz.prog 86=some G_:=by kernel_rfl
noncomputable def GD:TI:=⟨.struct [(0,62),(1,3),(2,4),(3,3)],4,48,[.slice none 0 0,.int .i64 0,.bool false,.int .i64 0]⟩
theorem Dv:aO Tryz.prog 87=some GD:=by kernel_rfl
noncomputable def Io:TI:=⟨.func,1,8,[.nilFunc]⟩
theorem Ea:aO Tryz.prog 88=some Io:=by kernel_rfl
noncomputable def Hk:TI:=⟨.ptr 91,1,8,[.pointer none]⟩
theorem Db:aO Tryz.prog 89=some Hk:=by kernel_rfl
noncomputable def Gz:TI:=⟨.struct [(0,64),(1,3)],2,32,[.slice none 0 0,.int .i64 0]⟩
theorem DA:aO Tryz.prog 90=some Gz:=by kernel_rfl
noncomputable def Hm:TI:=⟨.struct [(0,64),(1,3)],2,32,[.slice none 0 0,.int .i64 0]⟩
theorem Ey:aO Tryz.prog 91=some Hm:=by kernel_rfl
noncomputable def HV:TI:=⟨.func,1,8,[.nilFunc]⟩
theorem FI:aO Tryz.prog 92=some HV:=by kernel_rfl
noncomputable def GT:TI:=⟨.func,1,8,[.nilFunc]⟩
theorem Em:aO Tryz.prog 93=some GT:=by kernel_rfl
noncomputable def HJ:TI:=⟨.struct [(0,3),(1,9),(2,3),(3,4),(4,3)],5,48,[.int .i64 0,.string ⟨#[]⟩,.int .i64 0,.bool false,.int .i64 0]⟩
theorem Dx:aO Tryz.prog 94=some HJ:=by kernel_rfl
noncomputable def GQ:TI:=⟨.struct [(0,3),(1,9),(2,3),(3,4),(4,3)],5,48,[.int .i64 0,.string ⟨#[]⟩,.int .i64 0,.bool false,.int .i64 0]⟩
theorem Ef:aO Tryz.prog 95=some GQ:=by kernel_rfl
noncomputable def HK:TI:=⟨.func,1,8,[.nilFunc]⟩
theorem Ei:aO Tryz.prog 96=some HK:=by kernel_rfl
noncomputable def Gv:TI:=⟨.func,1,8,[.nilFunc]⟩
theorem Dr:aO Tryz.prog 97=some Gv:=by kernel_rfl
noncomputable def Gg:TI:=⟨.func,1,8,[.nilFunc]⟩
theorem Dp:aO Tryz.prog 98=some Gg:=by kernel_rfl
noncomputable def H_:TI:=⟨.map 122 4,1,8,[.map none]⟩
theorem Fy:aO Tryz.prog 99=some H_:=by kernel_rfl
noncomputable def Ba:TI:=⟨.slice 103,1,24,[.slice none 0 0]⟩
theorem BG:aO Tryz.prog 100=some Ba:=by kernel_rfl
noncomputable def yC:TI:=⟨.struct [(0,24),(1,100),(2,99)],3,40,[.pointer none,.slice none 0 0,.map none]⟩
theorem zw:aO Tryz.prog 101=some yC:=by kernel_rfl
noncomputable def Cq:TI:=⟨.struct [(0,24),(1,100),(2,99)],3,40,[.pointer none,.slice none 0 0,.map none]⟩
theorem Bk:aO Tryz.prog 102=some Cq:=by kernel_rfl
noncomputable def BD:TI:=⟨.slice 107,1,24,[.slice none 0 0]⟩
theorem Ce:aO Tryz.prog 103=some BD:=by kernel_rfl
noncomputable def zt:TI:=⟨.func,1,8,[.nilFunc]⟩
theorem B3:aO Tryz.prog 104=some zt:=by kernel_rfl
noncomputable def Bj:TI:=⟨.slice 64,1,24,[.slice none 0 0]⟩
theorem yJ:aO Tryz.prog 105=some Bj:=by kernel_rfl
noncomputable def Ct:TI:=⟨.struct [(0,48),(6,105)],7,144,[.int .i64 0,.string ⟨#[]⟩,.slice none 0 0,.slice none 0 0,.slice none 0 0,.slice none 0 0,.slice none 0 0]⟩
theorem Bt:aO Tryz.prog 106=some Ct:=by kernel_rfl
noncomputable def yU:TI:=⟨.struct [(0,48),(6,105)],7,144,[.int .i64 0,.string ⟨#[]⟩,.slice none 0 0,.slice none 0 0,.slice none 0 0,.slice none 0 0,.slice none 0 0]⟩
theorem zj:aO Tryz.prog 107=some yU:=by kernel_rfl
noncomputable def BS:TI:=⟨.func,1,8,[.nilFunc]⟩
theorem Bx:aO Tryz.prog 108=some BS:=by kernel_rfl
noncomputable def zr:TI:=⟨.struct [(0,56),(5,64),(6,3),(7,3),(8,3)],9,136,[.int .i64 0,.string ⟨#[]⟩,.string ⟨#[]⟩,.slice none 0 0,.slice none 0 0,.slice none 0 0,.int .i64 0,.int .i64 0,.int .i64 0]⟩
theorem yN:aO Tryz.prog 109=some zr:=by kernel_rfl
noncomputable def yL:TI:=⟨.struct [(0,56),(5,64),(6,3),(7,3),(8,3)],9,136,[.int .i64 0,.string ⟨#[]⟩,.string ⟨#[]⟩,.slice none 0 0,.slice none 0 0,.slice none 0 0,.int .i64 0,.int .i64 0,.int .i64 0]⟩
theorem zS:aO Tryz.prog 110=some yL:=by kernel_rfl
noncomputable def zY:TI:=⟨.ptr 110,1,8,[.pointer none]⟩
theorem Bl:aO Tryz.prog 111=some zY:=by kernel_rfl
noncomputable def Ac:TI:=⟨.func,1,8,[.nilFunc]⟩
theorem Bh:aO Tryz.prog 112=some Ac:=by kernel_rfl
noncomputable def Ci:TI:=⟨.func,1,8,[.nilFunc]⟩
theorem zd:aO Tryz.prog 113=some Ci:=by kernel_rfl
noncomputable def BI:TI:=⟨.func,1,8,[.nilFunc]⟩
theorem B1:aO Tryz.prog 114=some BI:=by kernel_rfl
noncomputable def CM:TI:=⟨.func,1,8,[.nilFunc]⟩
theorem zQ:aO Tryz.prog 115=some CM:=by kernel_rfl
noncomputable def Cf:TI:=⟨.func,1,8,[.nilFunc]⟩
theorem BQ:aO Tryz.prog 117=some Cf:=by kernel_rfl
noncomputable def yr:TI:=⟨.func,1,8,[.nilFunc]⟩
theorem Bq:aO Tryz.prog 119=some yr:=by kernel_rfl
noncomputable def CC:TI:=⟨.func,1,8,[.nilFunc]⟩
theorem za:aO Tryz.prog 120=some CC:=by kernel_rfl
noncomputable def zm:TI:=⟨.struct [(0,3),(1,3),(2,3),(3,4)],4,32,[.int .i64 0,.int .i64 0,.int .i64 0,.bool false]⟩
theorem BK:aO Tryz.prog 121=some zm:=by kernel_rfl
noncomputable def y_:TI:=⟨.struct [(0,3),(1,3),(2,3),(3,4)],4,32,[.int .i64 0,.int .i64 0,.int .i64 0,.bool false]⟩
theorem CJ:aO Tryz.prog 122=some y_:=by kernel_rfl
noncomputable def CS:TI:=⟨.func,1,8,[.nilFunc]⟩
theorem yx:aO Tryz.prog 123=some CS:=by kernel_rfl
noncomputable def z8:TI:=⟨.func,1,8,[.nilFunc]⟩
theorem BC:aO Tryz.prog 124=some z8:=by kernel_rfl
noncomputable def zl:TI:=⟨.func,1,8,[.nilFunc]⟩
theorem BA:aO Tryz.prog 125=some zl:=by kernel_rfl
noncomputable def yW:TI:=⟨.int .u64,1,8,[.int .u64 0]⟩
theorem AD:aO Tryz.prog 126=some yW:=by kernel_rfl
noncomputable def A6:TI:=⟨.func,1,8,[.nilFunc]⟩
theorem yu:aO Tryz.prog 128=some A6:=by kernel_rfl
noncomputable def CQ:TI:=⟨.func,1,8,[.nilFunc]⟩
theorem yQ:aO Tryz.prog 129=some CQ:=by kernel_rfl
noncomputable def zC:TI:=⟨.func,1,8,[.nilFunc]⟩
theorem A8:aO Tryz.prog 130=some zC:=by kernel_rfl
noncomputable def zk:TI:=⟨.func,1,8,[.nilFunc]⟩
theorem yS:aO Tryz.prog 131=some zk:=by kernel_rfl
noncomputable def Br:TI:=⟨.func,1,8,[.nilFunc]⟩
theorem yq:aO Tryz.prog 132=some Br:=by kernel_rfl
noncomputable def zN:TI:=⟨.struct [(0,9),(1,3),(2,9)],3,40,[.string ⟨#[]⟩,.int .i64 0,.string ⟨#[]⟩]⟩
theorem Ap:aO Tryz.prog 133=some zN:=by kernel_rfl
noncomputable def Ch:TI:=⟨.struct [(0,9),(1,3),(2,9)],3,40,[.string ⟨#[]⟩,.int .i64 0,.string ⟨#[]⟩]⟩
theorem CR:aO Tryz.prog 134=some Ch:=by kernel_rfl
noncomputable def By:TI:=⟨.func,1,8,[.nilFunc]⟩
theorem B4:aO Tryz.prog 135=some By:=by kernel_rfl
noncomputable def Al:TI:=⟨.func,1,8,[.nilFunc]⟩
theorem Cu:aO Tryz.prog 136=some Al:=by kernel_rfl
noncomputable def Am:TI:=⟨.func,1,8,[.nilFunc]⟩
theorem zR:aO Tryz.prog 137=some Am:=by kernel_rfl
noncomputable def AC:TI:=⟨.func,1,8,[.nilFunc]⟩
theorem Cv:aO Tryz.prog 138=some AC:=by kernel_rfl
noncomputable def Cl:TI:=⟨.func,1,8,[.nilFunc]⟩
theorem zv:aO Tryz.prog 139=some Cl:=by kernel_rfl
noncomputable def zc:TI:=⟨.func,1,8,[.nilFunc]⟩
theorem AG:aO Tryz.prog 140=some zc:=by kernel_rfl
noncomputable def zJ:TI:=⟨.func,1,8,[.nilFunc]⟩
theorem AZ:aO Tryz.prog 141=some zJ:=by kernel_rfl
noncomputable def AO:TI:=⟨.func,1,8,[.nilFunc]⟩
theorem AX:aO Tryz.prog 142=some AO:=by kernel_rfl
noncomputable def yX:TI:=⟨.func,1,8,[.nilFunc]⟩
theorem B5:aO Tryz.prog 143=some yX:=by kernel_rfl
noncomputable def B7:TI:=⟨.func,1,8,[.nilFunc]⟩
theorem Bw:aO Tryz.prog 144=some B7:=by kernel_rfl
noncomputable def BP:TI:=⟨.func,1,8,[.nilFunc]⟩
theorem BZ:aO Tryz.prog 145=some BP:=by kernel_rfl
noncomputable def CL:TI:=⟨.func,1,8,[.nilFunc]⟩
theorem yy:aO Tryz.prog 146=some CL:=by kernel_rfl
noncomputable def Co:TI:=⟨.func,1,8,[.nilFunc]⟩
theorem Bg:aO Tryz.prog 147=some Co:=by kernel_rfl
noncomputable def z0:TI:=⟨.func,1,8,[.nilFunc]⟩
theorem zG:aO Tryz.prog 148=some z0:=by kernel_rfl
noncomputable def AI:TI:=⟨.func,1,8,[.nilFunc]⟩
theorem BT:aO Tryz.prog 149=some AI:=by kernel_rfl
noncomputable def Ak:TI:=⟨.int .u64,1,8,[.int .u64 0]⟩
theorem yR:aO Tryz.prog 150=some Ak:=by kernel_rfl
noncomputable def Cr:TI:=⟨.func,1,8,[.nilFunc]⟩
theorem Bb:aO Tryz.prog 151=some Cr:=by kernel_rfl
noncomputable def A_:TI:=⟨.func,1,8,[.nilFunc]⟩
theorem Ai:aO Tryz.prog 152=some A_:=by kernel_rfl
noncomputable def Au:TI:=⟨.func,1,8,[.nilFunc]⟩
theorem AK:aO Tryz.prog 153=some Au:=by kernel_rfl
noncomputable def AM:TI:=⟨.func,1,8,[.nilFunc]⟩
theorem Ay:aO Tryz.prog 154=some AM:=by kernel_rfl
noncomputable def AQ:TI:=⟨.func,1,8,[.nilFunc]⟩
theorem zH:aO Tryz.prog 155=some AQ:=by kernel_rfl
noncomputable def CI:TI:=⟨.func,1,8,[.nilFunc]⟩
theorem ze:aO Tryz.prog 156=some CI:=by kernel_rfl
noncomputable def An:TI:=⟨.int .u32,1,4,[.int .u32 0]⟩
theorem BY:aO Tryz.prog 157=some An:=by kernel_rfl
noncomputable def Bp:TI:=⟨.func,1,8,[.nilFunc]⟩
theorem zV:aO Tryz.prog 159=some Bp:=by kernel_rfl
noncomputable def Bc:TI:=⟨.struct [(0,17),(1,17),(2,17),(3,9)],4,40,[.pointer none,.pointer none,.pointer none,.string ⟨#[]⟩]⟩
theorem yV:aO Tryz.prog 160=some Bc:=by kernel_rfl
noncomputable def yE:TI:=⟨.struct [(0,17),(1,17),(2,17),(3,9)],4,40,[.pointer none,.pointer none,.pointer none,.string ⟨#[]⟩]⟩
theorem zM:aO Tryz.prog 161=some yE:=by kernel_rfl
noncomputable def CU:TI:=⟨.array 0 16,0,0,[]⟩
theorem zf:aO Tryz.prog 162=some CU:=by kernel_rfl
noncomputable def zP:TI:=⟨.struct [(0,162)],0,0,[]⟩
theorem yB:aO Tryz.prog 163=some zP:=by kernel_rfl
noncomputable def zA:TI:=⟨.struct [(0,162)],0,0,[]⟩
theorem Ae:aO Tryz.prog 164=some zA:=by kernel_rfl
noncomputable def BE:TI:=⟨.int .u8,1,1,[.int .u8 0]⟩
theorem Bi:aO Tryz.prog 165=some BE:=by kernel_rfl
noncomputable def Cn:TI:=⟨.int .u8,1,1,[.int .u8 0]⟩
theorem BN:aO Tryz.prog 166=some Cn:=by kernel_rfl
noncomputable def zO:TI:=⟨.func,1,8,[.nilFunc]⟩
theorem Cj:aO Tryz.prog 167=some zO:=by kernel_rfl
noncomputable def yp:TI:=⟨.ptr 5,1,8,[.pointer none]⟩
theorem CD:aO Tryz.prog 168=some yp:=by kernel_rfl
noncomputable def Bf:TI:=⟨.int .i32,1,4,[.int .i32 0]⟩
theorem CG:aO Tryz.prog 169=some Bf:=by kernel_rfl
noncomputable def zX:TI:=⟨.int .i32,1,4,[.int .i32 0]⟩
theorem A7:aO Tryz.prog 170=some zX:=by kernel_rfl
noncomputable def zp:TI:=⟨.struct [(0,12),(1,12),(2,157),(3,165),(4,5),(5,5),(6,166),(7,167),(8,168),(9,169),(10,170)],11,48,[.int .u64 0,.int .u64 0,.int .u32 0,.int .u8 0,.int .u8 0,.int .u8 0,.int .u8 0,.nilFunc,.pointer none,.int .i32 0,.int .i32 0]⟩
theorem Ax:aO Tryz.prog 171=some zp:=by kernel_rfl
noncomputable def Ad:TI:=⟨.struct [(0,12),(1,12),(2,157),(3,165),(4,5),(5,5),(6,166),(7,167),(8,168),(9,169),(10,170)],11,48,[.int .u64 0,.int .u64 0,.int .u32 0,.int .u8 0,.int .u8 0,.int .u8 0,.int .u8 0,.nilFunc,.pointer none,.int .i32 0,.int .i32 0]⟩
theorem CT:aO Tryz.prog 172=some Ad:=by kernel_rfl
noncomputable def tiT:Tr TI:=.node none (.node (some ti1) (.node (some ti3) (.node (some ti7) (.node (some HE) (.node (some Ig) (.node (some IX) .leaf .leaf) (.node (some GQ) (.node (some Bp) .leaf .leaf) .leaf)) (.node (some Ij) (.node (some Im) (.node (some yX) .leaf .leaf) .leaf) (.node (some zY) .leaf .leaf))) (.node (some Ik) (.node (some Hy) (.node (some GR) (.node (some By) .leaf .leaf) .leaf) (.node (some BD) (.node (some zO) .leaf .leaf) .leaf)) (.node (some Hz) (.node (some GD) (.node (some Cr) .leaf .leaf) .leaf) (.node (some yr) .leaf .leaf)))) (.node (some IE) (.node (some Hq) (.node (some GC) (.node (some HY) (.node (some zk) .leaf .leaf) .leaf) (.node (some H_) (.node (some zP) .leaf .leaf) .leaf)) (.node (some GE) (.node (some IQ) (.node (some Co) .leaf .leaf) .leaf) (.node (some CM) .leaf .leaf))) (.node (some Ih) (.node (some Gx) (.node (some IS) (.node (some Cl) .leaf .leaf) .leaf) (.node (some yU) (.node (some zp) .leaf .leaf) .leaf)) (.node (some HG) (.node (some Hm) (.node (some AQ) .leaf .leaf) .leaf) (.node (some CS) .leaf .leaf))))) (.node (some ti5) (.node (some ti9) (.node (some Hr) (.node (some HH) (.node (some Iq) (.node (some CQ) .leaf .leaf) .leaf) (.node (some Gv) (.node (some yE) .leaf .leaf) .leaf)) (.node (some Hs) (.node (some FN) (.node (some BP) .leaf .leaf) .leaf) (.node (some Ci) .leaf .leaf))) (.node (some Ii) (.node (some Ix) (.node (some Hu) (.node (some Am) .leaf .leaf) .leaf) (.node (some Bj) (.node (some Bf) .leaf .leaf) .leaf)) (.node (some Ip) (.node (some Hk) (.node (some Au) .leaf .leaf) .leaf) (.node (some zm) .leaf .leaf)))) (.node (some G8) (.node (some Hj) (.node (some He) (.node (some Gy) (.node (some zN) .leaf .leaf) .leaf) (.node (some yC) (.node (some BE) .leaf .leaf) .leaf)) (.node (some HZ) (.node (some Gk) (.node (some AI) .leaf .leaf) .leaf) (.node (some Cf) .leaf .leaf))) (.node (some IA) (.node (some GG) (.node (some IP) (.node (some zJ) .leaf .leaf) .leaf) (.node (some zr) .leaf .leaf)) (.node (some HF) (.node (some GT) (.node (some An) .leaf .leaf) .leaf) (.node (some zl) .leaf .leaf)))))) (.node (some ti2) (.node (some ti4) (.node (some ti8) (.node (some HL) (.node (some HN) (.node (some IF) (.node (some A6) .leaf .leaf) .leaf) (.node (some HK) (.node (some Bc) .leaf .leaf) .leaf)) (.node (some Gm) (.node (some IH) (.node (some B7) .leaf .leaf) .leaf) (.node (some Ac) .leaf .leaf))) (.node (some G9) (.node (some Gt) (.node (some GJ) (.node (some Al) .leaf .leaf) .leaf) (.node (some zt) (.node (some yp) .leaf .leaf) .leaf)) (.node (some EG) (.node (some Io) (.node (some A_) .leaf .leaf) .leaf) (.node (some CC) .leaf .leaf)))) (.node (some GY) (.node none (.node (some ID) (.node (some GU) (.node (some Br) .leaf .leaf) .leaf) (.node (some Ba) (.node (some zA) .leaf .leaf) .leaf)) (.node none (.node (some IB) (.node (some z0) .leaf .leaf) .leaf) .leaf)) (.node (some IW) (.node (some Ic) (.node (some Gh) (.node (some zc) .leaf .leaf) .leaf) (.node (some BS) (.node (some Ad) .leaf .leaf) .leaf)) (.node none (.node (some HV) (.node (some CI) .leaf .leaf) .leaf) (.node (some z8) .leaf .leaf))))) (.node (some ti6) (.node (some Iu) (.node (some GM) (.node (some IR) (.node (some Ie) (.node (some zC) .leaf .leaf) .leaf) (.node (some Gg) (.node (some CU) .leaf .leaf) .leaf)) (.node (some HO) (.node (some GN) (.node (some CL) .leaf .leaf) .leaf) (.node (some BI) .leaf .leaf))) (.node none (.node (some Dl) (.node (some GF) (.node (some AC) .leaf .leaf) .leaf) (.node (some Ct) (.node (some zX) .leaf .leaf) .leaf)) (.node none (.node (some Gz) (.node (some AM) .leaf .leaf) .leaf) (.node (some y_) .leaf .leaf)))) (.node (some GW) (.node (some FH) (.node (some IG) (.node (some GS) (.node (some Ch) .leaf .leaf) .leaf) (.node (some Cq) (.node (some Cn) .leaf .leaf) .leaf)) (.node (some D8) (.node (some G_) (.node (some Ak) .leaf .leaf) .leaf) .leaf)) (.node (some Hc) (.node (some Iw) (.node (some Ir) (.node (some AO) .leaf .leaf) .leaf) (.node (some yL) .leaf .leaf)) (.node (some GX) (.node (some HJ) .leaf .leaf) (.node (some yW) .leaf .leaf))))))
theorem zq:tiT.toL=[(1,ti1),(3,ti3),(7,ti7),(15,HE),(31,Ig),(63,IX),(95,GQ),(159,Bp),(47,Ij),(79,Im),(143,yX),(111,zY),(23,Ik),(39,Hy),(71,GR),(135,By),(103,BD),(167,zO),(55,Hz),(87,GD),(151,Cr),(119,yr),(11,IE),(19,Hq),(35,GC),(67,HY),(131,zk),(99,H_),(163,zP),(51,GE),(83,IQ),(147,Co),(115,CM),(27,Ih),(43,Gx),(75,IS),(139,Cl),(107,yU),(171,zp),(59,HG),(91,Hm),(155,AQ),(123,CS),(5,ti5),(9,ti9),(17,Hr),(33,HH),(65,Iq),(129,CQ),(97,Gv),(161,yE),(49,Hs),(81,FN),(145,BP),(113,Ci),(25,Ii),(41,Ix),(73,Hu),(137,Am),(105,Bj),(169,Bf),(57,Ip),(89,Hk),(153,Au),(121,zm),(13,G8),(21,Hj),(37,He),(69,Gy),(133,zN),(101,yC),(165,BE),(53,HZ),(85,Gk),(149,AI),(117,Cf),(29,IA),(45,GG),(77,IP),(141,zJ),(109,zr),(61,HF),(93,GT),(157,An),(125,zl),(2,ti2),(4,ti4),(8,ti8),(16,HL),(32,HN),(64,IF),(128,A6),(96,HK),(160,Bc),(48,Gm),(80,IH),(144,B7),(112,Ac),(24,G9),(40,Gt),(72,GJ),(136,Al),(104,zt),(168,yp),(56,EG),(88,Io),(152,A_),(120,CC),(12,GY),(36,ID),(68,GU),(132,Br),(100,Ba),(164,zA),(84,IB),(148,z0),(28,IW),(44,Ic),(76,Gh),(140,zc),(108,BS),(172,Ad),(92,HV),(156,CI),(124,z8),(6,ti6),(10,Iu),(18,GM),(34,IR),(66,Ie),(130,zC),(98,Gg),(162,CU),(50,HO),(82,GN),(146,CL),(114,BI),(42,Dl),(74,GF),(138,AC),(106,Ct),(170,zX),(90,Gz),(154,AM),(122,y_),(14,GW),(22,FH),(38,IG),(70,GS),(134,Ch),(102,Cq),(166,Cn),(54,D8),(86,G_),(150,Ak),(30,Hc),(46,Iw),(78,Ir),(142,AO),(110,yL),(62,GX),(94,HJ),(126,yW)]:=by kernel_rfl
theorem sS:∀ t i,tiT.get t=some i→aO Tryz.prog t=some i:=by
 refine Tr.all_get (p:=fun t i=>aO Tryz.prog t=some i) ?_
 rw [zq]
 exact .cons HQ (.cons Gl (.cons GK (.cons Fc (.cons Di (.cons Dd (.cons Ef (.cons zV (.cons FE (.cons Ej (.cons B5 (.cons Bl (.cons EE (.cons EJ (.cons E3 (.cons B4 (.cons Ce (.cons Cj (.cons Fk (.cons Dv (.cons Bb (.cons Bq (.cons DU (.cons E4 (.cons Dg (.cons DP (.cons yS (.cons Fy (.cons yB (.cons FJ (.cons Ew (.cons Bg (.cons zQ (.cons C6 (.cons E8 (.cons E5 (.cons zv (.cons zj (.cons Ax (.cons C7 (.cons Ey (.cons zH (.cons yx (.cons GI (.cons IJ (.cons CY (.cons FB (.cons Ek (.cons yQ (.cons Dr (.cons zM (.cons DC (.cons Eo (.cons BZ (.cons zd (.cons DB (.cons FK (.cons D5 (.cons zR (.cons yJ (.cons CG (.cons En (.cons Db (.cons AK (.cons BK (.cons EX (.cons Dm (.cons E6 (.cons DX (.cons Ap (.cons zw (.cons Bi (.cons De (.cons DF (.cons BT (.cons BQ (.cons EP (.cons DG (.cons DK (.cons AZ (.cons yN (.cons EO (.cons Em (.cons BY (.cons BA (.cons Hw (.cons IV (.cons Hi (.cons EZ (.cons EA (.cons Ee (.cons yu (.cons Ei (.cons yV (.cons Fp (.cons DW (.cons Bw (.cons Bh (.cons Df (.cons Dk (.cons Ff (.cons Cu (.cons B3 (.cons CD (.cons Fl (.cons Ea (.cons Ai (.cons za (.cons Da (.cons C8 (.cons D_ (.cons yq (.cons BG (.cons Ae (.cons DJ (.cons zG (.cons CW (.cons Dw (.cons D6 (.cons AG (.cons Bx (.cons CT (.cons FI (.cons ze (.cons BC (.cons Iy (.cons ET (.cons EQ (.cons DH (.cons Dt (.cons A8 (.cons Dp (.cons zf (.cons FC (.cons DQ (.cons yy (.cons B1 (.cons EN (.cons DS (.cons Cv (.cons Bt (.cons A7 (.cons DA (.cons Ay (.cons CJ (.cons C1 (.cons Fx (.cons Er (.cons Fa (.cons CR (.cons Bk (.cons BN (.cons Fj (.cons Ds (.cons yR (.cons DO (.cons Dh (.cons El (.cons AX (.cons zS (.cons EW (.cons Dx (.cons AD (.nil)))))))))))))))))))))))))))))))))))))))))))))))))))))))))))))))))))))))))))))))))))))))))))))))))))))))))))))))))))))))))))))))))))))))))))))))))))))))))))))))))))
noncomputable def fnT:Tr Func:=.node none (.node none (.node (some Tryz.f3) (.node (some Tryz.f7) (.node (some Tryz.f15) (.node (some Tryz.f31) (.node (some Tryz.f63) (.node (some Tryz.f127) .leaf .leaf) .leaf) (.node (some Tryz.f95) .leaf .leaf)) (.node (some Tryz.f47) (.node (some Tryz.f79) .leaf .leaf) (.node (some Tryz.f111) .leaf .leaf))) (.node (some Tryz.f23) (.node (some Tryz.f39) (.node (some Tryz.f71) .leaf .leaf) (.node (some Tryz.f103) .leaf .leaf)) (.node (some Tryz.f55) (.node (some Tryz.f87) .leaf .leaf) (.node (some Tryz.f119) .leaf .leaf)))) (.node (some Tryz.f11) (.node (some Tryz.f19) (.node (some Tryz.f35) (.node (some Tryz.f67) (.node (some Tryz.f131) .leaf .leaf) .leaf) (.node (some Tryz.f99) .leaf .leaf)) (.node (some Tryz.f51) (.node (some Tryz.f83) .leaf .leaf) (.node (some Tryz.f115) .leaf .leaf))) (.node (some Tryz.f27) (.node (some Tryz.f43) (.node (some Tryz.f75) .leaf .leaf) (.node (some Tryz.f107) .leaf .leaf)) (.node (some Tryz.f59) (.node (some Tryz.f91) .leaf .leaf) (.node (some Tryz.f123) .leaf .leaf))))) (.node (some Tryz.f5) (.node (some Tryz.f9) (.node (some Tryz.f17) (.node (some Tryz.f33) (.node (some Tryz.f65) (.node (some Tryz.f129) .leaf .leaf) .leaf) (.node (some Tryz.f97) .leaf .leaf)) (.node (some Tryz.f49) (.node (some Tryz.f81) .leaf .leaf) (.node (some Tryz.f113) .leaf .leaf))) (.node (some Tryz.f25) (.node (some Tryz.f41) (.node (some Tryz.f73) .leaf .leaf) (.node (some Tryz.f105) .leaf .leaf)) (.node (some Tryz.f57) (.node (some Tryz.f89) .leaf .leaf) (.node (some Tryz.f121) .leaf .leaf)))) (.node (some Tryz.f13) (.node (some Tryz.f21) (.node (some Tryz.f37) (.node (some Tryz.f69) .leaf .leaf) (.node (some Tryz.f101) .leaf .leaf)) (.node (some Tryz.f53) (.node (some Tryz.f85) .leaf .leaf) (.node (some Tryz.f117) .leaf .leaf))) (.node (some Tryz.f29) (.node (some Tryz.f45) (.node (some Tryz.f77) .leaf .leaf) (.node (some Tryz.f109) .leaf .leaf)) (.node (some Tryz.f61) (.node (some Tryz.f93) .leaf .leaf) (.node (some Tryz.f125) .leaf .leaf)))))) (.node none (.node (some Tryz.f4) (.node (some Tryz.f8) (.node (some Tryz.f16) (.node (some Tryz.f32) (.node (some Tryz.f64) (.node (some Tryz.f128) .leaf .leaf) .leaf) (.node (some Tryz.f96) .leaf .leaf)) (.node (some Tryz.f48) (.node (some Tryz.f80) .leaf .leaf) (.node (some Tryz.f112) .leaf .leaf))) (.node (some Tryz.f24) (.node (some Tryz.f40) (.node (some Tryz.f72) .leaf .leaf) (.node (some Tryz.f104) .leaf .leaf)) (.node (some Tryz.f56) (.node (some Tryz.f88) .leaf .leaf) (.node (some Tryz.f120) .leaf .leaf)))) (.node (some Tryz.f12) (.node (some Tryz.f20) (.node (some Tryz.f36) (.node (some Tryz.f68) .leaf .leaf) (.node (some Tryz.f100) .leaf .leaf)) (.node (some Tryz.f52) (.node (some Tryz.f84) .leaf .leaf) (.node (some Tryz.f116) .leaf .leaf))) (.node (some Tryz.f28) (.node (some Tryz.f44) (.node (some Tryz.f76) .leaf .leaf) (.node (some Tryz.f108) .leaf .leaf)) (.node (some Tryz.f60) (.node (some Tryz.f92) .leaf .leaf) (.node (some Tryz.f124) .leaf .leaf))))) (.node (some Tryz.f6) (.node (some Tryz.f10) (.node (some Tryz.f18) (.node (some Tryz.f34) (.node (some Tryz.f66) (.node (some Tryz.f130) .leaf .leaf) .leaf) (.node (some Tryz.f98) .leaf .leaf)) (.node (some Tryz.f50) (.node (some Tryz.f82) .leaf .leaf) (.node (some Tryz.f114) .leaf .leaf))) (.node (some Tryz.f26) (.node (some Tryz.f42) (.node (some Tryz.f74) .leaf .leaf) (.node (some Tryz.f106) .leaf .leaf)) (.node (some Tryz.f58) (.node (some Tryz.f90) .leaf .leaf) (.node (some Tryz.f122) .leaf .leaf)))) (.node (some Tryz.f14) (.node (some Tryz.f22) (.node (some Tryz.f38) (.node (some Tryz.f70) .leaf .leaf) (.node (some Tryz.f102) .leaf .leaf)) (.node (some Tryz.f54) (.node (some Tryz.f86) .leaf .leaf) (.node (some Tryz.f118) .leaf .leaf))) (.node (some Tryz.f30) (.node (some Tryz.f46) (.node (some Tryz.f78) .leaf .leaf) (.node (some Tryz.f110) .leaf .leaf)) (.node (some Tryz.f62) (.node (some Tryz.f94) .leaf .leaf) (.node (some Tryz.f126) .leaf .leaf))))))
theorem AY:fnT.toL=[(3,Tryz.f3),(7,Tryz.f7),(15,Tryz.f15),(31,Tryz.f31),(63,Tryz.f63),(127,Tryz.f127),(95,Tryz.f95),(47,Tryz.f47),(79,Tryz.f79),(111,Tryz.f111),(23,Tryz.f23),(39,Tryz.f39),(71,Tryz.f71),(103,Tryz.f103),(55,Tryz.f55),(87,Tryz.f87),(119,Tryz.f119),(11,Tryz.f11),(19,Tryz.f19),(35,Tryz.f35),(67,Tryz.f67),(131,Tryz.f131),(99,Tryz.f99),(51,Tryz.f51),(83,Tryz.f83),(115,Tryz.f115),(27,Tryz.f27),(43,Tryz.f43),(75,Tryz.f75),(107,Tryz.f107),(59,Tryz.f59),(91,Tryz.f91),(123,Tryz.f123),(5,Tryz.f5),(9,Tryz.f9),(17,Tryz.f17),(33,Tryz.f33),(65,Tryz.f65),(129,Tryz.f129),(97,Tryz.f97),(49,Tryz.f49),(81,Tryz.f81),(113,Tryz.f113),(25,Tryz.f25),(41,Tryz.f41),(73,Tryz.f73),(105,Tryz.f105),(57,Tryz.f57),(89,Tryz.f89),(121,Tryz.f121),(13,Tryz.f13),(21,Tryz.f21),(37,Tryz.f37),(69,Tryz.f69),(101,Tryz.f101),(53,Tryz.f53),(85,Tryz.f85),(117,Tryz.f117),(29,Tryz.f29),(45,Tryz.f45),(77,Tryz.f77),(109,Tryz.f109),(61,Tryz.f61),(93,Tryz.f93),(125,Tryz.f125),(4,Tryz.f4),(8,Tryz.f8),(16,Tryz.f16),(32,Tryz.f32),(64,Tryz.f64),(128,Tryz.f128),(96,Tryz.f96),(48,Tryz.f48),(80,Tryz.f80),(112,Tryz.f112),(24,Tryz.f24),(40,Tryz.f40),(72,Tryz.f72),(104,Tryz.f104),(56,Tryz.f56),(88,Tryz.f88),(120,Tryz.f120),(12,Tryz.f12),(20,Tryz.f20),(36,Tryz.f36),(68,Tryz.f68),(100,Tryz.f100),(52,Tryz.f52),(84,Tryz.f84),(116,Tryz.f116),(28,Tryz.f28),(44,Tryz.f44),(76,Tryz.f76),(108,Tryz.f108),(60,Tryz.f60),(92,Tryz.f92),(124,Tryz.f124),(6,Tryz.f6),(10,Tryz.f10),(18,Tryz.f18),(34,Tryz.f34),(66,Tryz.f66),(130,Tryz.f130),(98,Tryz.f98),(50,Tryz.f50),(82,Tryz.f82),(114,Tryz.f114),(26,Tryz.f26),(42,Tryz.f42),(74,Tryz.f74),(106,Tryz.f106),(58,Tryz.f58),(90,Tryz.f90),(122,Tryz.f122),(14,Tryz.f14),(22,Tryz.f22),(38,Tryz.f38),(70,Tryz.f70),(102,Tryz.f102),(54,Tryz.f54),(86,Tryz.f86),(118,Tryz.f118),(30,Tryz.f30),(46,Tryz.f46),(78,Tryz.f78),(110,Tryz.f110),(62,Tryz.f62),(94,Tryz.f94),(126,Tryz.f126)]:=by kernel_rfl
def fnP (k : Nat) (f : Func) : Prop := Tryz.prog.funcs[k]? = some f ∧ (f.name == "runtime.NumGoroutine") = false
theorem CO : ∀ k f, fnT.get k = some f → Tryz.prog.funcs[k]? = some f ∧ (f.name == "runtime.NumGoroutine") = false := by
 refine Tr.all_get (p:=fnP) ?_
 rw [AY]
 exact .cons ⟨Tryz.func3,by kernel_rfl⟩ (.cons ⟨Tryz.func7,by kernel_rfl⟩ (.cons ⟨Tryz.func15,by kernel_rfl⟩ (.cons ⟨Tryz.func31,by kernel_rfl⟩ (.cons ⟨Tryz.func63,by kernel_rfl⟩ (.cons ⟨Tryz.func127,by kernel_rfl⟩ (.cons ⟨Tryz.func95,by kernel_rfl⟩ (.cons ⟨Tryz.func47,by kernel_rfl⟩ (.cons ⟨Tryz.func79,by kernel_rfl⟩ (.cons ⟨Tryz.func111,by kernel_rfl⟩ (.cons ⟨Tryz.func23,by kernel_rfl⟩ (.cons ⟨Tryz.func39,by kernel_rfl⟩ (.cons ⟨Tryz.func71,by kernel_rfl⟩ (.cons ⟨Tryz.func103,by kernel_rfl⟩ (.cons ⟨Tryz.func55,by kernel_rfl⟩ (.cons ⟨Tryz.func87,by kernel_rfl⟩ (.cons ⟨Tryz.func119,by kernel_rfl⟩ (.cons ⟨Tryz.func11,by kernel_rfl⟩ (.cons ⟨Tryz.func19,by kernel_rfl⟩ (.cons ⟨Tryz.func35,by kernel_rfl⟩ (.cons ⟨Tryz.func67,by kernel_rfl⟩ (.cons ⟨Tryz.func131,by kernel_rfl⟩ (.cons ⟨Tryz.func99,by kernel_rfl⟩ (.cons ⟨Tryz.func51,by kernel_rfl⟩ (.cons ⟨Tryz.func83,by kernel_rfl⟩ (.cons ⟨Tryz.func115,by kernel_rfl⟩ (.cons ⟨Tryz.func27,by kernel_rfl⟩ (.cons ⟨Tryz.func43,by kernel_rfl⟩ (.cons ⟨Tryz.func75,by kernel_rfl⟩ (.cons ⟨Tryz.func107,by kernel_rfl⟩ (.cons ⟨Tryz.func59,by kernel_rfl⟩ (.cons ⟨Tryz.func91,by kernel_rfl⟩ (.cons ⟨Tryz.func123,by kernel_rfl⟩ (.cons ⟨Tryz.func5,by kernel_rfl⟩ (.cons ⟨Tryz.func9,by kernel_rfl⟩ (.cons ⟨Tryz.func17,by kernel_rfl⟩ (.cons ⟨Tryz.func33,by kernel_rfl⟩ (.cons ⟨Tryz.func65,by kernel_rfl⟩ (.cons ⟨Tryz.func129,by kernel_rfl⟩ (.cons ⟨Tryz.func97,by kernel_rfl⟩ (.cons ⟨Tryz.func49,by kernel_rfl⟩ (.cons ⟨Tryz.func81,by kernel_rfl⟩ (.cons ⟨Tryz.func113,by kernel_rfl⟩ (.cons ⟨Tryz.func25,by kernel_rfl⟩ (.cons ⟨Tryz.func41,by kernel_rfl⟩ (.cons ⟨Tryz.func73,by kernel_rfl⟩ (.cons ⟨Tryz.func105,by kernel_rfl⟩ (.cons ⟨Tryz.func57,by kernel_rfl⟩ (.cons ⟨Tryz.func89,by kernel_rfl⟩ (.cons ⟨Tryz.func121,by kernel_rfl⟩ (.cons ⟨Tryz.func13,by kernel_rfl⟩ (.cons ⟨Tryz.func21,by kernel_rfl⟩ (.cons ⟨Tryz.func37,by kernel_rfl⟩ (.cons ⟨Tryz.func69,by kernel_rfl⟩ (.cons ⟨Tryz.func101,by kernel_rfl⟩ (.cons ⟨Tryz.func53,by kernel_rfl⟩ (.cons ⟨Tryz.func85,by kernel_rfl⟩ (.cons ⟨Tryz.func117,by kernel_rfl⟩ (.cons ⟨Tryz.func29,by kernel_rfl⟩ (.cons ⟨Tryz.func45,by kernel_rfl⟩ (.cons ⟨Tryz.func77,by kernel_rfl⟩ (.cons ⟨Tryz.func109,by kernel_rfl⟩ (.cons ⟨Tryz.func61,by kernel_rfl⟩ (.cons ⟨Tryz.func93,by kernel_rfl⟩ (.cons ⟨Tryz.func125,by kernel_rfl⟩ (.cons ⟨Tryz.func4,by kernel_rfl⟩ (.cons ⟨Tryz.func8,by kernel_rfl⟩ (.cons ⟨Tryz.func16,by kernel_rfl⟩ (.cons ⟨Tryz.func32,by kernel_rfl⟩ (.cons ⟨Tryz.func64,by kernel_rfl⟩ (.cons ⟨Tryz.func128,by kernel_rfl⟩ (.cons ⟨Tryz.func96,by kernel_rfl⟩ (.cons ⟨Tryz.func48,by kernel_rfl⟩ (.cons ⟨Tryz.func80,by kernel_rfl⟩ (.cons ⟨Tryz.func112,by kernel_rfl⟩ (.cons ⟨Tryz.func24,by kernel_rfl⟩ (.cons ⟨Tryz.func40,by kernel_rfl⟩ (.cons ⟨Tryz.func72,by kernel_rfl⟩ (.cons ⟨Tryz.func104,by kernel_rfl⟩ (.cons ⟨Tryz.func56,by kernel_rfl⟩ (.cons ⟨Tryz.func88,by kernel_rfl⟩ (.cons ⟨Tryz.func120,by kernel_rfl⟩ (.cons ⟨Tryz.func12,by kernel_rfl⟩ (.cons ⟨Tryz.func20,by kernel_rfl⟩ (.cons ⟨Tryz.func36,by kernel_rfl⟩ (.cons ⟨Tryz.func68,by kernel_rfl⟩ (.cons ⟨Tryz.func100,by kernel_rfl⟩ (.cons ⟨Tryz.func52,by kernel_rfl⟩ (.cons ⟨Tryz.func84,by kernel_rfl⟩ (.cons ⟨Tryz.func116,by kernel_rfl⟩ (.cons ⟨Tryz.func28,by kernel_rfl⟩ (.cons ⟨Tryz.func44,by kernel_rfl⟩ (.cons ⟨Tryz.func76,by kernel_rfl⟩ (.cons ⟨Tryz.func108,by kernel_rfl⟩ (.cons ⟨Tryz.func60,by kernel_rfl⟩ (.cons ⟨Tryz.func92,by kernel_rfl⟩ (.cons ⟨Tryz.func124,by kernel_rfl⟩ (.cons ⟨Tryz.func6,by kernel_rfl⟩ (.cons ⟨Tryz.func10,by kernel_rfl⟩ (.cons ⟨Tryz.func18,by kernel_rfl⟩ (.cons ⟨Tryz.func34,by kernel_rfl⟩ (.cons ⟨Tryz.func66,by kernel_rfl⟩ (.cons ⟨Tryz.func130,by kernel_rfl⟩ (.cons ⟨Tryz.func98,by kernel_rfl⟩ (.cons ⟨Tryz.func50,by kernel_rfl⟩ (.cons ⟨Tryz.func82,by kernel_rfl⟩ (.cons ⟨Tryz.func114,by kernel_rfl⟩ (.cons ⟨Tryz.func26,by kernel_rfl⟩ (.cons ⟨Tryz.func42,by kernel_rfl⟩ (.cons ⟨Tryz.func74,by kernel_rfl⟩ (.cons ⟨Tryz.func106,by kernel_rfl⟩ (.cons ⟨Tryz.func58,by kernel_rfl⟩ (.cons ⟨Tryz.func90,by kernel_rfl⟩ (.cons ⟨Tryz.func122,by kernel_rfl⟩ (.cons ⟨Tryz.func14,by kernel_rfl⟩ (.cons ⟨Tryz.func22,by kernel_rfl⟩ (.cons ⟨Tryz.func38,by kernel_rfl⟩ (.cons ⟨Tryz.func70,by kernel_rfl⟩ (.cons ⟨Tryz.func102,by kernel_rfl⟩ (.cons ⟨Tryz.func54,by kernel_rfl⟩ (.cons ⟨Tryz.func86,by kernel_rfl⟩ (.cons ⟨Tryz.func118,by kernel_rfl⟩ (.cons ⟨Tryz.func30,by kernel_rfl⟩ (.cons ⟨Tryz.func46,by kernel_rfl⟩ (.cons ⟨Tryz.func78,by kernel_rfl⟩ (.cons ⟨Tryz.func110,by kernel_rfl⟩ (.cons ⟨Tryz.func62,by kernel_rfl⟩ (.cons ⟨Tryz.func94,by kernel_rfl⟩ (.cons ⟨Tryz.func126,by kernel_rfl⟩ (.nil)))))))))))))))))))))))))))))))))))))))))))))))))))))))))))))))))))))))))))))))))))))))))))))))))))))))))))))))))))))))))))))))))
noncomputable def ky7:List KK:=[.int .i64,.int .i64,.bool,.int .u8]
theorem Gr:ik Tryz.prog 7=some ky7:=by kernel_rfl
noncomputable def ky8:List KK:=[.int .i64,.int .i64,.bool,.int .u8]
theorem Gp:ik Tryz.prog 8=some ky8:=by kernel_rfl
noncomputable def HM:List KK:=[.string,.string]
theorem DE:ik Tryz.prog 80=some HM:=by kernel_rfl
noncomputable def Gi:List KK:=[.string,.string]
theorem FM:ik Tryz.prog 81=some Gi:=by kernel_rfl
noncomputable def Is:List KK:=[.int .i64,.string,.int .i64,.bool,.int .i64]
theorem Fo:ik Tryz.prog 94=some Is:=by kernel_rfl
noncomputable def Id:List KK:=[.int .i64,.string,.int .i64,.bool,.int .i64]
theorem Et:ik Tryz.prog 95=some Id:=by kernel_rfl
noncomputable def yD:List KK:=[.int .i64,.int .i64,.int .i64,.bool]
theorem BX:ik Tryz.prog 121=some yD:=by kernel_rfl
noncomputable def A2:List KK:=[.int .i64,.int .i64,.int .i64,.bool]
theorem zU:ik Tryz.prog 122=some A2:=by kernel_rfl
noncomputable def B6:List KK:=[.string,.int .i64,.string]
theorem CF:ik Tryz.prog 133=some B6:=by kernel_rfl
noncomputable def CB:List KK:=[.string,.int .i64,.string]
theorem zz:ik Tryz.prog 134=some CB:=by kernel_rfl
noncomputable def kyT:Tr (List KK):=.node none (.node none (.node none (.node (some ky7) (.node none (.node none .leaf (.node (some Id) .leaf .leaf)) .leaf) .leaf) .leaf) (.node none (.node none (.node none .leaf (.node none (.node (some Gi) .leaf .leaf) .leaf)) (.node none .leaf (.node none .leaf (.node (some yD) .leaf .leaf)))) (.node none (.node none (.node none (.node none (.node (some B6) .leaf .leaf) .leaf) .leaf) .leaf) .leaf))) (.node none (.node none (.node (some ky8) (.node none .leaf (.node none (.node (some HM) .leaf .leaf) .leaf)) .leaf) .leaf) (.node none (.node none .leaf (.node none .leaf (.node none .leaf (.node (some A2) .leaf .leaf)))) (.node none (.node none (.node none (.node none (.node (some CB) .leaf .leaf) .leaf) .leaf) .leaf) (.node none .leaf (.node none (.node (some Is) .leaf .leaf) .leaf)))))
theorem zW:kyT.toL=[(7,ky7),(95,Id),(81,Gi),(121,yD),(133,B6),(8,ky8),(80,HM),(122,A2),(134,CB),(94,Is)]:=by kernel_rfl
theorem HP:∀ t ks,kyT.get t=some ks→pp Tryz.prog t ks:=by
 refine Tr.all_get (p:=fun t ks=>pp Tryz.prog t ks) ?_
 rw [zW]
 exact .cons (eV Gr) (.cons (eV Et) (.cons (eV FM) (.cons (eV BX) (.cons (eV CF) (.cons (eV Gp) (.cons (eV DE) (.cons (eV zU) (.cons (eV zz) (.cons (eV Fo) (.nil))))))))))
noncomputable def CX (σ:Sig) (kn:List (ck × Bool)) (hkn:qx σ kn):Ctx Tryz.prog:=⟨tiT.get,sS,kyT.get,HP,σ,kn,hkn⟩
theorem mixed:Tryz.prog.follows .mixedOrders=true:=by kernel_rfl
noncomputable abbrev CZ (σ:Sig):Ctx Tryz.prog:=CX σ [] xO
def jr (j:Nat→AV):Nat→Nat→List AV
  | _,0=>[]
  | a,n+1=>j a::jr j (a+1) n
noncomputable abbrev fQ (f:Func) (σ:Sig) (K:AV→Hp→Prop):=fnQ (CZ σ).ti f.results.toList K
theorem gwp {σ:Sig} (g:Nat) {f:Nat} {fn:Func} {c:Code} {xs:List AV} {H:Hp} {K:AV→Hp→Prop} (hf:fnT.get f=some fn) (hb:fn.body=some c) (h:wp (CZ σ) g c (xs++List.replicate (fn.ntmps - xs.length) (.lit undef)) H (fnQ (CZ σ).ti fn.results.toList K)):∃ r H',aE Tryz.prog σ f xs H r H'∧K r H' :=
  vr (CZ σ) mixed g (CO f fn hf).1 hb (CO f fn hf).2 h
theorem lrd {σ:Sig} {g:Nat} {c:Code} {T:List AV} {H:Hp} {Q:Exit→List AV→Hp→Prop} (h:wp (CZ σ) g c T H (nx Q fun T1 H1=>∀ js,bj (CZ σ) c (dw g js 0 T1) H1 Q)):bj (CZ σ) c T H Q :=
  bj.round (CZ σ) mixed h
end Go.Proofs.YthmaggcfghjmfaaGreat.Ev
namespace Go.Proofs.YthmaggcfghjmfaaGreat.Ev
set_option maxRecDepth 100000
set_option maxHeartbeats 4000000
abbrev e8:Nat:=4
abbrev hJ:Nat:=5
abbrev fH:Nat:=6
abbrev gw:Nat:=7
abbrev fu:Nat:=8
abbrev cX:Nat:=9
abbrev dP:Nat:=11
abbrev fh:Nat:=13
abbrev b_:Nat:=14
abbrev iQ:Nat:=15
abbrev kE:Nat:=16
abbrev fY:Nat:=17
abbrev ey:Nat:=18
abbrev fK:Nat:=19
abbrev fj:Nat:=20
abbrev dH:Nat:=21
abbrev ki:Nat:=22
abbrev jM:Nat:=23
abbrev fi:Nat:=24
abbrev dx:Nat:=25
abbrev dy:Nat:=26
abbrev jB:Nat:=28
abbrev gn:Nat:=29
abbrev ff:Nat:=30
abbrev dg:Nat:=31
abbrev ak:Nat:=32
abbrev d6:Nat:=33
abbrev bt:Nat:=34
abbrev dn:Nat:=35
abbrev cu:Nat:=36
abbrev c6:Nat:=37
abbrev bV:Nat:=38
abbrev az:Nat:=39
abbrev bK:Nat:=40
abbrev aZ:Nat:=41
abbrev fJ:Nat:=42
abbrev gu:Nat:=43
abbrev ek:Nat:=44
abbrev dc:Nat:=45
abbrev fM:Nat:=48
abbrev dJ:Nat:=49
abbrev bn:Nat:=50
abbrev dM:Nat:=51
abbrev aH:Nat:=52
abbrev dU:Nat:=53
abbrev eM:Nat:=54
abbrev cS:Nat:=55
abbrev dR:Nat:=56
abbrev bT:Nat:=57
abbrev bX:Nat:=58
abbrev jZ:Nat:=59
abbrev iL:Nat:=60
abbrev dS:Nat:=61
abbrev fR:Nat:=62
abbrev dI:Nat:=63
abbrev cV:Nat:=64
abbrev iK:Nat:=67
abbrev gE:Nat:=68
abbrev dG:Nat:=69
abbrev eN:Nat:=70
abbrev eL:Nat:=71
abbrev gW:Nat:=72
abbrev kD:Nat:=73
abbrev eu:Nat:=74
abbrev d7:Nat:=75
abbrev d9:Nat:=76
abbrev eY:Nat:=77
abbrev bu:Nat:=83
abbrev bH:Nat:=84
abbrev bP:Nat:=85
abbrev da:Nat:=86
abbrev cO:Nat:=87
abbrev eR:Nat:=88
abbrev jo:Nat:=89
abbrev iM:Nat:=90
abbrev dA:Nat:=91
abbrev c9:Nat:=92
abbrev dW:Nat:=93
abbrev eE:Nat:=94
abbrev ju:Nat:=95
abbrev fc:Nat:=96
abbrev jq:Nat:=106
abbrev fd:Nat:=107
abbrev ev:Nat:=108
abbrev dO:Nat:=109
abbrev kv:Nat:=110
abbrev iG:Nat:=113
abbrev dC:Nat:=114
abbrev eo:Nat:=115
abbrev i6:Nat:=116
abbrev jD:Nat:=117
abbrev cp:Nat:=118
abbrev cq:Nat:=119
abbrev iD:Nat:=121
abbrev g_:Nat:=122
abbrev tX:Nat:=3
abbrev HC:Nat:=4
abbrev cU:Nat:=9
abbrev dk:Nat:=22
abbrev mM:Nat:=28
abbrev qT:Nat:=34
abbrev qn:Nat:=36
abbrev rM:Nat:=40
abbrev oT:Nat:=41
abbrev ig:Nat:=42
abbrev qQ:Nat:=43
abbrev pG:Nat:=45
abbrev uM:Nat:=48
abbrev fO:Nat:=54
abbrev kF:Nat:=56
abbrev kx:Nat:=81
abbrev uX:Nat:=134
theorem Cs:∃ i,tiT.get tX=some i∧i.d=.int .i64∧i.size=1:=⟨_,(by kernel_rfl:tiT.get tX=some ti3),by kernel_rfl,by kernel_rfl⟩
theorem jC:∃ i,tiT.get cU=some i∧i.d=.string∧i.size=1:=⟨_,(by kernel_rfl:tiT.get cU=some ti9),by kernel_rfl,by kernel_rfl⟩
theorem jU:∃ i,tiT.get dk=some i∧i.d=.slice kF∧i.size=1:=⟨_,(by kernel_rfl:tiT.get dk=some FH),by kernel_rfl,by kernel_rfl⟩
theorem qc:∃ i,tiT.get ig=some i∧i.d=.slice cU∧i.size=1:=⟨_,(by kernel_rfl:tiT.get ig=some Dl),by kernel_rfl,by kernel_rfl⟩
theorem oB:∃ i,tiT.get fO=some i∧i.d=.slice kx∧i.size=1:=⟨_,(by kernel_rfl:tiT.get fO=some D8),by kernel_rfl,by kernel_rfl⟩
theorem l9:∃ i,tiT.get kF=some i∧i.d=.struct [(0,tX),(1,cU),(2,cU),(3,ig),(4,fO)]∧i.size=5:=⟨_,(by kernel_rfl:tiT.get kF=some EG),by kernel_rfl,by kernel_rfl⟩
theorem lX:∃ i,tiT.get kx=some i∧i.d=.struct [(0,cU),(1,cU)]∧i.size=2:=⟨_,(by kernel_rfl:tiT.get kx=some FN),by kernel_rfl,by kernel_rfl⟩
end Go.Proofs.YthmaggcfghjmfaaGreat.Ev
