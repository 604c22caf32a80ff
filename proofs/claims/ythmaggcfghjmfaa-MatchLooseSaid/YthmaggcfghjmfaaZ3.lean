/- The walks, part 3: the evaluator, the functions, the laws. Conditions: none. -/
import Derived.Lib.Index
import Derived.Lib.Strings
import Derived.Test.YthmaggcfghjmfaaProg
import Derived.Test.YthmaggcfghjmfaaZ2
namespace Go.Proofs.Ythmaggcfghjmfaa.Ev
set_option linter.unusedVariables false
set_option linter.unusedSimpArgs false
structure At where
 name:ByteArray
 op:Int
 text:ByteArray
mutual
inductive Pt where
 | mk (comb:Int) (c:Cp)
inductive Cp where
 | mk (tag:ByteArray) (ids classes:List ByteArray) (attrs:List At) (pseudos:List Ps)
inductive Ps where
 | mk (kind a b:Int) (list:List (List Pt))
end
def Pt.comb:Pt→Int | .mk k _=>k
def Pt.c:Pt→Cp | .mk _ c=>c
def Cp.tag:Cp→ByteArray | .mk t _ _ _ _=>t
def Cp.ids:Cp→List ByteArray | .mk _ i _ _ _=>i
def Cp.classes:Cp→List ByteArray | .mk _ _ c _ _=>c
def Cp.attrs:Cp→List At | .mk _ _ _ a _=>a
def Cp.pseudos:Cp→List Ps | .mk _ _ _ _ p=>p
def Ps.kind:Ps→Int | .mk k _ _ _=>k
def Ps.a:Ps→Int | .mk _ a _ _=>a
def Ps.b:Ps→Int | .mk _ _ b _=>b
def Ps.list:Ps→List (List Pt) | .mk _ _ _ l=>l
abbrev Sl:=List Pt
structure ST where
 prop:Int
 kind:Int
 n:Int
 imp:Bool
structure RL where
 sels:List Sl
 sets:List ST
structure Nd where
 parent:Int
 tag:ByteArray
 id:ByteArray
 classes:List ByteArray
 attrs:List (ByteArray × ByteArray)
def bR (a:At):List AV:=[Sx a.name,I a.op,Sx a.text]
def dY (l:List ByteArray):AV:=.imm 1 (l.map fun s=>[Sx s])
mutual
def aZ:Pt→List AV
 | .mk k c=>I k::bZ c
def bZ:Cp→List AV
 | .mk t i c a p=>[Sx t,dY i,dY c,.imm 3 (a.map bR),.imm 4 (nK p)]
def bI:Ps→List AV
 | .mk k a b l=>[I k,I a,I b,.imm 1 (nf l)]
def nu:List Pt→List (List AV)
 | []=>[]
 | p::r=>aZ p::nu r
def nK:List Ps→List (List AV)
 | []=>[]
 | p::r=>bI p::nK r
def nf:List (List Pt)→List (List AV)
 | []=>[]
 | s::r=>[.imm 6 (nu s)]::nf r
end
theorem l9:∀ (l:List Pt),nu l=l.map aZ
 | []=>rfl
 | p::r=>by rw [nu,l9 r]; rfl
theorem o0:∀ (l:List Ps),nK l=l.map bI
 | []=>rfl
 | p::r=>by rw [nK,o0 r]; rfl
def bc (s:Sl):List AV:=[.imm 6 (s.map aZ)]
theorem pv:∀ (l:List Sl),nf l=l.map bc
 | []=>rfl
 | s::r=>by rw [nf,pv r,l9]; rfl
theorem dy (p:Pt):aZ p=I p.comb::bZ p.c:=by cases p; rfl
theorem cR (c:Cp):bZ c=[Sx c.tag,dY c.ids,dY c.classes,.imm 3 (c.attrs.map bR),.imm 4 (c.pseudos.map bI)]:=by
 cases c; rw [bZ,o0]; rfl
theorem dN (p:Ps):bI p=[I p.kind,I p.a,I p.b,.imm 1 (p.list.map bc)]:=by
 cases p; rw [bI,pv]; rfl
@[simp] theorem dt (p:Pt):(aZ p).length=6:=by rw [dy,cR]; rfl
@[simp] theorem jy (p:Cp):(bZ p).length=5:=by rw [cR]; rfl
@[simp] theorem fN (p:Ps):(bI p).length=4:=by rw [dN]; rfl
@[simp] theorem IQ (p:Sl):(bc p).length=1:=rfl
@[simp] theorem IV (p:At):(bR p).length=3:=rfl
def sls (l:List Sl):AV:=.imm 1 (l.map bc)
def kr (s:ST):List AV:=[I s.prop,I s.kind,I s.n,Bo s.imp]
def mt (r:RL):List AV:=[sls r.sels,.imm 4 (r.sets.map kr)]
def rls (l:List RL):AV:=.imm 2 (l.map mt)
def cC (p:ByteArray × ByteArray):List AV:=[Sx p.1,Sx p.2]
def bz (n:Nd):List AV:=[I n.parent,Sx n.tag,Sx n.id,dY n.classes,.imm 2 (n.attrs.map cC)]
def nds (l:List Nd):AV:=.imm 5 (l.map bz)
theorem a_ {α:Type} (f:α→List AV) (hf:∀ x,aU (f x)=true):∀ l:List α,dS (l.map f)=true
 | []=>rfl
 | x::r=>by simp only [List.map_cons,dS,hf,a_ f hf r,Bool.and_self]
@[simp] theorem kX (l:List ByteArray):bQ (dY l)=true:=by
 unfold dY; simp only [bQ]; exact a_ _ (fun _=>rfl) l
theorem oC (a:At):aU (bR a)=true:=rfl
mutual
theorem oN:∀ (p:Pt),aU (aZ p)=true
 | .mk k c=>by rw [aZ]; simp only [aU,bQ,oE c,Bool.and_self]
theorem oE:∀ (c:Cp),aU (bZ c)=true
 | .mk t i c a p=>by rw [bZ]; simp only [aU,bQ,kX,a_ _ oC,sH p,Bool.and_self]
theorem vU:∀ (p:Ps),aU (bI p)=true
 | .mk k a b l=>by rw [bI]; simp only [aU,bQ,te l,Bool.and_self]
theorem qe:∀ (l:List Pt),dS (nu l)=true
 | []=>rfl
 | p::r=>by rw [nu]; simp only [dS,oN p,qe r,Bool.and_self]
theorem sH:∀ (l:List Ps),dS (nK l)=true
 | []=>rfl
 | p::r=>by rw [nK]; simp only [dS,vU p,sH r,Bool.and_self]
theorem te:∀ (l:List (List Pt)),dS (nf l)=true
 | []=>rfl
 | s::r=>by rw [nf]; simp only [dS,aU,bQ,qe s,te r,Bool.and_self]
end
theorem oG (s:Sl):aU (bc s)=true:=by
 unfold bc; rw [← l9]; simp only [aU,bQ,qe,Bool.and_self]
@[simp] theorem mI (l:List Sl):bQ (sls l)=true:=by unfold sls; simp only [bQ]; exact a_ _ oG l
theorem Fm (s:ST):aU (kr s)=true:=rfl
theorem EY (r:RL):aU (mt r)=true:=by unfold mt; simp only [aU,bQ,mI,a_ _ Fm,Bool.and_self]
@[simp] theorem JG (l:List RL):bQ (rls l)=true:=by unfold rls; simp only [bQ]; exact a_ _ EY l
theorem jX (n:Nd):aU (bz n)=true:=by unfold bz; simp only [aU,bQ,kX,a_ cC (fun _=>rfl),Bool.and_self]
@[simp] theorem zt (l:List Nd):bQ (nds l)=true:=by unfold nds; simp only [bQ]; exact a_ _ jX l
end Go.Proofs.Ythmaggcfghjmfaa.Ev
namespace Go.Proofs.Ythmaggcfghjmfaa.Ev
@[simp] theorem JF (l:List ByteArray):AV.one (dY l)=true:=rfl
@[simp] theorem xZ (c:Cp):(bZ c).all AV.one=true:=by rw [cR]; rfl
@[simp] theorem B0 (p:Pt):(aZ p).all AV.one=true:=by rw [dy,List.all_cons,xZ]; rfl
@[simp] theorem Ab (p:Ps):(bI p).all AV.one=true:=by rw [dN]; rfl
@[simp] theorem Ky (p:Sl):(bc p).all AV.one=true:=rfl
@[simp] theorem Kq (p:At):(bR p).all AV.one=true:=rfl
@[simp] theorem Kt (p:RL):(mt p).all AV.one=true:=rfl
@[simp] theorem Kz (p:Nd):(bz p).all AV.one=true:=rfl
@[simp] theorem KJ (p:ST):(kr p).all AV.one=true:=rfl
@[simp] theorem IP (p:RL):(mt p).length=2:=rfl
@[simp] theorem IN (p:Nd):(bz p).length=5:=rfl
@[simp] theorem IS (p:ST):(kr p).length=4:=rfl
theorem cN {α:Type} {l:List α} {k:Nat} {x:α} (h:l[k]?=some x):l.drop k=x::l.drop (k+1):=by
 obtain ⟨hlt,rfl⟩:=List.getElem?_eq_some_iff.1 h
 exact List.drop_eq_getElem_cons hlt
theorem cb {α:Type} {l:List α} {k:Nat} (h:k<l.length):∃ x,l[k]?=some x:=⟨l[k],List.getElem?_eq_getElem h⟩
end Go.Proofs.Ythmaggcfghjmfaa.Ev
namespace Go.Proofs.Ythmaggcfghjmfaa.Ev
def i64 (n:Int):Prop:=-9223372036854775808≤n∧n≤9223372036854775807
def rY (N:Nat) (l:List ByteArray):Prop:=l.length≤N∧∀ s ∈ l,s.data.size≤N
mutual
def Pt.wf (N:Nat):Pt→Prop
 | .mk k c=>i64 k∧Cp.wf N c
def Cp.wf (N:Nat):Cp→Prop
 | .mk t i c a p=>t.data.size≤N∧rY N i∧rY N c∧(a.length≤N∧∀ x ∈ a,x.name.data.size≤N∧i64 x.op∧x.text.data.size≤N)∧p.length≤N∧pn N p
def Ps.wf (N:Nat):Ps→Prop
 | .mk k a b l=>i64 k∧i64 a∧i64 b∧l.length≤N∧pO N l
def pS (N:Nat):List Pt→Prop
 | []=>True
 | p::r=>Pt.wf N p∧pS N r
def pn (N:Nat):List Ps→Prop
 | []=>True
 | p::r=>Ps.wf N p∧pn N r
def pO (N:Nat):List (List Pt)→Prop
 | []=>True
 | s::r=>(s.length≤N∧pS N s)∧pO N r
end
theorem qO {N:Nat}:∀ {l:List Pt},pS N l→∀ p ∈ l,Pt.wf N p
 | p::r,h,q,hq=>by
  rw [pS] at h
  rcases List.mem_cons.1 hq with rfl | hq
  ·exact h.1
  ·exact qO h.2 q hq
theorem qG {N:Nat}:∀ {l:List Ps},pn N l→∀ p ∈ l,Ps.wf N p
 | p::r,h,q,hq=>by
  rw [pn] at h
  rcases List.mem_cons.1 hq with rfl | hq
  ·exact h.1
  ·exact qG h.2 q hq
def tQ (N:Nat) (s:Sl):Prop:=s.length≤N∧∀ p ∈ s,Pt.wf N p
theorem qL {N:Nat}:∀ {l:List Sl},pO N l→∀ s ∈ l,tQ N s
 | s::r,h,q,hq=>by
  rw [pO] at h
  rcases List.mem_cons.1 hq with rfl | hq
  ·exact ⟨h.1.1,qO h.1.2⟩
  ·exact qL h.2 q hq
theorem tL {N:Nat}:∀ {l:List Pt},(∀ p ∈ l,Pt.wf N p)→pS N l
 | [],_=>by rw [pS]; trivial
 | p::r,h=>by rw [pS]; exact ⟨h p (by simp),tL fun q hq=>h q (by simp [hq])⟩
theorem sC {N:Nat}:∀ {l:List Ps},(∀ p ∈ l,Ps.wf N p)→pn N l
 | [],_=>by rw [pn]; trivial
 | p::r,h=>by rw [pn]; exact ⟨h p (by simp),sC fun q hq=>h q (by simp [hq])⟩
theorem sD {N:Nat}:∀ {l:List Sl},(∀ p ∈ l,tQ N p)→pO N l
 | [],_=>by rw [pO]; trivial
 | p::r,h=>by rw [pO]; exact ⟨⟨(h p (by simp)).1,tL (h p (by simp)).2⟩,sD fun q hq=>h q (by simp [hq])⟩
def gt (N:Nat) (l:List Sl):Prop:=l.length≤N∧∀ s ∈ l,tQ N s
structure t8 (N:Nat) (c:Cp):Prop where
 tag:c.tag.data.size≤N
 ids:rY N c.ids
 classes:rY N c.classes
 attrsL:c.attrs.length≤N
 attrs:∀ x ∈ c.attrs,x.name.data.size≤N∧i64 x.op∧x.text.data.size≤N
 psL:c.pseudos.length≤N
 ps:∀ p ∈ c.pseudos,Ps.wf N p
theorem Cp.wf_iff {N:Nat} {c:Cp}:Cp.wf N c ↔ t8 N c:=by
 cases c
 rw [Cp.wf]
 exact ⟨fun ⟨a,b,c,d,e,f⟩=>⟨a,b,c,d.1,d.2,e,qG f⟩,fun ⟨a,b,c,d,d',e,f⟩=>⟨a,b,c,⟨d,d'⟩,e,sC f⟩⟩
theorem Pt.wf_iff {N:Nat} {p:Pt}:Pt.wf N p ↔ i64 p.comb∧t8 N p.c:=by
 cases p; rw [Pt.wf,Cp.wf_iff]; rfl
theorem Ps.wf_iff {N:Nat} {p:Ps}:Ps.wf N p ↔ i64 p.kind∧i64 p.a∧i64 p.b∧gt N p.list:=by
 cases p; rw [Ps.wf]
 exact ⟨fun ⟨a,b,c,d,e⟩=>⟨a,b,c,d,qL e⟩,fun ⟨a,b,c,d⟩=>⟨a,b,c,d.1,sD d.2⟩⟩
abbrev cU:Nat:=9223372036854775807
theorem dX {k n N:Nat} (h:k<n) (hn:n≤N) (hN:N≤cU:=by decide):wr .i64 ((k:Int)+1)=((k+1:Nat):Int):=by
 have:cU=9223372036854775807:=rfl
 rw [fe (by omega) (by omega)]; rfl
end Go.Proofs.Ythmaggcfghjmfaa.Ev
namespace Go.Proofs.Ythmaggcfghjmfaa.Ev
@[simp] theorem pE (l:List ByteArray):a8 (dY l)=some (.lit (.int .i64 l.length)):=by simp [dY]
@[simp] theorem vw (l:List Sl):a8 (sls l)=some (.lit (.int .i64 l.length)):=by simp [sls]
@[simp] theorem Kb (l:List RL):a8 (rls l)=some (.lit (.int .i64 l.length)):=by simp [rls]
@[simp] theorem gQ (l:List Nd):a8 (nds l)=some (.lit (.int .i64 l.length)):=by simp [nds]
end Go.Proofs.Ythmaggcfghjmfaa.Ev
namespace Go.Proofs.Ythmaggcfghjmfaa.Ev
@[simp] theorem ry (s:Sl):ldL true 1 (bc s)=some (.agg (bc s)):=rfl
@[simp] theorem Bl (s:Pt):ldL true 6 (aZ s)=some (.agg (aZ s)):=cB (dt s)
@[simp] theorem II (s:Cp):ldL true 5 (bZ s)=some (.agg (bZ s)):=cB (jy s)
@[simp] theorem rM (s:Ps):ldL true 4 (bI s)=some (.agg (bI s)):=cB (fN s)
@[simp] theorem HI (s:At):ldL true 3 (bR s)=some (.agg (bR s)):=rfl
@[simp] theorem Iq (s:Nd):ldL true 5 (bz s)=some (.agg (bz s)):=rfl
@[simp] theorem Kk (s:RL):ldL true 2 (mt s)=some (.agg (mt s)):=rfl
@[simp] theorem Ku (s:ST):ldL true 4 (kr s)=some (.agg (kr s)):=rfl
@[simp] theorem KL (s:ByteArray × ByteArray):ldL true 2 (cC s)=some (.agg (cC s)):=rfl
@[simp] theorem K2 (c:AV) (s:Sl):bM [c] 0 (bc s)=bc s:=rfl
end Go.Proofs.Ythmaggcfghjmfaa.Ev
namespace Go.Proofs.Ythmaggcfghjmfaa.Ev
@[simp] theorem GZ (p:Pt):(aZ p).tail=bZ p.c:=by rw [dy]; rfl
end Go.Proofs.Ythmaggcfghjmfaa.Ev
namespace Go.Proofs.Ythmaggcfghjmfaa.Ev
@[simp] theorem Bk (x:Ps):ldL false 1 (bI x)=some (I x.kind):=by rw [dN]; rfl
@[simp] theorem JQ (x:Ps):ldL false 1 (bI x).tail=some (I x.a):=by rw [dN]; rfl
@[simp] theorem I2 (x:Ps):ldL false 1 ((bI x).drop 2)=some (I x.b):=by rw [dN]; rfl
@[simp] theorem sF (x:Ps):ldL false 1 ((bI x).drop 3)=some (.imm 1 (x.list.map bc)):=by rw [dN]; rfl
@[simp] theorem JR (x:Cp):ldL false 1 (bZ x)=some (Sx x.tag):=by rw [cR]; rfl
@[simp] theorem JX (x:Cp):ldL false 1 (bZ x).tail=some (dY x.ids):=by rw [cR]; rfl
@[simp] theorem JL (x:Cp):ldL false 1 ((bZ x).drop 2)=some (dY x.classes):=by rw [cR]; rfl
@[simp] theorem JJ (x:Cp):ldL false 1 ((bZ x).drop 3)=some (.imm 3 (x.attrs.map bR)):=by rw [cR]; rfl
@[simp] theorem BE (x:Cp):ldL false 1 ((bZ x).drop 4)=some (.imm 4 (x.pseudos.map bI)):=by rw [cR]; rfl
@[simp] theorem JK (x:Pt):ldL false 1 (aZ x)=some (I x.comb):=by rw [dy]; rfl
@[simp] theorem sX (x:Sl):ldL false 1 (bc x)=some (.imm 6 (x.map aZ)):=rfl
@[simp] theorem Jb (x:At):ldL false 1 (bR x)=some (Sx x.name):=rfl
@[simp] theorem I8 (x:At):ldL false 1 (bR x).tail=some (I x.op):=rfl
@[simp] theorem I0 (x:At):ldL false 1 ((bR x).drop 2)=some (Sx x.text):=rfl
@[simp] theorem Jg (x:Nd):ldL false 1 (bz x)=some (I x.parent):=rfl
@[simp] theorem I3 (x:Nd):ldL false 1 (bz x).tail=some (Sx x.tag):=rfl
theorem wN (x:Nd):ldL false 1 ((bz x).drop 1)=some (Sx x.tag):=rfl
@[simp] theorem zW (x:Nd):ldL false 1 ((bz x).drop 2)=some (Sx x.id):=rfl
@[simp] theorem pu (x:Nd):ldL false 1 ((bz x).drop 3)=some (dY x.classes):=rfl
@[simp] theorem pb (x:Nd):ldL false 1 ((bz x).drop 4)=some (.imm 2 (x.attrs.map cC)):=rfl
@[simp] theorem I9 (x:RL):ldL false 1 (mt x)=some (sls x.sels):=rfl
@[simp] theorem I5 (x:RL):ldL false 1 (mt x).tail=some (.imm 4 (x.sets.map kr)):=rfl
@[simp] theorem JC (x:ST):ldL false 1 (kr x)=some (I x.prop):=rfl
@[simp] theorem Jn (x:ST):ldL false 1 (kr x).tail=some (I x.kind):=rfl
@[simp] theorem Jm (x:ST):ldL false 1 ((kr x).drop 2)=some (I x.n):=rfl
@[simp] theorem Jx (x:ST):ldL false 1 ((kr x).drop 3)=some (Bo x.imp):=rfl
@[simp] theorem zR (x:ByteArray × ByteArray):ldL false 1 (cC x)=some (Sx x.1):=rfl
@[simp] theorem JW (x:ByteArray × ByteArray):ldL false 1 (cC x).tail=some (Sx x.2):=rfl
theorem w_ (x:ByteArray × ByteArray):ldL false 1 ((cC x).drop 1)=some (Sx x.2):=rfl
theorem yZ {l:List AV} (x:Ps) (h:l.length=4):bM l 0 (bI x)=bI x:=aS (by rw [fN,h])
theorem FY {l:List AV} (x:Pt) (h:l.length=6):bM l 0 (aZ x)=aZ x:=aS (by rw [dt,h])
end Go.Proofs.Ythmaggcfghjmfaa.Ev
namespace Go.Proofs.Ythmaggcfghjmfaa.Ev
set_option linter.unusedVariables false
set_option linter.unusedSimpArgs false
theorem jz {sz:Nat}:∀ {rows:List (List AV)} {w:Nat} (hs:∀ r ∈ rows,r.length=sz) (h:w<rows.length),rows.flatten.drop (w*sz)=rows[w]++(rows.drop (w+1)).flatten
 | r::rs,0,hs,h=>by simp
 | r::rs,w+1,hs,h=>by
  have hr:r.length=sz:=hs r (by simp)
  have e:(w+1)*sz=sz+w*sz:=by rw [Nat.succ_mul,Nat.add_comm]
  have e1:(r++rs.flatten).drop sz=rs.flatten:=by rw [← hr]; simp
  rw [List.flatten_cons,e,← List.drop_drop,e1]
  exact jz (fun r hr=>hs r (by simp [hr])) (by simpa using h)
theorem mf {a b:List AV} {k:Nat} {xs:List AV}:bM (a++b) (a.length+k) xs=a++bM b k xs:=by
 unfold bM
 rw [Nat.add_assoc,List.take_append,List.drop_append,List.take_of_length_le (by omega),List.drop_eq_nil_of_le (by omega)]
 simp
theorem nI {a b:List AV} {k:Nat} {xs:List AV} (h:k+xs.length≤a.length):bM (a++b) k xs=bM a k xs++b:=by
 unfold bM
 rw [List.take_append_of_le_length (by omega),List.drop_append_of_le_length h]
 simp
theorem io {sz:Nat} {xs:List AV} {k:Nat} (hk:k+xs.length≤sz):∀ {rows:List (List AV)} {w:Nat} (hs:∀ r ∈ rows,r.length=sz) (h:w<rows.length),bM rows.flatten (w*sz+k) xs=(rows.set w (bM rows[w] k xs)).flatten
 | r::rs,0,hs,h=>by
  have hr:r.length=sz:=hs r (by simp)
  simp only [Nat.zero_mul,Nat.zero_add,List.flatten_cons,List.getElem_cons_zero,List.set_cons_zero]
  exact nI (by omega)
 | r::rs,w+1,hs,h=>by
  have hr:r.length=sz:=hs r (by simp)
  have e:(w+1)*sz+k=r.length+(w*sz+k):=by rw [Nat.succ_mul,hr]; omega
  simp only [List.flatten_cons,List.getElem_cons_succ,List.set_cons_succ]
  rw [e,mf,io hk (fun r hr=>hs r (by simp [hr])) (by simpa using h)]
end Go.Proofs.Ythmaggcfghjmfaa.Ev
namespace Go.Proofs.Ythmaggcfghjmfaa.Ev
set_option linter.unusedVariables false
set_option linter.unusedSimpArgs false
def Nd.none:Nd:=⟨0,⟨#[]⟩,⟨#[]⟩,[],[]⟩
def cQ (L:List Nd) (i:Nat):Nd:=L.getD i Nd.none
def par (L:List Nd) (i:Nat):Int:=(cQ L i).parent
def iC (L:List Nd) (m e:Nat):List Nat:=(List.range m).filter fun j=>decide (0<j)&&decide (par L j=e)
def oT (L:List Nd) (e:Nat):List Nat:=(List.range e).filter fun j=>decide (0<j)&&decide (par L j=par L e)
def ra (l:List Nat):Int:=match l.getLast? with | some j=>j | none=>-1
def cS (L:List Nd) (e:Nat):Int:=(oT L e).length+1
def iG (L:List Nd) (e:Nat):Int:=ra (oT L e)
structure db (L:List Nd) (m:Nat) (d:List Nat):Prop where
 len:d.length=m
 le:m≤L.length
 root:0<m→par L 0=-1∧d[0]?=some 0
 step:∀ i,0<i→i<m→∃ p x:Nat,par L i=p∧p<i∧d[p]?=some x∧d[i]?=some (x+1)∧x+1≤256
theorem db.nil (L:List Nd):db L 0 []:=⟨rfl,Nat.zero_le _,fun h=>absurd h (Nat.lt_irrefl 0),fun i h0 h=>absurd h (Nat.not_lt_zero i)⟩
theorem db.first {L:List Nd} (hl:0<L.length) (h:par L 0=-1):db L 1 [0]:=⟨rfl,hl,fun _=>⟨h,rfl⟩,fun i h0 h=>by omega⟩
theorem db.next {L:List Nd} {m p x:Nat} {d:List Nat} (h:db L m d) (hm:0<m) (hl:m<L.length) (hp:par L m=p) (hlt:p<m) (hx:d[p]?=some x) (h256:x+1≤256):db L (m+1) (d++[x+1]):=by
 have hlen:=h.len
 refine ⟨by simp [hlen],hl,fun _=>⟨(h.root hm).1,?_⟩,fun i h0 hi=>?_⟩
 ·rw [List.getElem?_append_left (by omega)]; exact (h.root hm).2
 ·by_cases him:i<m
  ·obtain ⟨p',x',e1,e2,e3,e4,e5⟩:=h.step i h0 him
   exact ⟨p',x',e1,e2,by rw [List.getElem?_append_left (by omega)]; exact e3,by rw [List.getElem?_append_left (by omega)]; exact e4,e5⟩
  ·have:i=m:=by omega
   subst this
   exact ⟨p,x,hp,hlt,by rw [List.getElem?_append_left (by omega)]; exact hx,by rw [List.getElem?_append_right (by omega),hlen]; simp,h256⟩
theorem nh (L:List Nd) (m e:Nat):iC L (m+1) e=iC L m e++if 0<m∧par L m=e then [m] else []:=by
 unfold iC
 rw [List.range_succ,List.filter_append]
 congr 1
 by_cases h:0<m∧par L m=(e:Int)
 ·simp [h]
 ·rw [if_neg h]
  simp only [List.filter_cons,List.filter_nil]
  rw [if_neg (by simpa using h)]
theorem qQ {L:List Nd} {m p:Nat} (hp:par L m=p):iC L m p=oT L m:=by unfold iC oT; rw [hp]
theorem Eu {L:List Nd} {N:Nat} {d:List Nat} (hB:db L N d) {m:Nat} (hm:m≤N) {e:Nat} (he:m≤e+1):iC L m e=[]:=by
 unfold iC
 rw [List.filter_eq_nil_iff]
 intro j hj
 simp only [List.mem_range] at hj
 simp only [Bool.and_eq_true,decide_eq_true_eq,not_and]
 intro h0 h1
 obtain ⟨p,x,e1,e2,_⟩:=hB.step j h0 (by omega)
 rw [e1] at h1
 omega
def gk (L:List Nd) (d:List Nat) (i:Nat) (c:AV) (low:Nd→Nd):List AV:=bz (low (cQ L i))++[c,I (d.getD i 0),I (cS L i),I (iG L i)]
@[simp] theorem AW (L:List Nd) (d:List Nat) (i:Nat) (c:AV) (low:Nd→Nd):(gk L d i c low).length=9:=rfl
def dM (L:List Nd) (d:List Nat) (ch:List AV) (low:Nd→Nd):List (List AV):=ch.mapIdx fun i c=>gk L d i c low
theorem eI (L:List Nd) (d:List Nat) (ch:List AV) (low:Nd→Nd):(dM L d ch low).length=ch.length:=by simp [dM]
theorem my {L:List Nd} {d:List Nat} {ch:List AV} {low:Nd→Nd}:∀ row ∈ dM L d ch low,row.length=9:=by
 intro row h
 unfold dM at h
 obtain ⟨i,hi,rfl⟩:=List.mem_mapIdx.1 h
 rfl
theorem nb {L:List Nd} {d:List Nat} {ch:List AV} {low:Nd→Nd} {k:Nat} {c:AV} (h:ch[k]?=some c):(dM L d ch low)[k]?=some (gk L d k c low):=by
 unfold dM
 rw [List.getElem?_mapIdx,h]; rfl
theorem wK {L:List Nd} {d:List Nat} {ch:List AV} {low:Nd→Nd} {k:Nat} {c':AV}:dM L d (ch.set k c') low=(dM L d ch low).set k (gk L d k c' low):=by
 apply List.ext_getElem?
 intro i
 unfold dM
 rw [List.getElem?_mapIdx,List.getElem?_set,List.getElem?_set,List.getElem?_mapIdx]
 by_cases hi:k=i
 ·subst hi
  simp only [if_true,List.length_mapIdx]
  by_cases hk:k<ch.length
  ·simp [hk]
  ·simp [hk]
 ·simp [hi]
theorem xB {L:List Nd} {d:List Nat} {ch:List AV} {low:Nd→Nd} {c:AV}:dM L d (ch++[c]) low=dM L d ch low++[gk L d ch.length c low]:=by
 simp [dM,List.mapIdx_append]
theorem uF {L:List Nd} {d:List Nat} {ch:List AV} {low:Nd→Nd} {k:Nat} {c:AV} (h:ch[k]?=some c):∃ r,(dM L d ch low).flatten.drop (k*9)=gk L d k c low++r:=by
 have hk:=(List.getElem?_eq_some_iff.1 h).1
 have e:=nb (L:=L) (d:=d) (low:=low) h
 have hk':k<(dM L d ch low).length:=by rw [eI]; exact hk
 refine ⟨((dM L d ch low).drop (k+1)).flatten,?_⟩
 rw [jz my hk']
 congr 1
 rw [List.getElem?_eq_getElem hk'] at e
 exact Option.some.inj e
theorem kP {L:List Nd} {d:List Nat} {ch:List AV} {low:Nd→Nd} {k:Nat} {c:AV} (h:ch[k]?=some c) (j:Nat) (hj:j≤9):∃ r,(dM L d ch low).flatten.drop (k*9+j)=(gk L d k c low).drop j++r:=by
 obtain ⟨r,e⟩:=uF (L:=L) (d:=d) (low:=low) h
 refine ⟨r,?_⟩
 rw [← List.drop_drop,e,List.drop_append_of_le_length (by simpa using hj)]
theorem xo {L:List Nd} {d:List Nat} {ch:List AV} {low:Nd→Nd} {k:Nat} {c c':AV} (h:ch[k]?=some c):bM (dM L d ch low).flatten (k*9+5) [c']=(dM L d (ch.set k c') low).flatten:=by
 have hk:=(List.getElem?_eq_some_iff.1 h).1
 have hk':k<(dM L d ch low).length:=by rw [eI]; exact hk
 rw [io (sz:=9) (by simp) my hk',wK]
 congr 2
 have e:=nb (L:=L) (d:=d) (low:=low) h
 rw [List.getElem?_eq_getElem hk'] at e
 rw [Option.some.inj e]
 rfl
end Go.Proofs.Ythmaggcfghjmfaa.Ev
namespace Go.Proofs.Ythmaggcfghjmfaa.Ev
set_option linter.unusedVariables false
set_option linter.unusedSimpArgs false
abbrev tl (s:ByteArray):List UInt8:=s.data.toList
def mk (l:List UInt8):ByteArray:=⟨l.toArray⟩
@[simp] theorem nX (l:List UInt8):tl (mk l)=l:=by simp [tl,mk]
@[simp] theorem Az (s:ByteArray):mk (tl s)=s:=by simp [tl,mk]
theorem uX {a b:List UInt8} (h:mk a=mk b):a=b:=by rw [← nX a,h,nX]
theorem gF (s:ByteArray):(tl s).length=s.data.size:=by simp [tl]
theorem DL (l:List UInt8):(mk l).data.size=l.length:=by simp [mk]
theorem u4 {s:ByteArray} {k:Nat} {c:UInt8} (h:(tl s)[k]?=some c):gv (Sx s) (I (k:Int))=some (.lit (.int .u8 c.toNat)):=by
 simp only [gv,jx]
 simp [h]
theorem vF {s:ByteArray} {b:Nat} (h2:b≤s.data.size):gu (Sx s) none (some (I (b:Int)))=some (Sx (mk ((tl s).take b))):=by
 have h3:b≤s.size:=h2
 simp [gu,nE,jx,cL,eM,kD,mk,tl,h3]
theorem vQ {s:ByteArray} {a:Nat} (h1:a≤s.data.size):gu (Sx s) (some (I (a:Int))) none=some (Sx (mk ((tl s).drop a))):=by
 have h3:a≤s.size:=h1
 simp [gu,nE,jx,cL,eM,kD,mk,tl,h3]
 exact List.take_of_length_le (by simp)
theorem HA {a b:ByteArray} (h:a.data.size+b.data.size≤9223372036854775807):af .add (Sx a) (Sx b)=some (Sx (mk (tl a++tl b))):=by
 have e:a.data++b.data=(a.data.toList++b.data.toList).toArray:=by
  apply Array.ext'
  simp
 have h3:a.size+b.size≤9223372036854775807:=h
 simp [af,lit?,eF,rZ,h3,mk,tl,e]
def sM (s p:List UInt8):Bool:=p.isPrefixOf s
def uZ (s p:List UInt8):Bool:=p.isSuffixOf s
theorem Cs (s p:List UInt8) (h:p.length≤s.length):decide (mk (s.take p.length)=mk p)=sM s p:=by
 have:=Go.Lib.hasPrefix_of_take s p
 simp only [h,decide_true,Bool.true_and,Go.Lib.hasPrefix] at this
 unfold sM
 rw [← this]
 by_cases e:s.take p.length=p
 ·simp [e]
 ·have:¬ (mk (s.take p.length)=mk p):=fun h=>e (uX h)
  simp [e,this]
theorem BH (s p:List UInt8) (h:p.length≤s.length):decide (mk (s.drop (s.length - p.length))=mk p)=uZ s p:=by
 have:=Go.Lib.hasSuffix_of_drop s p
 simp only [h,decide_true,Bool.true_and,Go.Lib.hasSuffix] at this
 unfold uZ
 rw [← this]
 by_cases e:s.drop (s.length - p.length)=p
 ·simp [e]
 ·have:¬ (mk (s.drop (s.length - p.length))=mk p):=fun h=>e (uX h)
  simp [e,this]
theorem As {s p:List UInt8} (h:s.length<p.length):sM s p=false:=by
 have:=Go.Lib.hasPrefix_of_take s p
 rw [show decide (p.length≤s.length)=false by simp; omega] at this
 simpa [sM,Go.Lib.hasPrefix] using this.symm
theorem yF {s p:List UInt8} (h:s.length<p.length):uZ s p=false:=by
 have:=Go.Lib.hasSuffix_of_drop s p
 rw [show decide (p.length≤s.length)=false by simp; omega] at this
 simpa [uZ,Go.Lib.hasSuffix] using this.symm
def wht (c:UInt8):Bool:=c.toNat == 9||(c.toNat == 10||(c.toNat == 12||(c.toNat == 13||c.toNat == 32)))
def nw (c:UInt8):Bool:=!wht c
def wl (l:List UInt8):Nat:=(l.takeWhile nw).length
theorem FK:∀ (l:List UInt8),wl l≤l.length
 | []=>Nat.le_refl _
 | c::l=>by
  unfold wl
  rw [List.takeWhile_cons]
  split
  ·have:=FK l; unfold wl at this; simp; exact this
  ·simp
theorem FM:∀ {l:List UInt8} {k:Nat},k<wl l→∃ c,l[k]?=some c∧wht c=false
 | [],k,h=>by simp [wl] at h
 | c::l,k,h=>by
  unfold wl at h
  rw [List.takeWhile_cons] at h
  split at h
  ·rename_i hc
   cases k with
   | zero=>exact ⟨c,rfl,by simpa [nw] using hc⟩
   | succ k=>exact FM (l:=l) (by unfold wl; simpa using h)
  ·simp at h
theorem FG:∀ {l:List UInt8} {c:UInt8},l[wl l]?=some c→wht c=true
 | [],c,h=>by simp at h
 | d::l,c,h=>by
  unfold wl at h
  rw [List.takeWhile_cons] at h
  split at h
  ·exact FG (l:=l) (by unfold wl; simpa using h)
  ·rename_i hc
   simp at h
   subst h
   simpa [nw] using hc
def kx:Nat→List UInt8→List (List UInt8)
 | 0,_=>[]
 | f+1,l=>if l=[] then [] else if wl l=0 then kx f (l.drop 1) else l.take (wl l)::kx f (l.drop (wl l+1))
theorem kW:∀ (f g:Nat) (l:List UInt8),l.length<f→l.length<g→kx f l=kx g l
 | 0,g,l,h,_=>by omega
 | f+1,0,l,_,h=>by omega
 | f+1,g+1,l,h1,h2=>by
  unfold kx
  by_cases hl:l=[]
  ·rw [if_pos hl,if_pos hl]
  ·have hpos:0<l.length:=List.length_pos_iff.2 hl
   rw [if_neg hl,if_neg hl,kW f g (l.drop 1) (by simp; omega) (by simp; omega),kW f g (l.drop (wl l+1)) (by simp; omega) (by simp; omega)]
def kU (l:List UInt8):List (List UInt8):=kx (l.length+1) l
theorem uv:kU []=[]:=rfl
theorem wV {l:List UInt8} (hl:l≠[]):kU l=if wl l=0 then kU (l.drop 1) else l.take (wl l)::kU (l.drop (wl l+1)):=by
 have hpos:0<l.length:=List.length_pos_iff.2 hl
 show kx (l.length+1) l=_
 unfold kx
 rw [if_neg hl]
 unfold kU
 rw [kW l.length ((l.drop 1).length+1) (l.drop 1) (by simp; omega) (by simp),kW l.length ((l.drop (wl l+1)).length+1) (l.drop (wl l+1)) (by simp; omega) (by simp)]
end Go.Proofs.Ythmaggcfghjmfaa.Ev
namespace Go.Proofs.Ythmaggcfghjmfaa.Ev
set_option maxRecDepth 100000
set_option maxHeartbeats 4000000
noncomputable def ti1:TI:=⟨.func,1,8,[.nilFunc]⟩
theorem Gx:aO Try.prog 1=some ti1:=by kernel_rfl
noncomputable def ti2:TI:=⟨.int .i64,1,8,[.int .i64 0]⟩
theorem GR:aO Try.prog 2=some ti2:=by kernel_rfl
noncomputable def ti3:TI:=⟨.int .i64,1,8,[.int .i64 0]⟩
theorem HN:aO Try.prog 3=some ti3:=by kernel_rfl
noncomputable def ti4:TI:=⟨.bool,1,1,[.bool false]⟩
theorem IH:aO Try.prog 4=some ti4:=by kernel_rfl
noncomputable def ti5:TI:=⟨.int .u8,1,1,[.int .u8 0]⟩
theorem HJ:aO Try.prog 5=some ti5:=by kernel_rfl
noncomputable def ti6:TI:=⟨.int .u8,1,1,[.int .u8 0]⟩
theorem In:aO Try.prog 6=some ti6:=by kernel_rfl
noncomputable def ti7:TI:=⟨.struct [(0,2),(1,3),(2,4),(3,6)],4,24,[.int .i64 0,.int .i64 0,.bool false,.int .u8 0]⟩
theorem Hg:aO Try.prog 7=some ti7:=by kernel_rfl
noncomputable def ti8:TI:=⟨.struct [(0,2),(1,3),(2,4),(3,6)],4,24,[.int .i64 0,.int .i64 0,.bool false,.int .u8 0]⟩
theorem Ik:aO Try.prog 8=some ti8:=by kernel_rfl
noncomputable def ti9:TI:=⟨.string,1,16,[.string ⟨#[]⟩]⟩
theorem Hj:aO Try.prog 9=some ti9:=by kernel_rfl
noncomputable def F7:TI:=⟨.string,1,16,[.string ⟨#[]⟩]⟩
theorem Er:aO Try.prog 10=some F7:=by kernel_rfl
noncomputable def GW:TI:=⟨.string,1,16,[.string ⟨#[]⟩]⟩
theorem EX:aO Try.prog 11=some GW:=by kernel_rfl
noncomputable def Gg:TI:=⟨.int .u64,1,8,[.int .u64 0]⟩
theorem EW:aO Try.prog 12=some Gg:=by kernel_rfl
noncomputable def Gv:TI:=⟨.struct [(0,9),(1,12)],2,24,[.string ⟨#[]⟩,.int .u64 0]⟩
theorem DT:aO Try.prog 13=some Gv:=by kernel_rfl
noncomputable def Ho:TI:=⟨.struct [(0,9),(1,12)],2,24,[.string ⟨#[]⟩,.int .u64 0]⟩
theorem Ft:aO Try.prog 14=some Ho:=by kernel_rfl
noncomputable def HY:TI:=⟨.ptr 166,1,8,[.pointer none]⟩
theorem Dn:aO Try.prog 15=some HY:=by kernel_rfl
noncomputable def GI:TI:=⟨.ptr 169,1,8,[.pointer none]⟩
theorem Fl:aO Try.prog 16=some GI:=by kernel_rfl
noncomputable def Gp:TI:=⟨.ptr 177,1,8,[.pointer none]⟩
theorem Em:aO Try.prog 17=some Gp:=by kernel_rfl
noncomputable def GA:TI:=⟨.struct [(0,17)],1,8,[.pointer none]⟩
theorem Dy:aO Try.prog 18=some GA:=by kernel_rfl
noncomputable def HZ:TI:=⟨.struct [(0,17)],1,8,[.pointer none]⟩
theorem Fk:aO Try.prog 19=some HZ:=by kernel_rfl
noncomputable def Gj:TI:=⟨.int .i32,1,4,[.int .i32 0]⟩
theorem ER:aO Try.prog 21=some Gj:=by kernel_rfl
noncomputable def Fx:TI:=⟨.slice 47,1,24,[.slice none 0 0]⟩
theorem C5:aO Try.prog 22=some Fx:=by kernel_rfl
noncomputable def Ih:TI:=⟨.slice 43,1,24,[.slice none 0 0]⟩
theorem D8:aO Try.prog 23=some Ih:=by kernel_rfl
noncomputable def Ie:TI:=⟨.struct [(0,23)],1,24,[.slice none 0 0]⟩
theorem E9:aO Try.prog 24=some Ie:=by kernel_rfl
noncomputable def HV:TI:=⟨.struct [(0,23)],1,24,[.slice none 0 0]⟩
theorem Ef:aO Try.prog 25=some HV:=by kernel_rfl
noncomputable def Gt:TI:=⟨.func,1,8,[.nilFunc]⟩
theorem D7:aO Try.prog 26=some Gt:=by kernel_rfl
noncomputable def Gm:TI:=⟨.func,1,8,[.nilFunc]⟩
theorem E7:aO Try.prog 27=some Gm:=by kernel_rfl
noncomputable def GB:TI:=⟨.slice 25,1,24,[.slice none 0 0]⟩
theorem Fy:aO Try.prog 28=some GB:=by kernel_rfl
noncomputable def Ib:TI:=⟨.ptr 90,1,8,[.pointer none]⟩
theorem DF:aO Try.prog 29=some Ib:=by kernel_rfl
noncomputable def Gb:TI:=⟨.ptr 87,1,8,[.pointer none]⟩
theorem DG:aO Try.prog 30=some Gb:=by kernel_rfl
noncomputable def F9:TI:=⟨.func,1,8,[.nilFunc]⟩
theorem Dt:aO Try.prog 32=some F9:=by kernel_rfl
noncomputable def GL:TI:=⟨.func,1,8,[.nilFunc]⟩
theorem Eo:aO Try.prog 33=some GL:=by kernel_rfl
noncomputable def Ig:TI:=⟨.func,1,8,[.nilFunc]⟩
theorem DB:aO Try.prog 34=some Ig:=by kernel_rfl
noncomputable def F4:TI:=⟨.func,1,8,[.nilFunc]⟩
theorem Es:aO Try.prog 35=some F4:=by kernel_rfl
noncomputable def HR:TI:=⟨.func,1,8,[.nilFunc]⟩
theorem Db:aO Try.prog 36=some HR:=by kernel_rfl
noncomputable def EM:TI:=⟨.slice 9,1,24,[.slice none 0 0]⟩
theorem Dc:aO Try.prog 37=some EM:=by kernel_rfl
noncomputable def Iu:TI:=⟨.slice 66,1,24,[.slice none 0 0]⟩
theorem Fj:aO Try.prog 38=some Iu:=by kernel_rfl
noncomputable def Gh:TI:=⟨.slice 49,1,24,[.slice none 0 0]⟩
theorem Ey:aO Try.prog 39=some Gh:=by kernel_rfl
noncomputable def If:TI:=⟨.struct [(0,9),(1,37),(2,37),(3,38),(4,39)],5,112,[.string ⟨#[]⟩,.slice none 0 0,.slice none 0 0,.slice none 0 0,.slice none 0 0]⟩
theorem Ds:aO Try.prog 40=some If:=by kernel_rfl
noncomputable def F3:TI:=⟨.struct [(0,9),(1,37),(2,37),(3,38),(4,39)],5,112,[.string ⟨#[]⟩,.slice none 0 0,.slice none 0 0,.slice none 0 0,.slice none 0 0]⟩
theorem EH:aO Try.prog 41=some F3:=by kernel_rfl
noncomputable def H_:TI:=⟨.struct [(0,3),(1,41)],6,120,[.int .i64 0,.string ⟨#[]⟩,.slice none 0 0,.slice none 0 0,.slice none 0 0,.slice none 0 0]⟩
theorem Df:aO Try.prog 42=some H_:=by kernel_rfl
noncomputable def Ht:TI:=⟨.struct [(0,3),(1,41)],6,120,[.int .i64 0,.string ⟨#[]⟩,.slice none 0 0,.slice none 0 0,.slice none 0 0,.slice none 0 0]⟩
theorem DA:aO Try.prog 43=some Ht:=by kernel_rfl
noncomputable def GE:TI:=⟨.func,1,8,[.nilFunc]⟩
theorem Ff:aO Try.prog 44=some GE:=by kernel_rfl
noncomputable def DS:TI:=⟨.slice 64,1,24,[.slice none 0 0]⟩
theorem EZ:aO Try.prog 45=some DS:=by kernel_rfl
noncomputable def GQ:TI:=⟨.struct [(0,3),(1,9),(2,9),(3,37),(4,45)],5,88,[.int .i64 0,.string ⟨#[]⟩,.string ⟨#[]⟩,.slice none 0 0,.slice none 0 0]⟩
theorem CO:aO Try.prog 46=some GQ:=by kernel_rfl
noncomputable def Fo:TI:=⟨.struct [(0,3),(1,9),(2,9),(3,37),(4,45)],5,88,[.int .i64 0,.string ⟨#[]⟩,.string ⟨#[]⟩,.slice none 0 0,.slice none 0 0]⟩
theorem Dg:aO Try.prog 47=some Fo:=by kernel_rfl
noncomputable def F8:TI:=⟨.struct [(0,3),(1,3),(2,3),(3,28)],4,48,[.int .i64 0,.int .i64 0,.int .i64 0,.slice none 0 0]⟩
theorem CQ:aO Try.prog 48=some F8:=by kernel_rfl
noncomputable def GC:TI:=⟨.struct [(0,3),(1,3),(2,3),(3,28)],4,48,[.int .i64 0,.int .i64 0,.int .i64 0,.slice none 0 0]⟩
theorem Fu:aO Try.prog 49=some GC:=by kernel_rfl
noncomputable def Hl:TI:=⟨.func,1,8,[.nilFunc]⟩
theorem C7:aO Try.prog 50=some Hl:=by kernel_rfl
noncomputable def GV:TI:=⟨.func,1,8,[.nilFunc]⟩
theorem Dj:aO Try.prog 51=some GV:=by kernel_rfl
noncomputable def It:TI:=⟨.func,1,8,[.nilFunc]⟩
theorem Eb:aO Try.prog 52=some It:=by kernel_rfl
noncomputable def HF:TI:=⟨.func,1,8,[.nilFunc]⟩
theorem EV:aO Try.prog 53=some HF:=by kernel_rfl
noncomputable def G_:TI:=⟨.func,1,8,[.nilFunc]⟩
theorem Dm:aO Try.prog 54=some G_:=by kernel_rfl
noncomputable def HB:TI:=⟨.func,1,8,[.nilFunc]⟩
theorem CW:aO Try.prog 55=some HB:=by kernel_rfl
noncomputable def GP:TI:=⟨.func,1,8,[.nilFunc]⟩
theorem Fh:aO Try.prog 56=some GP:=by kernel_rfl
noncomputable def HU:TI:=⟨.int .i64,1,8,[.int .i64 0]⟩
theorem DD:aO Try.prog 57=some HU:=by kernel_rfl
noncomputable def Gf:TI:=⟨.func,1,8,[.nilFunc]⟩
theorem Fq:aO Try.prog 59=some Gf:=by kernel_rfl
noncomputable def Hh:TI:=⟨.func,1,8,[.nilFunc]⟩
theorem En:aO Try.prog 61=some Hh:=by kernel_rfl
noncomputable def IF:TI:=⟨.func,1,8,[.nilFunc]⟩
theorem Dw:aO Try.prog 62=some IF:=by kernel_rfl
noncomputable def Gy:TI:=⟨.struct [(0,9),(1,9)],2,32,[.string ⟨#[]⟩,.string ⟨#[]⟩]⟩
theorem D0:aO Try.prog 63=some Gy:=by kernel_rfl
noncomputable def D3:TI:=⟨.struct [(0,9),(1,9)],2,32,[.string ⟨#[]⟩,.string ⟨#[]⟩]⟩
theorem C9:aO Try.prog 64=some D3:=by kernel_rfl
noncomputable def Hn:TI:=⟨.struct [(0,9),(1,3),(2,9)],3,40,[.string ⟨#[]⟩,.int .i64 0,.string ⟨#[]⟩]⟩
theorem C6:aO Try.prog 65=some Hn:=by kernel_rfl
noncomputable def Iz:TI:=⟨.struct [(0,9),(1,3),(2,9)],3,40,[.string ⟨#[]⟩,.int .i64 0,.string ⟨#[]⟩]⟩
theorem DK:aO Try.prog 66=some Iz:=by kernel_rfl
noncomputable def Id:TI:=⟨.func,1,8,[.nilFunc]⟩
theorem E4:aO Try.prog 67=some Id:=by kernel_rfl
noncomputable def Hk:TI:=⟨.slice 3,1,24,[.slice none 0 0]⟩
theorem CP:aO Try.prog 68=some Hk:=by kernel_rfl
noncomputable def Hs:TI:=⟨.func,1,8,[.nilFunc]⟩
theorem EC:aO Try.prog 69=some Hs:=by kernel_rfl
noncomputable def IE:TI:=⟨.slice 4,1,24,[.slice none 0 0]⟩
theorem Da:aO Try.prog 70=some IE:=by kernel_rfl
noncomputable def Gw:TI:=⟨.func,1,8,[.nilFunc]⟩
theorem DI:aO Try.prog 71=some Gw:=by kernel_rfl
noncomputable def HP:TI:=⟨.func,1,8,[.nilFunc]⟩
theorem DY:aO Try.prog 72=some HP:=by kernel_rfl
noncomputable def He:TI:=⟨.func,1,8,[.nilFunc]⟩
theorem EP:aO Try.prog 73=some He:=by kernel_rfl
noncomputable def Ha:TI:=⟨.func,1,8,[.nilFunc]⟩
theorem CL:aO Try.prog 74=some Ha:=by kernel_rfl
noncomputable def Hz:TI:=⟨.func,1,8,[.nilFunc]⟩
theorem CM:aO Try.prog 75=some Hz:=by kernel_rfl
noncomputable def Gq:TI:=⟨.func,1,8,[.nilFunc]⟩
theorem CY:aO Try.prog 76=some Gq:=by kernel_rfl
noncomputable def IB:TI:=⟨.func,1,8,[.nilFunc]⟩
theorem CU:aO Try.prog 77=some IB:=by kernel_rfl
noncomputable def Io:TI:=⟨.func,1,8,[.nilFunc]⟩
theorem D6:aO Try.prog 79=some Io:=by kernel_rfl
noncomputable def GF:TI:=⟨.slice 108,1,24,[.slice none 0 0]⟩
theorem E_:aO Try.prog 80=some GF:=by kernel_rfl
noncomputable def Hb:TI:=⟨.func,1,8,[.nilFunc]⟩
theorem DV:aO Try.prog 81=some Hb:=by kernel_rfl
noncomputable def Iv:TI:=⟨.func,1,8,[.nilFunc]⟩
theorem DZ:aO Try.prog 82=some Iv:=by kernel_rfl
noncomputable def Ix:TI:=⟨.slice 5,1,24,[.slice none 0 0]⟩
theorem DW:aO Try.prog 83=some Ix:=by kernel_rfl
noncomputable def F5:TI:=⟨.func,1,8,[.nilFunc]⟩
theorem EL:aO Try.prog 84=some F5:=by kernel_rfl
noncomputable def Gd:TI:=⟨.func,1,8,[.nilFunc]⟩
theorem CR:aO Try.prog 85=some Gd:=by kernel_rfl
noncomputable def IG:TI:=⟨.struct [(0,22),(1,68)],2,48,[.slice none 0 0,.slice none 0 0]⟩
theorem EJ:aO Try.prog 86=some IG:=by kernel_rfl
noncomputable def GJ:TI:=⟨.struct [(0,22),(1,68)],2,48,[.slice none 0 0,.slice none 0 0]⟩
theorem Ek:aO Try.prog 87=some GJ:=by kernel_rfl
noncomputable def Hi:TI:=⟨.slice 115,1,24,[.slice none 0 0]⟩
theorem DR:aO Try.prog 88=some Hi:=by kernel_rfl
noncomputable def GX:TI:=⟨.struct [(0,88)],1,24,[.slice none 0 0]⟩
theorem Dx:aO Try.prog 89=some GX:=by kernel_rfl
noncomputable def Is:TI:=⟨.struct [(0,88)],1,24,[.slice none 0 0]⟩
theorem E6:aO Try.prog 90=some Is:=by kernel_rfl
noncomputable def F6:TI:=⟨.func,1,8,[.nilFunc]⟩
theorem EG:aO Try.prog 91=some F6:=by kernel_rfl
noncomputable def HT:TI:=⟨.func,1,8,[.nilFunc]⟩
theorem Fi:aO Try.prog 92=some HT:=by kernel_rfl
noncomputable def F_:TI:=⟨.func,1,8,[.nilFunc]⟩
theorem ED:aO Try.prog 93=some F_:=by kernel_rfl
noncomputable def Hv:TI:=⟨.ptr 122,1,8,[.pointer none]⟩
theorem DQ:aO Try.prog 94=some Hv:=by kernel_rfl
noncomputable def Gn:TI:=⟨.func,1,8,[.nilFunc]⟩
theorem FA:aO Try.prog 95=some Gn:=by kernel_rfl
noncomputable def IC:TI:=⟨.func,1,8,[.nilFunc]⟩
theorem DH:aO Try.prog 96=some IC:=by kernel_rfl
noncomputable def Gr:TI:=⟨.func,1,8,[.nilFunc]⟩
theorem DJ:aO Try.prog 97=some Gr:=by kernel_rfl
noncomputable def HD:TI:=⟨.func,1,8,[.nilFunc]⟩
theorem Dr:aO Try.prog 98=some HD:=by kernel_rfl
noncomputable def HO:TI:=⟨.func,1,8,[.nilFunc]⟩
theorem Dh:aO Try.prog 99=some HO:=by kernel_rfl
noncomputable def yf:TI:=⟨.ptr 102,1,8,[.pointer none]⟩
theorem Ay:aO Try.prog 100=some yf:=by kernel_rfl
noncomputable def zg:TI:=⟨.struct [(0,80),(1,3),(2,4),(3,3)],4,48,[.slice none 0 0,.int .i64 0,.bool false,.int .i64 0]⟩
theorem Ck:aO Try.prog 101=some zg:=by kernel_rfl
noncomputable def CJ:TI:=⟨.struct [(0,80),(1,3),(2,4),(3,3)],4,48,[.slice none 0 0,.int .i64 0,.bool false,.int .i64 0]⟩
theorem zT:aO Try.prog 102=some CJ:=by kernel_rfl
noncomputable def yX:TI:=⟨.func,1,8,[.nilFunc]⟩
theorem zv:aO Try.prog 103=some yX:=by kernel_rfl
noncomputable def yW:TI:=⟨.ptr 106,1,8,[.pointer none]⟩
theorem Ad:aO Try.prog 104=some yW:=by kernel_rfl
noncomputable def Bu:TI:=⟨.struct [(0,68),(1,3)],2,32,[.slice none 0 0,.int .i64 0]⟩
theorem zA:aO Try.prog 105=some Bu:=by kernel_rfl
noncomputable def zh:TI:=⟨.struct [(0,68),(1,3)],2,32,[.slice none 0 0,.int .i64 0]⟩
theorem yI:aO Try.prog 106=some zh:=by kernel_rfl
noncomputable def A9:TI:=⟨.struct [(0,3),(1,9),(2,3),(3,4),(4,3)],5,48,[.int .i64 0,.string ⟨#[]⟩,.int .i64 0,.bool false,.int .i64 0]⟩
theorem BK:aO Try.prog 107=some A9:=by kernel_rfl
noncomputable def A8:TI:=⟨.struct [(0,3),(1,9),(2,3),(3,4),(4,3)],5,48,[.int .i64 0,.string ⟨#[]⟩,.int .i64 0,.bool false,.int .i64 0]⟩
theorem xY:aO Try.prog 108=some A8:=by kernel_rfl
noncomputable def Cm:TI:=⟨.func,1,8,[.nilFunc]⟩
theorem Br:aO Try.prog 109=some Cm:=by kernel_rfl
noncomputable def Cu:TI:=⟨.func,1,8,[.nilFunc]⟩
theorem BA:aO Try.prog 110=some Cu:=by kernel_rfl
noncomputable def AX:TI:=⟨.func,1,8,[.nilFunc]⟩
theorem yB:aO Try.prog 111=some AX:=by kernel_rfl
noncomputable def CE:TI:=⟨.func,1,8,[.nilFunc]⟩
theorem zo:aO Try.prog 112=some CE:=by kernel_rfl
noncomputable def zX:TI:=⟨.func,1,8,[.nilFunc]⟩
theorem AG:aO Try.prog 113=some zX:=by kernel_rfl
noncomputable def zq:TI:=⟨.struct [(0,47),(5,68),(6,3),(7,3),(8,3)],9,136,[.int .i64 0,.string ⟨#[]⟩,.string ⟨#[]⟩,.slice none 0 0,.slice none 0 0,.slice none 0 0,.int .i64 0,.int .i64 0,.int .i64 0]⟩
theorem zE:aO Try.prog 114=some zq:=by kernel_rfl
noncomputable def zK:TI:=⟨.struct [(0,47),(5,68),(6,3),(7,3),(8,3)],9,136,[.int .i64 0,.string ⟨#[]⟩,.string ⟨#[]⟩,.slice none 0 0,.slice none 0 0,.slice none 0 0,.int .i64 0,.int .i64 0,.int .i64 0]⟩
theorem zC:aO Try.prog 115=some zK:=by kernel_rfl
noncomputable def B1:TI:=⟨.ptr 115,1,8,[.pointer none]⟩
theorem B9:aO Try.prog 116=some B1:=by kernel_rfl
noncomputable def Ax:TI:=⟨.func,1,8,[.nilFunc]⟩
theorem By:aO Try.prog 117=some Ax:=by kernel_rfl
noncomputable def Aj:TI:=⟨.func,1,8,[.nilFunc]⟩
theorem ym:aO Try.prog 118=some Aj:=by kernel_rfl
noncomputable def zn:TI:=⟨.map 139 4,1,8,[.map none]⟩
theorem zH:aO Try.prog 119=some zn:=by kernel_rfl
noncomputable def BT:TI:=⟨.slice 123,1,24,[.slice none 0 0]⟩
theorem yp:aO Try.prog 120=some BT:=by kernel_rfl
noncomputable def BO:TI:=⟨.struct [(0,29),(1,120),(2,119)],3,40,[.pointer none,.slice none 0 0,.map none]⟩
theorem xS:aO Try.prog 121=some BO:=by kernel_rfl
noncomputable def Aa:TI:=⟨.struct [(0,29),(1,120),(2,119)],3,40,[.pointer none,.slice none 0 0,.map none]⟩
theorem Cd:aO Try.prog 122=some Aa:=by kernel_rfl
noncomputable def Cx:TI:=⟨.slice 126,1,24,[.slice none 0 0]⟩
theorem Bx:aO Try.prog 123=some Cx:=by kernel_rfl
noncomputable def zi:TI:=⟨.slice 68,1,24,[.slice none 0 0]⟩
theorem zp:aO Try.prog 124=some zi:=by kernel_rfl
noncomputable def yN:TI:=⟨.struct [(0,43),(6,124)],7,144,[.int .i64 0,.string ⟨#[]⟩,.slice none 0 0,.slice none 0 0,.slice none 0 0,.slice none 0 0,.slice none 0 0]⟩
theorem Bc:aO Try.prog 125=some yN:=by kernel_rfl
noncomputable def Be:TI:=⟨.struct [(0,43),(6,124)],7,144,[.int .i64 0,.string ⟨#[]⟩,.slice none 0 0,.slice none 0 0,.slice none 0 0,.slice none 0 0,.slice none 0 0]⟩
theorem Ag:aO Try.prog 126=some Be:=by kernel_rfl
noncomputable def yG:TI:=⟨.func,1,8,[.nilFunc]⟩
theorem yj:aO Try.prog 127=some yG:=by kernel_rfl
noncomputable def AQ:TI:=⟨.func,1,8,[.nilFunc]⟩
theorem A1:aO Try.prog 128=some AQ:=by kernel_rfl
noncomputable def Ap:TI:=⟨.func,1,8,[.nilFunc]⟩
theorem yq:aO Try.prog 129=some Ap:=by kernel_rfl
noncomputable def yS:TI:=⟨.func,1,8,[.nilFunc]⟩
theorem yP:aO Try.prog 131=some yS:=by kernel_rfl
noncomputable def BV:TI:=⟨.func,1,8,[.nilFunc]⟩
theorem AK:aO Try.prog 133=some BV:=by kernel_rfl
noncomputable def yQ:TI:=⟨.func,1,8,[.nilFunc]⟩
theorem zx:aO Try.prog 134=some yQ:=by kernel_rfl
noncomputable def xN:TI:=⟨.func,1,8,[.nilFunc]⟩
theorem zl:aO Try.prog 135=some xN:=by kernel_rfl
noncomputable def zw:TI:=⟨.func,1,8,[.nilFunc]⟩
theorem A0:aO Try.prog 136=some zw:=by kernel_rfl
noncomputable def zj:TI:=⟨.func,1,8,[.nilFunc]⟩
theorem B6:aO Try.prog 137=some zj:=by kernel_rfl
noncomputable def yv:TI:=⟨.struct [(0,3),(1,3),(2,3),(3,4)],4,32,[.int .i64 0,.int .i64 0,.int .i64 0,.bool false]⟩
theorem AU:aO Try.prog 138=some yv:=by kernel_rfl
noncomputable def x_:TI:=⟨.struct [(0,3),(1,3),(2,3),(3,4)],4,32,[.int .i64 0,.int .i64 0,.int .i64 0,.bool false]⟩
theorem zc:aO Try.prog 139=some x_:=by kernel_rfl
noncomputable def AR:TI:=⟨.func,1,8,[.nilFunc]⟩
theorem yi:aO Try.prog 140=some AR:=by kernel_rfl
noncomputable def Ah:TI:=⟨.func,1,8,[.nilFunc]⟩
theorem yw:aO Try.prog 141=some Ah:=by kernel_rfl
noncomputable def yT:TI:=⟨.int .u64,1,8,[.int .u64 0]⟩
theorem BM:aO Try.prog 142=some yT:=by kernel_rfl
noncomputable def yR:TI:=⟨.func,1,8,[.nilFunc]⟩
theorem Bn:aO Try.prog 143=some yR:=by kernel_rfl
noncomputable def z8:TI:=⟨.func,1,8,[.nilFunc]⟩
theorem BP:aO Try.prog 144=some z8:=by kernel_rfl
noncomputable def BI:TI:=⟨.func,1,8,[.nilFunc]⟩
theorem yx:aO Try.prog 145=some BI:=by kernel_rfl
noncomputable def xT:TI:=⟨.func,1,8,[.nilFunc]⟩
theorem AZ:aO Try.prog 147=some xT:=by kernel_rfl
noncomputable def Cn:TI:=⟨.func,1,8,[.nilFunc]⟩
theorem Bi:aO Try.prog 148=some Cn:=by kernel_rfl
noncomputable def yb:TI:=⟨.func,1,8,[.nilFunc]⟩
theorem A7:aO Try.prog 149=some yb:=by kernel_rfl
noncomputable def Ca:TI:=⟨.func,1,8,[.nilFunc]⟩
theorem yH:aO Try.prog 150=some Ca:=by kernel_rfl
noncomputable def Ch:TI:=⟨.int .u64,1,8,[.int .u64 0]⟩
theorem BL:aO Try.prog 151=some Ch:=by kernel_rfl
noncomputable def Cf:TI:=⟨.func,1,8,[.nilFunc]⟩
theorem BU:aO Try.prog 152=some Cf:=by kernel_rfl
noncomputable def AO:TI:=⟨.func,1,8,[.nilFunc]⟩
theorem za:aO Try.prog 153=some AO:=by kernel_rfl
noncomputable def AP:TI:=⟨.func,1,8,[.nilFunc]⟩
theorem Bg:aO Try.prog 154=some AP:=by kernel_rfl
noncomputable def BF:TI:=⟨.func,1,8,[.nilFunc]⟩
theorem yJ:aO Try.prog 155=some BF:=by kernel_rfl
noncomputable def Cg:TI:=⟨.func,1,8,[.nilFunc]⟩
theorem zd:aO Try.prog 156=some Cg:=by kernel_rfl
noncomputable def xU:TI:=⟨.func,1,8,[.nilFunc]⟩
theorem B_:aO Try.prog 157=some xU:=by kernel_rfl
noncomputable def BC:TI:=⟨.func,1,8,[.nilFunc]⟩
theorem yY:aO Try.prog 158=some BC:=by kernel_rfl
noncomputable def CF:TI:=⟨.func,1,8,[.nilFunc]⟩
theorem zJ:aO Try.prog 159=some CF:=by kernel_rfl
noncomputable def CI:TI:=⟨.func,1,8,[.nilFunc]⟩
theorem zy:aO Try.prog 160=some CI:=by kernel_rfl
noncomputable def CG:TI:=⟨.func,1,8,[.nilFunc]⟩
theorem A4:aO Try.prog 161=some CG:=by kernel_rfl
noncomputable def BJ:TI:=⟨.int .u32,1,4,[.int .u32 0]⟩
theorem AT:aO Try.prog 162=some BJ:=by kernel_rfl
noncomputable def Ao:TI:=⟨.func,1,8,[.nilFunc]⟩
theorem AL:aO Try.prog 164=some Ao:=by kernel_rfl
noncomputable def BS:TI:=⟨.struct [(0,17),(1,17),(2,17),(3,9)],4,40,[.pointer none,.pointer none,.pointer none,.string ⟨#[]⟩]⟩
theorem yV:aO Try.prog 165=some BS:=by kernel_rfl
noncomputable def zZ:TI:=⟨.struct [(0,17),(1,17),(2,17),(3,9)],4,40,[.pointer none,.pointer none,.pointer none,.string ⟨#[]⟩]⟩
theorem xQ:aO Try.prog 166=some zZ:=by kernel_rfl
noncomputable def Ae:TI:=⟨.array 0 16,0,0,[]⟩
theorem Bj:aO Try.prog 167=some Ae:=by kernel_rfl
noncomputable def Bw:TI:=⟨.struct [(0,167)],0,0,[]⟩
theorem Bb:aO Try.prog 168=some Bw:=by kernel_rfl
noncomputable def Bp:TI:=⟨.struct [(0,167)],0,0,[]⟩
theorem yO:aO Try.prog 169=some Bp:=by kernel_rfl
noncomputable def BZ:TI:=⟨.int .u8,1,1,[.int .u8 0]⟩
theorem yM:aO Try.prog 170=some BZ:=by kernel_rfl
noncomputable def yD:TI:=⟨.int .u8,1,1,[.int .u8 0]⟩
theorem BB:aO Try.prog 171=some yD:=by kernel_rfl
noncomputable def Co:TI:=⟨.func,1,8,[.nilFunc]⟩
theorem AI:aO Try.prog 172=some Co:=by kernel_rfl
noncomputable def CB:TI:=⟨.ptr 5,1,8,[.pointer none]⟩
theorem BN:aO Try.prog 173=some CB:=by kernel_rfl
noncomputable def Bt:TI:=⟨.int .i32,1,4,[.int .i32 0]⟩
theorem xX:aO Try.prog 174=some Bt:=by kernel_rfl
noncomputable def Cj:TI:=⟨.int .i32,1,4,[.int .i32 0]⟩
theorem yo:aO Try.prog 175=some Cj:=by kernel_rfl
noncomputable def Ar:TI:=⟨.struct [(0,12),(1,12),(2,162),(3,170),(4,5),(5,5),(6,171),(7,172),(8,173),(9,174),(10,175)],11,48,[.int .u64 0,.int .u64 0,.int .u32 0,.int .u8 0,.int .u8 0,.int .u8 0,.int .u8 0,.nilFunc,.pointer none,.int .i32 0,.int .i32 0]⟩
theorem yg:aO Try.prog 176=some Ar:=by kernel_rfl
noncomputable def AD:TI:=⟨.struct [(0,12),(1,12),(2,162),(3,170),(4,5),(5,5),(6,171),(7,172),(8,173),(9,174),(10,175)],11,48,[.int .u64 0,.int .u64 0,.int .u32 0,.int .u8 0,.int .u8 0,.int .u8 0,.int .u8 0,.nilFunc,.pointer none,.int .i32 0,.int .i32 0]⟩
theorem zU:aO Try.prog 177=some AD:=by kernel_rfl
noncomputable def tiT:Tr TI:=.node none (.node (some ti1) (.node (some ti3) (.node (some ti7) (.node (some HY) (.node none (.node (some Gy) (.node (some yG) .leaf .leaf) .leaf) (.node (some Gn) (.node (some CF) .leaf .leaf) .leaf)) (.node (some Fo) (.node (some Io) (.node (some yR) .leaf .leaf) .leaf) (.node (some AX) (.node (some Cj) .leaf .leaf) .leaf))) (.node (some Ih) (.node (some Gh) (.node (some Gw) (.node (some xN) .leaf .leaf) .leaf) (.node (some yX) (.node (some Ae) .leaf .leaf) .leaf)) (.node (some HB) (.node (some GJ) (.node (some Ch) .leaf .leaf) .leaf) (.node (some zn) .leaf .leaf)))) (.node (some GW) (.node (some HZ) (.node (some F4) (.node (some Id) (.node (some yS) .leaf .leaf) .leaf) (.node (some HO) .leaf .leaf)) (.node (some GV) (.node (some Ix) (.node (some xT) .leaf .leaf) .leaf) (.node (some zK) .leaf .leaf))) (.node (some Gm) (.node (some Ht) (.node (some Hz) (.node (some x_) .leaf .leaf) .leaf) (.node (some A9) (.node (some yD) .leaf .leaf) .leaf)) (.node (some Gf) (.node (some F6) (.node (some BF) .leaf .leaf) .leaf) (.node (some Cx) .leaf .leaf))))) (.node (some ti5) (.node (some ti9) (.node (some Gp) (.node (some GL) (.node (some Hn) (.node (some Ap) .leaf .leaf) .leaf) (.node (some Gr) (.node (some CG) .leaf .leaf) .leaf)) (.node (some GC) (.node (some Hb) (.node (some BI) .leaf .leaf) .leaf) (.node (some zX) (.node (some AD) .leaf .leaf) .leaf))) (.node (some HV) (.node (some F3) (.node (some He) (.node (some zj) .leaf .leaf) .leaf) (.node (some Bu) (.node (some Bp) .leaf .leaf) .leaf)) (.node (some HU) (.node (some GX) (.node (some AO) .leaf .leaf) .leaf) (.node (some BO) .leaf .leaf)))) (.node (some Gv) (.node (some Gj) (.node (some EM) (.node (some Hs) (.node (some BV) .leaf .leaf) .leaf) (.node (some zg) (.node (some BS) .leaf .leaf) .leaf)) (.node (some HF) (.node (some Gd) (.node (some yb) .leaf .leaf) .leaf) (.node (some Ax) .leaf .leaf))) (.node (some Ib) (.node (some DS) (.node (some IB) (.node (some Ah) .leaf .leaf) .leaf) (.node (some Cm) (.node (some CB) .leaf .leaf) .leaf)) (.node (some Hh) (.node (some F_) (.node (some xU) .leaf .leaf) .leaf) (.node (some yN) .leaf .leaf)))))) (.node (some ti2) (.node (some ti4) (.node (some ti8) (.node (some GI) (.node (some F9) (.node (some D3) (.node (some AQ) .leaf .leaf) .leaf) (.node (some IC) (.node (some CI) .leaf .leaf) .leaf)) (.node (some F8) (.node (some GF) (.node (some z8) .leaf .leaf) .leaf) (.node (some CE) (.node (some Ar) .leaf .leaf) .leaf))) (.node (some Ie) (.node (some If) (.node (some HP) (.node (some zw) .leaf .leaf) .leaf) (.node (some yW) (.node (some Bw) .leaf .leaf) .leaf)) (.node (some GP) (.node (some Hi) (.node (some Cf) .leaf .leaf) .leaf) (.node (some BT) .leaf .leaf)))) (.node (some Gg) (.node none (.node (some HR) (.node (some Hk) .leaf .leaf) (.node (some yf) (.node (some Ao) .leaf .leaf) .leaf)) (.node (some It) (.node (some F5) (.node (some Cn) .leaf .leaf) .leaf) (.node (some B1) .leaf .leaf))) (.node (some GB) (.node (some GE) (.node (some Gq) (.node (some AR) .leaf .leaf) .leaf) (.node (some A8) (.node (some Co) .leaf .leaf) .leaf)) (.node none (.node (some HT) (.node (some Cg) .leaf .leaf) .leaf) (.node (some zi) .leaf .leaf))))) (.node (some ti6) (.node (some F7) (.node (some GA) (.node (some Ig) (.node (some Iz) .leaf .leaf) (.node (some HD) (.node (some BJ) .leaf .leaf) .leaf)) (.node (some Hl) (.node (some Iv) .leaf .leaf) (.node (some zq) .leaf .leaf))) (.node (some Gt) (.node (some H_) (.node (some Ha) (.node (some yv) .leaf .leaf) .leaf) (.node (some zh) (.node (some BZ) .leaf .leaf) .leaf)) (.node none (.node (some Is) (.node (some AP) .leaf .leaf) .leaf) (.node (some Aa) .leaf .leaf)))) (.node (some Ho) (.node (some Fx) (.node (some Iu) (.node (some IE) (.node (some yQ) .leaf .leaf) .leaf) (.node (some CJ) (.node (some zZ) .leaf .leaf) .leaf)) (.node (some G_) (.node (some IG) (.node (some Ca) .leaf .leaf) .leaf) (.node (some Aj) .leaf .leaf))) (.node (some Gb) (.node (some GQ) (.node none (.node (some yT) .leaf .leaf) .leaf) (.node (some Cu) (.node (some Bt) .leaf .leaf) .leaf)) (.node (some IF) (.node (some Hv) (.node (some BC) .leaf .leaf) .leaf) (.node (some Be) .leaf .leaf))))))
theorem B4:tiT.toL=[(1,ti1),(3,ti3),(7,ti7),(15,HY),(63,Gy),(127,yG),(95,Gn),(159,CF),(47,Fo),(79,Io),(143,yR),(111,AX),(175,Cj),(23,Ih),(39,Gh),(71,Gw),(135,xN),(103,yX),(167,Ae),(55,HB),(87,GJ),(151,Ch),(119,zn),(11,GW),(19,HZ),(35,F4),(67,Id),(131,yS),(99,HO),(51,GV),(83,Ix),(147,xT),(115,zK),(27,Gm),(43,Ht),(75,Hz),(139,x_),(107,A9),(171,yD),(59,Gf),(91,F6),(155,BF),(123,Cx),(5,ti5),(9,ti9),(17,Gp),(33,GL),(65,Hn),(129,Ap),(97,Gr),(161,CG),(49,GC),(81,Hb),(145,BI),(113,zX),(177,AD),(25,HV),(41,F3),(73,He),(137,zj),(105,Bu),(169,Bp),(57,HU),(89,GX),(153,AO),(121,BO),(13,Gv),(21,Gj),(37,EM),(69,Hs),(133,BV),(101,zg),(165,BS),(53,HF),(85,Gd),(149,yb),(117,Ax),(29,Ib),(45,DS),(77,IB),(141,Ah),(109,Cm),(173,CB),(61,Hh),(93,F_),(157,xU),(125,yN),(2,ti2),(4,ti4),(8,ti8),(16,GI),(32,F9),(64,D3),(128,AQ),(96,IC),(160,CI),(48,F8),(80,GF),(144,z8),(112,CE),(176,Ar),(24,Ie),(40,If),(72,HP),(136,zw),(104,yW),(168,Bw),(56,GP),(88,Hi),(152,Cf),(120,BT),(12,Gg),(36,HR),(68,Hk),(100,yf),(164,Ao),(52,It),(84,F5),(148,Cn),(116,B1),(28,GB),(44,GE),(76,Gq),(140,AR),(108,A8),(172,Co),(92,HT),(156,Cg),(124,zi),(6,ti6),(10,F7),(18,GA),(34,Ig),(66,Iz),(98,HD),(162,BJ),(50,Hl),(82,Iv),(114,zq),(26,Gt),(42,H_),(74,Ha),(138,yv),(106,zh),(170,BZ),(90,Is),(154,AP),(122,Aa),(14,Ho),(22,Fx),(38,Iu),(70,IE),(134,yQ),(102,CJ),(166,zZ),(54,G_),(86,IG),(150,Ca),(118,Aj),(30,Gb),(46,GQ),(142,yT),(110,Cu),(174,Bt),(62,IF),(94,Hv),(158,BC),(126,Be)]:=by kernel_rfl
theorem uk:∀ t i,tiT.get t=some i→aO Try.prog t=some i:=by
 refine Tr.all_get (p:=fun t i=>aO Try.prog t=some i) ?_
 rw [B4]
 exact .cons Gx (.cons HN (.cons Hg (.cons Dn (.cons D0 (.cons yj (.cons FA (.cons zJ (.cons Dg (.cons D6 (.cons Bn (.cons yB (.cons yo (.cons D8 (.cons Ey (.cons DI (.cons zl (.cons zv (.cons Bj (.cons CW (.cons Ek (.cons BL (.cons zH (.cons EX (.cons Fk (.cons Es (.cons E4 (.cons yP (.cons Dh (.cons Dj (.cons DW (.cons AZ (.cons zC (.cons E7 (.cons DA (.cons CM (.cons zc (.cons BK (.cons BB (.cons Fq (.cons EG (.cons yJ (.cons Bx (.cons HJ (.cons Hj (.cons Em (.cons Eo (.cons C6 (.cons yq (.cons DJ (.cons A4 (.cons Fu (.cons DV (.cons yx (.cons AG (.cons zU (.cons Ef (.cons EH (.cons EP (.cons B6 (.cons zA (.cons yO (.cons DD (.cons Dx (.cons za (.cons xS (.cons DT (.cons ER (.cons Dc (.cons EC (.cons AK (.cons Ck (.cons yV (.cons EV (.cons CR (.cons A7 (.cons By (.cons DF (.cons EZ (.cons CU (.cons yw (.cons Br (.cons BN (.cons En (.cons ED (.cons B_ (.cons Bc (.cons GR (.cons IH (.cons Ik (.cons Fl (.cons Dt (.cons C9 (.cons A1 (.cons DH (.cons zy (.cons CQ (.cons E_ (.cons BP (.cons zo (.cons yg (.cons E9 (.cons Ds (.cons DY (.cons A0 (.cons Ad (.cons Bb (.cons Fh (.cons DR (.cons BU (.cons yp (.cons EW (.cons Db (.cons CP (.cons Ay (.cons AL (.cons Eb (.cons EL (.cons Bi (.cons B9 (.cons Fy (.cons Ff (.cons CY (.cons yi (.cons xY (.cons AI (.cons Fi (.cons zd (.cons zp (.cons In (.cons Er (.cons Dy (.cons DB (.cons DK (.cons Dr (.cons AT (.cons C7 (.cons DZ (.cons zE (.cons D7 (.cons Df (.cons CL (.cons AU (.cons yI (.cons yM (.cons E6 (.cons Bg (.cons Cd (.cons Ft (.cons C5 (.cons Fj (.cons Da (.cons zx (.cons zT (.cons xQ (.cons Dm (.cons EJ (.cons yH (.cons ym (.cons DG (.cons CO (.cons BM (.cons BA (.cons xX (.cons Dw (.cons DQ (.cons yY (.cons Ag (.nil))))))))))))))))))))))))))))))))))))))))))))))))))))))))))))))))))))))))))))))))))))))))))))))))))))))))))))))))))))))))))))))))))))))))))))))))))))))))))))))))))))))))
noncomputable def fnT:Tr Func:=.node none (.node none (.node (some Try.f3) (.node (some Try.f7) (.node (some Try.f15) (.node (some Try.f31) (.node (some Try.f63) (.node (some Try.f127) .leaf .leaf) .leaf) (.node (some Try.f95) .leaf .leaf)) (.node (some Try.f47) (.node (some Try.f79) .leaf .leaf) (.node (some Try.f111) .leaf .leaf))) (.node (some Try.f23) (.node (some Try.f39) (.node (some Try.f71) (.node (some Try.f135) .leaf .leaf) .leaf) (.node (some Try.f103) .leaf .leaf)) (.node (some Try.f55) (.node (some Try.f87) .leaf .leaf) (.node (some Try.f119) .leaf .leaf)))) (.node (some Try.f11) (.node (some Try.f19) (.node (some Try.f35) (.node (some Try.f67) (.node (some Try.f131) .leaf .leaf) .leaf) (.node (some Try.f99) .leaf .leaf)) (.node (some Try.f51) (.node (some Try.f83) .leaf .leaf) (.node (some Try.f115) .leaf .leaf))) (.node (some Try.f27) (.node (some Try.f43) (.node (some Try.f75) .leaf .leaf) (.node (some Try.f107) .leaf .leaf)) (.node (some Try.f59) (.node (some Try.f91) .leaf .leaf) (.node (some Try.f123) .leaf .leaf))))) (.node (some Try.f5) (.node (some Try.f9) (.node (some Try.f17) (.node (some Try.f33) (.node (some Try.f65) (.node (some Try.f129) .leaf .leaf) .leaf) (.node (some Try.f97) .leaf .leaf)) (.node (some Try.f49) (.node (some Try.f81) .leaf .leaf) (.node (some Try.f113) .leaf .leaf))) (.node (some Try.f25) (.node (some Try.f41) (.node (some Try.f73) (.node (some Try.f137) .leaf .leaf) .leaf) (.node (some Try.f105) .leaf .leaf)) (.node (some Try.f57) (.node (some Try.f89) .leaf .leaf) (.node (some Try.f121) .leaf .leaf)))) (.node (some Try.f13) (.node (some Try.f21) (.node (some Try.f37) (.node (some Try.f69) (.node (some Try.f133) .leaf .leaf) .leaf) (.node (some Try.f101) .leaf .leaf)) (.node (some Try.f53) (.node (some Try.f85) .leaf .leaf) (.node (some Try.f117) .leaf .leaf))) (.node (some Try.f29) (.node (some Try.f45) (.node (some Try.f77) .leaf .leaf) (.node (some Try.f109) .leaf .leaf)) (.node (some Try.f61) (.node (some Try.f93) .leaf .leaf) (.node (some Try.f125) .leaf .leaf)))))) (.node none (.node (some Try.f4) (.node (some Try.f8) (.node (some Try.f16) (.node (some Try.f32) (.node (some Try.f64) (.node (some Try.f128) .leaf .leaf) .leaf) (.node (some Try.f96) .leaf .leaf)) (.node (some Try.f48) (.node (some Try.f80) .leaf .leaf) (.node (some Try.f112) .leaf .leaf))) (.node (some Try.f24) (.node (some Try.f40) (.node (some Try.f72) (.node (some Try.f136) .leaf .leaf) .leaf) (.node (some Try.f104) .leaf .leaf)) (.node (some Try.f56) (.node (some Try.f88) .leaf .leaf) (.node (some Try.f120) .leaf .leaf)))) (.node (some Try.f12) (.node (some Try.f20) (.node (some Try.f36) (.node (some Try.f68) (.node (some Try.f132) .leaf .leaf) .leaf) (.node (some Try.f100) .leaf .leaf)) (.node (some Try.f52) (.node (some Try.f84) .leaf .leaf) (.node (some Try.f116) .leaf .leaf))) (.node (some Try.f28) (.node (some Try.f44) (.node (some Try.f76) .leaf .leaf) (.node (some Try.f108) .leaf .leaf)) (.node (some Try.f60) (.node (some Try.f92) .leaf .leaf) (.node (some Try.f124) .leaf .leaf))))) (.node (some Try.f6) (.node (some Try.f10) (.node (some Try.f18) (.node (some Try.f34) (.node (some Try.f66) (.node (some Try.f130) .leaf .leaf) .leaf) (.node (some Try.f98) .leaf .leaf)) (.node (some Try.f50) (.node (some Try.f82) .leaf .leaf) (.node (some Try.f114) .leaf .leaf))) (.node (some Try.f26) (.node (some Try.f42) (.node (some Try.f74) .leaf .leaf) (.node (some Try.f106) .leaf .leaf)) (.node (some Try.f58) (.node (some Try.f90) .leaf .leaf) (.node (some Try.f122) .leaf .leaf)))) (.node (some Try.f14) (.node (some Try.f22) (.node (some Try.f38) (.node (some Try.f70) (.node (some Try.f134) .leaf .leaf) .leaf) (.node (some Try.f102) .leaf .leaf)) (.node (some Try.f54) (.node (some Try.f86) .leaf .leaf) (.node (some Try.f118) .leaf .leaf))) (.node (some Try.f30) (.node (some Try.f46) (.node (some Try.f78) .leaf .leaf) (.node (some Try.f110) .leaf .leaf)) (.node (some Try.f62) (.node (some Try.f94) .leaf .leaf) (.node (some Try.f126) .leaf .leaf))))))
theorem B3:fnT.toL=[(3,Try.f3),(7,Try.f7),(15,Try.f15),(31,Try.f31),(63,Try.f63),(127,Try.f127),(95,Try.f95),(47,Try.f47),(79,Try.f79),(111,Try.f111),(23,Try.f23),(39,Try.f39),(71,Try.f71),(135,Try.f135),(103,Try.f103),(55,Try.f55),(87,Try.f87),(119,Try.f119),(11,Try.f11),(19,Try.f19),(35,Try.f35),(67,Try.f67),(131,Try.f131),(99,Try.f99),(51,Try.f51),(83,Try.f83),(115,Try.f115),(27,Try.f27),(43,Try.f43),(75,Try.f75),(107,Try.f107),(59,Try.f59),(91,Try.f91),(123,Try.f123),(5,Try.f5),(9,Try.f9),(17,Try.f17),(33,Try.f33),(65,Try.f65),(129,Try.f129),(97,Try.f97),(49,Try.f49),(81,Try.f81),(113,Try.f113),(25,Try.f25),(41,Try.f41),(73,Try.f73),(137,Try.f137),(105,Try.f105),(57,Try.f57),(89,Try.f89),(121,Try.f121),(13,Try.f13),(21,Try.f21),(37,Try.f37),(69,Try.f69),(133,Try.f133),(101,Try.f101),(53,Try.f53),(85,Try.f85),(117,Try.f117),(29,Try.f29),(45,Try.f45),(77,Try.f77),(109,Try.f109),(61,Try.f61),(93,Try.f93),(125,Try.f125),(4,Try.f4),(8,Try.f8),(16,Try.f16),(32,Try.f32),(64,Try.f64),(128,Try.f128),(96,Try.f96),(48,Try.f48),(80,Try.f80),(112,Try.f112),(24,Try.f24),(40,Try.f40),(72,Try.f72),(136,Try.f136),(104,Try.f104),(56,Try.f56),(88,Try.f88),(120,Try.f120),(12,Try.f12),(20,Try.f20),(36,Try.f36),(68,Try.f68),(132,Try.f132),(100,Try.f100),(52,Try.f52),(84,Try.f84),(116,Try.f116),(28,Try.f28),(44,Try.f44),(76,Try.f76),(108,Try.f108),(60,Try.f60),(92,Try.f92),(124,Try.f124),(6,Try.f6),(10,Try.f10),(18,Try.f18),(34,Try.f34),(66,Try.f66),(130,Try.f130),(98,Try.f98),(50,Try.f50),(82,Try.f82),(114,Try.f114),(26,Try.f26),(42,Try.f42),(74,Try.f74),(106,Try.f106),(58,Try.f58),(90,Try.f90),(122,Try.f122),(14,Try.f14),(22,Try.f22),(38,Try.f38),(70,Try.f70),(134,Try.f134),(102,Try.f102),(54,Try.f54),(86,Try.f86),(118,Try.f118),(30,Try.f30),(46,Try.f46),(78,Try.f78),(110,Try.f110),(62,Try.f62),(94,Try.f94),(126,Try.f126)]:=by kernel_rfl
def fnP (k : Nat) (f : Func) : Prop := Try.prog.funcs[k]? = some f ∧ (f.name == "runtime.NumGoroutine") = false
theorem zk : ∀ k f, fnT.get k = some f → Try.prog.funcs[k]? = some f ∧ (f.name == "runtime.NumGoroutine") = false := by
 refine Tr.all_get (p:=fnP) ?_
 rw [B3]
 exact .cons ⟨Try.func3,by kernel_rfl⟩ (.cons ⟨Try.func7,by kernel_rfl⟩ (.cons ⟨Try.func15,by kernel_rfl⟩ (.cons ⟨Try.func31,by kernel_rfl⟩ (.cons ⟨Try.func63,by kernel_rfl⟩ (.cons ⟨Try.func127,by kernel_rfl⟩ (.cons ⟨Try.func95,by kernel_rfl⟩ (.cons ⟨Try.func47,by kernel_rfl⟩ (.cons ⟨Try.func79,by kernel_rfl⟩ (.cons ⟨Try.func111,by kernel_rfl⟩ (.cons ⟨Try.func23,by kernel_rfl⟩ (.cons ⟨Try.func39,by kernel_rfl⟩ (.cons ⟨Try.func71,by kernel_rfl⟩ (.cons ⟨Try.func135,by kernel_rfl⟩ (.cons ⟨Try.func103,by kernel_rfl⟩ (.cons ⟨Try.func55,by kernel_rfl⟩ (.cons ⟨Try.func87,by kernel_rfl⟩ (.cons ⟨Try.func119,by kernel_rfl⟩ (.cons ⟨Try.func11,by kernel_rfl⟩ (.cons ⟨Try.func19,by kernel_rfl⟩ (.cons ⟨Try.func35,by kernel_rfl⟩ (.cons ⟨Try.func67,by kernel_rfl⟩ (.cons ⟨Try.func131,by kernel_rfl⟩ (.cons ⟨Try.func99,by kernel_rfl⟩ (.cons ⟨Try.func51,by kernel_rfl⟩ (.cons ⟨Try.func83,by kernel_rfl⟩ (.cons ⟨Try.func115,by kernel_rfl⟩ (.cons ⟨Try.func27,by kernel_rfl⟩ (.cons ⟨Try.func43,by kernel_rfl⟩ (.cons ⟨Try.func75,by kernel_rfl⟩ (.cons ⟨Try.func107,by kernel_rfl⟩ (.cons ⟨Try.func59,by kernel_rfl⟩ (.cons ⟨Try.func91,by kernel_rfl⟩ (.cons ⟨Try.func123,by kernel_rfl⟩ (.cons ⟨Try.func5,by kernel_rfl⟩ (.cons ⟨Try.func9,by kernel_rfl⟩ (.cons ⟨Try.func17,by kernel_rfl⟩ (.cons ⟨Try.func33,by kernel_rfl⟩ (.cons ⟨Try.func65,by kernel_rfl⟩ (.cons ⟨Try.func129,by kernel_rfl⟩ (.cons ⟨Try.func97,by kernel_rfl⟩ (.cons ⟨Try.func49,by kernel_rfl⟩ (.cons ⟨Try.func81,by kernel_rfl⟩ (.cons ⟨Try.func113,by kernel_rfl⟩ (.cons ⟨Try.func25,by kernel_rfl⟩ (.cons ⟨Try.func41,by kernel_rfl⟩ (.cons ⟨Try.func73,by kernel_rfl⟩ (.cons ⟨Try.func137,by kernel_rfl⟩ (.cons ⟨Try.func105,by kernel_rfl⟩ (.cons ⟨Try.func57,by kernel_rfl⟩ (.cons ⟨Try.func89,by kernel_rfl⟩ (.cons ⟨Try.func121,by kernel_rfl⟩ (.cons ⟨Try.func13,by kernel_rfl⟩ (.cons ⟨Try.func21,by kernel_rfl⟩ (.cons ⟨Try.func37,by kernel_rfl⟩ (.cons ⟨Try.func69,by kernel_rfl⟩ (.cons ⟨Try.func133,by kernel_rfl⟩ (.cons ⟨Try.func101,by kernel_rfl⟩ (.cons ⟨Try.func53,by kernel_rfl⟩ (.cons ⟨Try.func85,by kernel_rfl⟩ (.cons ⟨Try.func117,by kernel_rfl⟩ (.cons ⟨Try.func29,by kernel_rfl⟩ (.cons ⟨Try.func45,by kernel_rfl⟩ (.cons ⟨Try.func77,by kernel_rfl⟩ (.cons ⟨Try.func109,by kernel_rfl⟩ (.cons ⟨Try.func61,by kernel_rfl⟩ (.cons ⟨Try.func93,by kernel_rfl⟩ (.cons ⟨Try.func125,by kernel_rfl⟩ (.cons ⟨Try.func4,by kernel_rfl⟩ (.cons ⟨Try.func8,by kernel_rfl⟩ (.cons ⟨Try.func16,by kernel_rfl⟩ (.cons ⟨Try.func32,by kernel_rfl⟩ (.cons ⟨Try.func64,by kernel_rfl⟩ (.cons ⟨Try.func128,by kernel_rfl⟩ (.cons ⟨Try.func96,by kernel_rfl⟩ (.cons ⟨Try.func48,by kernel_rfl⟩ (.cons ⟨Try.func80,by kernel_rfl⟩ (.cons ⟨Try.func112,by kernel_rfl⟩ (.cons ⟨Try.func24,by kernel_rfl⟩ (.cons ⟨Try.func40,by kernel_rfl⟩ (.cons ⟨Try.func72,by kernel_rfl⟩ (.cons ⟨Try.func136,by kernel_rfl⟩ (.cons ⟨Try.func104,by kernel_rfl⟩ (.cons ⟨Try.func56,by kernel_rfl⟩ (.cons ⟨Try.func88,by kernel_rfl⟩ (.cons ⟨Try.func120,by kernel_rfl⟩ (.cons ⟨Try.func12,by kernel_rfl⟩ (.cons ⟨Try.func20,by kernel_rfl⟩ (.cons ⟨Try.func36,by kernel_rfl⟩ (.cons ⟨Try.func68,by kernel_rfl⟩ (.cons ⟨Try.func132,by kernel_rfl⟩ (.cons ⟨Try.func100,by kernel_rfl⟩ (.cons ⟨Try.func52,by kernel_rfl⟩ (.cons ⟨Try.func84,by kernel_rfl⟩ (.cons ⟨Try.func116,by kernel_rfl⟩ (.cons ⟨Try.func28,by kernel_rfl⟩ (.cons ⟨Try.func44,by kernel_rfl⟩ (.cons ⟨Try.func76,by kernel_rfl⟩ (.cons ⟨Try.func108,by kernel_rfl⟩ (.cons ⟨Try.func60,by kernel_rfl⟩ (.cons ⟨Try.func92,by kernel_rfl⟩ (.cons ⟨Try.func124,by kernel_rfl⟩ (.cons ⟨Try.func6,by kernel_rfl⟩ (.cons ⟨Try.func10,by kernel_rfl⟩ (.cons ⟨Try.func18,by kernel_rfl⟩ (.cons ⟨Try.func34,by kernel_rfl⟩ (.cons ⟨Try.func66,by kernel_rfl⟩ (.cons ⟨Try.func130,by kernel_rfl⟩ (.cons ⟨Try.func98,by kernel_rfl⟩ (.cons ⟨Try.func50,by kernel_rfl⟩ (.cons ⟨Try.func82,by kernel_rfl⟩ (.cons ⟨Try.func114,by kernel_rfl⟩ (.cons ⟨Try.func26,by kernel_rfl⟩ (.cons ⟨Try.func42,by kernel_rfl⟩ (.cons ⟨Try.func74,by kernel_rfl⟩ (.cons ⟨Try.func106,by kernel_rfl⟩ (.cons ⟨Try.func58,by kernel_rfl⟩ (.cons ⟨Try.func90,by kernel_rfl⟩ (.cons ⟨Try.func122,by kernel_rfl⟩ (.cons ⟨Try.func14,by kernel_rfl⟩ (.cons ⟨Try.func22,by kernel_rfl⟩ (.cons ⟨Try.func38,by kernel_rfl⟩ (.cons ⟨Try.func70,by kernel_rfl⟩ (.cons ⟨Try.func134,by kernel_rfl⟩ (.cons ⟨Try.func102,by kernel_rfl⟩ (.cons ⟨Try.func54,by kernel_rfl⟩ (.cons ⟨Try.func86,by kernel_rfl⟩ (.cons ⟨Try.func118,by kernel_rfl⟩ (.cons ⟨Try.func30,by kernel_rfl⟩ (.cons ⟨Try.func46,by kernel_rfl⟩ (.cons ⟨Try.func78,by kernel_rfl⟩ (.cons ⟨Try.func110,by kernel_rfl⟩ (.cons ⟨Try.func62,by kernel_rfl⟩ (.cons ⟨Try.func94,by kernel_rfl⟩ (.cons ⟨Try.func126,by kernel_rfl⟩ (.nil)))))))))))))))))))))))))))))))))))))))))))))))))))))))))))))))))))))))))))))))))))))))))))))))))))))))))))))))))))))))))))))))))))))))
noncomputable def ky7:List KK:=[.int .i64,.int .i64,.bool,.int .u8]
theorem G7:hU Try.prog 7=some ky7:=by kernel_rfl
noncomputable def ky8:List KK:=[.int .i64,.int .i64,.bool,.int .u8]
theorem GD:hU Try.prog 8=some ky8:=by kernel_rfl
noncomputable def Hq:List KK:=[.string,.string]
theorem Dl:hU Try.prog 63=some Hq:=by kernel_rfl
noncomputable def GM:List KK:=[.string,.string]
theorem EA:hU Try.prog 64=some GM:=by kernel_rfl
noncomputable def HK:List KK:=[.string,.int .i64,.string]
theorem Fd:hU Try.prog 65=some HK:=by kernel_rfl
noncomputable def HX:List KK:=[.string,.int .i64,.string]
theorem DN:hU Try.prog 66=some HX:=by kernel_rfl
noncomputable def zf:List KK:=[.int .i64,.string,.int .i64,.bool,.int .i64]
theorem zG:hU Try.prog 107=some zf:=by kernel_rfl
noncomputable def Ci:List KK:=[.int .i64,.string,.int .i64,.bool,.int .i64]
theorem Al:hU Try.prog 108=some Ci:=by kernel_rfl
noncomputable def zO:List KK:=[.int .i64,.int .i64,.int .i64,.bool]
theorem Cy:hU Try.prog 138=some zO:=by kernel_rfl
noncomputable def Ct:List KK:=[.int .i64,.int .i64,.int .i64,.bool]
theorem BQ:hU Try.prog 139=some Ct:=by kernel_rfl
noncomputable def kyT:Tr (List KK):=.node none (.node none (.node none (.node (some ky7) (.node none (.node none (.node (some Hq) .leaf .leaf) .leaf) .leaf) .leaf) (.node none .leaf (.node none (.node none (.node none (.node (some Ct) .leaf .leaf) .leaf) (.node (some zf) .leaf .leaf)) .leaf))) (.node none (.node none (.node none (.node none (.node (some HK) .leaf .leaf) .leaf) .leaf) .leaf) .leaf)) (.node none (.node none (.node (some ky8) (.node none (.node none (.node (some GM) .leaf .leaf) .leaf) .leaf) .leaf) (.node none .leaf (.node none (.node none .leaf (.node (some Ci) .leaf .leaf)) .leaf))) (.node none (.node none (.node none (.node none (.node (some HX) .leaf .leaf) .leaf) .leaf) (.node none (.node none (.node none (.node (some zO) .leaf .leaf) .leaf) .leaf) .leaf)) .leaf))
theorem y_:kyT.toL=[(7,ky7),(63,Hq),(139,Ct),(107,zf),(65,HK),(8,ky8),(64,GM),(108,Ci),(66,HX),(138,zO)]:=by kernel_rfl
theorem G9:∀ t ks,kyT.get t=some ks→pd Try.prog t ks:=by
 refine Tr.all_get (p:=fun t ks=>pd Try.prog t ks) ?_
 rw [y_]
 exact .cons (eJ G7) (.cons (eJ Dl) (.cons (eJ BQ) (.cons (eJ zG) (.cons (eJ Fd) (.cons (eJ GD) (.cons (eJ EA) (.cons (eJ Al) (.cons (eJ DN) (.cons (eJ Cy) (.nil))))))))))
noncomputable def CX (σ:Sig) (kn:List (ce × Bool)) (hkn:pC σ kn):Ctx Try.prog:=⟨tiT.get,uk,kyT.get,G9,σ,kn,hkn⟩
theorem mixed:Try.prog.follows .mixedOrders=true:=by kernel_rfl
noncomputable abbrev CZ (σ:Sig):Ctx Try.prog:=CX σ [] wJ
def jr (j:Nat→AV):Nat→Nat→List AV
  | _,0=>[]
  | a,n+1=>j a::jr j (a+1) n
noncomputable abbrev fQ (f:Func) (σ:Sig) (K:AV→Hp→Prop):=fnQ (CZ σ).ti f.results.toList K
theorem gwp {σ:Sig} (g:Nat) {f:Nat} {fn:Func} {c:Code} {xs:List AV} {H:Hp} {K:AV→Hp→Prop} (hf:fnT.get f=some fn) (hb:fn.body=some c) (h:wp (CZ σ) g c (xs++List.replicate (fn.ntmps - xs.length) (.lit undef)) H (fnQ (CZ σ).ti fn.results.toList K)):∃ r H',aH Try.prog σ f xs H r H'∧K r H' :=
  ul (CZ σ) mixed g (zk f fn hf).1 hb (zk f fn hf).2 h
theorem lrd {σ:Sig} {g:Nat} {c:Code} {T:List AV} {H:Hp} {Q:Exit→List AV→Hp→Prop} (h:wp (CZ σ) g c T H (nx Q fun T1 H1=>∀ js,bi (CZ σ) c (dr g js 0 T1) H1 Q)):bi (CZ σ) c T H Q :=
  bi.round (CZ σ) mixed h
end Go.Proofs.Ythmaggcfghjmfaa.Ev
namespace Go.Proofs.Ythmaggcfghjmfaa.Ev
set_option maxRecDepth 100000
set_option maxHeartbeats 4000000
abbrev eB:Nat:=4
abbrev gN:Nat:=13
abbrev gd:Nat:=14
abbrev fp:Nat:=15
abbrev cJ:Nat:=16
abbrev iw:Nat:=18
abbrev iz:Nat:=24
abbrev fI:Nat:=25
abbrev i7:Nat:=29
abbrev dB:Nat:=30
abbrev j_:Nat:=31
abbrev ek:Nat:=33
abbrev fu:Nat:=34
abbrev eS:Nat:=35
abbrev gh:Nat:=38
abbrev eX:Nat:=39
abbrev jU:Nat:=40
abbrev ju:Nat:=41
abbrev eW:Nat:=42
abbrev dk:Nat:=43
abbrev dn:Nat:=44
abbrev c6:Nat:=46
abbrev al:Nat:=47
abbrev dW:Nat:=48
abbrev bn:Nat:=49
abbrev dc:Nat:=50
abbrev cj:Nat:=51
abbrev cY:Nat:=52
abbrev bS:Nat:=53
abbrev aA:Nat:=54
abbrev bF:Nat:=55
abbrev aW:Nat:=56
abbrev fq:Nat:=57
abbrev fy:Nat:=61
abbrev dC:Nat:=62
abbrev fX:Nat:=63
abbrev d_:Nat:=64
abbrev c_:Nat:=65
abbrev bj:Nat:=67
abbrev dz:Nat:=68
abbrev aI:Nat:=69
abbrev dL:Nat:=70
abbrev ev:Nat:=71
abbrev cM:Nat:=72
abbrev dH:Nat:=73
abbrev bO:Nat:=74
abbrev bV:Nat:=75
abbrev j8:Nat:=76
abbrev il:Nat:=77
abbrev im:Nat:=85
abbrev gg:Nat:=86
abbrev dP:Nat:=87
abbrev fE:Nat:=88
abbrev dD:Nat:=89
abbrev cO:Nat:=90
abbrev dA:Nat:=91
abbrev eu:Nat:=92
abbrev er:Nat:=93
abbrev gJ:Nat:=94
abbrev kh:Nat:=95
abbrev bo:Nat:=98
abbrev bE:Nat:=99
abbrev d9:Nat:=100
abbrev dT:Nat:=101
abbrev dV:Nat:=102
abbrev eL:Nat:=103
abbrev bJ:Nat:=104
abbrev da:Nat:=105
abbrev cK:Nat:=106
abbrev eD:Nat:=107
abbrev je:Nat:=108
abbrev ir:Nat:=109
abbrev dq:Nat:=110
abbrev cW:Nat:=111
abbrev dJ:Nat:=112
abbrev eg:Nat:=113
abbrev jg:Nat:=114
abbrev eQ:Nat:=115
abbrev jf:Nat:=116
abbrev eN:Nat:=117
abbrev d7:Nat:=118
abbrev dF:Nat:=119
abbrev jL:Nat:=120
abbrev iu:Nat:=121
abbrev dx:Nat:=122
abbrev d8:Nat:=123
abbrev iB:Nat:=124
abbrev jv:Nat:=125
abbrev ck:Nat:=126
abbrev cm:Nat:=127
abbrev ic:Nat:=129
abbrev gO:Nat:=130
abbrev tT:Nat:=3
abbrev Hw:Nat:=4
abbrev dI:Nat:=9
abbrev de:Nat:=22
abbrev qt:Nat:=23
abbrev qh:Nat:=25
abbrev mO:Nat:=28
abbrev gR:Nat:=37
abbrev qv:Nat:=38
abbrev oA:Nat:=39
abbrev pN:Nat:=41
abbrev uN:Nat:=43
abbrev fl:Nat:=45
abbrev jZ:Nat:=47
abbrev rS:Nat:=49
abbrev jR:Nat:=64
abbrev ve:Nat:=66
theorem yL:∃ i,tiT.get tT=some i∧i.d=.int .i64∧i.size=1:=⟨_,(by kernel_rfl:tiT.get tT=some ti3),by kernel_rfl,by kernel_rfl⟩
theorem ja:∃ i,tiT.get dI=some i∧i.d=.string∧i.size=1:=⟨_,(by kernel_rfl:tiT.get dI=some ti9),by kernel_rfl,by kernel_rfl⟩
theorem jG:∃ i,tiT.get de=some i∧i.d=.slice jZ∧i.size=1:=⟨_,(by kernel_rfl:tiT.get de=some Fx),by kernel_rfl,by kernel_rfl⟩
theorem pY:∃ i,tiT.get gR=some i∧i.d=.slice dI∧i.size=1:=⟨_,(by kernel_rfl:tiT.get gR=some EM),by kernel_rfl,by kernel_rfl⟩
theorem ng:∃ i,tiT.get fl=some i∧i.d=.slice jR∧i.size=1:=⟨_,(by kernel_rfl:tiT.get fl=some DS),by kernel_rfl,by kernel_rfl⟩
theorem lI:∃ i,tiT.get jZ=some i∧i.d=.struct [(0,tT),(1,dI),(2,dI),(3,gR),(4,fl)]∧i.size=5:=⟨_,(by kernel_rfl:tiT.get jZ=some Fo),by kernel_rfl,by kernel_rfl⟩
theorem lz:∃ i,tiT.get jR=some i∧i.d=.struct [(0,dI),(1,dI)]∧i.size=2:=⟨_,(by kernel_rfl:tiT.get jR=some D3),by kernel_rfl,by kernel_rfl⟩
end Go.Proofs.Ythmaggcfghjmfaa.Ev
