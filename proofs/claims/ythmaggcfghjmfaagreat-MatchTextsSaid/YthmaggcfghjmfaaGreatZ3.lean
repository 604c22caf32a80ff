/- The walks, part 3: the evaluator, the functions, the laws. Conditions: none. -/
import Derived.Lib.Index
import Derived.Lib.Strings
import Derived.Test.YthmaggcfghjmfaaGreatProg
import Derived.Test.YthmaggcfghjmfaaGreatZ2
namespace Go.Proofs.YthmaggcfghjmfaaGreat.Ev
set_option linter.unusedVariables false
set_option linter.unusedSimpArgs false
structure At where
 name:ByteArray
 op:Int
 text:ByteArray
mutual
inductive Pt where
 | mk (comb:Int) (c:Cp)
inductive Cp where
 | mk (tag:ByteArray) (ids classes:List ByteArray) (attrs:List At) (pseudos:List Ps)
inductive Ps where
 | mk (kind a b:Int) (list:List (List Pt))
end
def Pt.comb:Pt→Int | .mk k _=>k
def Pt.c:Pt→Cp | .mk _ c=>c
def Cp.tag:Cp→ByteArray | .mk t _ _ _ _=>t
def Cp.ids:Cp→List ByteArray | .mk _ i _ _ _=>i
def Cp.classes:Cp→List ByteArray | .mk _ _ c _ _=>c
def Cp.attrs:Cp→List At | .mk _ _ _ a _=>a
def Cp.pseudos:Cp→List Ps | .mk _ _ _ _ p=>p
def Ps.kind:Ps→Int | .mk k _ _ _=>k
def Ps.a:Ps→Int | .mk _ a _ _=>a
def Ps.b:Ps→Int | .mk _ _ b _=>b
def Ps.list:Ps→List (List Pt) | .mk _ _ _ l=>l
abbrev Sl:=List Pt
structure ST where
 prop:Int
 kind:Int
 n:Int
 imp:Bool
structure RL where
 sels:List Sl
 sets:List ST
structure Nd where
 parent:Int
 tag:ByteArray
 id:ByteArray
 classes:List ByteArray
 attrs:List (ByteArray × ByteArray)
def cg (a:At):List AV:=[Sx a.name,I a.op,Sx a.text]
def dG (l:List ByteArray):AV:=.imm 1 (l.map fun s=>[Sx s])
mutual
def bx:Pt→List AV
 | .mk k c=>I k::bR c
def bR:Cp→List AV
 | .mk t i c a p=>[Sx t,dG i,dG c,.imm 3 (a.map cg),.imm 4 (oY p)]
def bv:Ps→List AV
 | .mk k a b l=>[I k,I a,I b,.imm 1 (pm l)]
def ph:List Pt→List (List AV)
 | []=>[]
 | p::r=>bx p::ph r
def oY:List Ps→List (List AV)
 | []=>[]
 | p::r=>bv p::oY r
def pm:List (List Pt)→List (List AV)
 | []=>[]
 | s::r=>[.imm 6 (ph s)]::pm r
end
theorem nJ:∀ (l:List Pt),ph l=l.map bx
 | []=>rfl
 | p::r=>by rw [ph,nJ r]; rfl
theorem qw:∀ (l:List Ps),oY l=l.map bv
 | []=>rfl
 | p::r=>by rw [oY,qw r]; rfl
def aU (s:Sl):List AV:=[.imm 6 (s.map bx)]
theorem rp:∀ (l:List Sl),pm l=l.map aU
 | []=>rfl
 | s::r=>by rw [pm,rp r,nJ]; rfl
theorem d6 (p:Pt):bx p=I p.comb::bR p.c:=by cases p; rfl
theorem cX (c:Cp):bR c=[Sx c.tag,dG c.ids,dG c.classes,.imm 3 (c.attrs.map cg),.imm 4 (c.pseudos.map bv)]:=by
 cases c; rw [bR,qw]; rfl
theorem eJ (p:Ps):bv p=[I p.kind,I p.a,I p.b,.imm 1 (p.list.map aU)]:=by
 cases p; rw [bv,rp]; rfl
@[simp] theorem kY (p:Pt):(bx p).length=6:=by rw [d6,cX]; rfl
@[simp] theorem kO (p:Cp):(bR p).length=5:=by rw [cX]; rfl
@[simp] theorem g_ (p:Ps):(bv p).length=4:=by rw [eJ]; rfl
@[simp] theorem Kk (p:Sl):(aU p).length=1:=rfl
@[simp] theorem Kq (p:At):(cg p).length=3:=rfl
def sls (l:List Sl):AV:=.imm 1 (l.map aU)
def mw (s:ST):List AV:=[I s.prop,I s.kind,I s.n,Bo s.imp]
def og (r:RL):List AV:=[sls r.sels,.imm 4 (r.sets.map mw)]
def rls (l:List RL):AV:=.imm 2 (l.map og)
def cS (p:ByteArray × ByteArray):List AV:=[Sx p.1,Sx p.2]
def bt (n:Nd):List AV:=[I n.parent,Sx n.tag,Sx n.id,dG n.classes,.imm 2 (n.attrs.map cS)]
def nds (l:List Nd):AV:=.imm 5 (l.map bt)
theorem bm {α:Type} (f:α→List AV) (hf:∀ x,aP (f x)=true):∀ l:List α,eQ (l.map f)=true
 | []=>rfl
 | x::r=>by simp only [List.map_cons,eQ,hf,bm f hf r,Bool.and_self]
@[simp] theorem mS (l:List ByteArray):bF (dG l)=true:=by
 unfold dG; simp only [bF]; exact bm _ (fun _=>rfl) l
theorem oh (a:At):aP (cg a)=true:=rfl
mutual
theorem tF:∀ (p:Pt),aP (bx p)=true
 | .mk k c=>by rw [bx]; simp only [aP,bF,mJ c,Bool.and_self]
theorem mJ:∀ (c:Cp),aP (bR c)=true
 | .mk t i c a p=>by rw [bR]; simp only [aP,bF,mS,bm _ oh,uQ p,Bool.and_self]
theorem tI:∀ (p:Ps),aP (bv p)=true
 | .mk k a b l=>by rw [bv]; simp only [aP,bF,u7 l,Bool.and_self]
theorem rN:∀ (l:List Pt),eQ (ph l)=true
 | []=>rfl
 | p::r=>by rw [ph]; simp only [eQ,tF p,rN r,Bool.and_self]
theorem uQ:∀ (l:List Ps),eQ (oY l)=true
 | []=>rfl
 | p::r=>by rw [oY]; simp only [eQ,tI p,uQ r,Bool.and_self]
theorem u7:∀ (l:List (List Pt)),eQ (pm l)=true
 | []=>rfl
 | s::r=>by rw [pm]; simp only [eQ,aP,bF,rN s,u7 r,Bool.and_self]
end
theorem lA (s:Sl):aP (aU s)=true:=by
 unfold aU; rw [← nJ]; simp only [aP,bF,rN,Bool.and_self]
@[simp] theorem kM (l:List Sl):bF (sls l)=true:=by unfold sls; simp only [bF]; exact bm _ lA l
theorem Gd (s:ST):aP (mw s)=true:=rfl
theorem GM (r:RL):aP (og r)=true:=by unfold og; simp only [aP,bF,kM,bm _ Gd,Bool.and_self]
@[simp] theorem LG (l:List RL):bF (rls l)=true:=by unfold rls; simp only [bF]; exact bm _ GM l
theorem j_ (n:Nd):aP (bt n)=true:=by unfold bt; simp only [aP,bF,mS,bm cS (fun _=>rfl),Bool.and_self]
@[simp] theorem z0 (l:List Nd):bF (nds l)=true:=by unfold nds; simp only [bF]; exact bm _ j_ l
end Go.Proofs.YthmaggcfghjmfaaGreat.Ev
namespace Go.Proofs.YthmaggcfghjmfaaGreat.Ev
@[simp] theorem Ll (l:List ByteArray):AV.one (dG l)=true:=rfl
@[simp] theorem A0 (c:Cp):(bR c).all AV.one=true:=by rw [cX]; rfl
@[simp] theorem JZ (p:Pt):(bx p).all AV.one=true:=by rw [d6,List.all_cons,A0]; rfl
@[simp] theorem Ej (p:Ps):(bv p).all AV.one=true:=by rw [eJ]; rfl
@[simp] theorem Mv (p:Sl):(aU p).all AV.one=true:=rfl
@[simp] theorem Mu (p:At):(cg p).all AV.one=true:=rfl
@[simp] theorem Mr (p:RL):(og p).all AV.one=true:=rfl
@[simp] theorem Iy (p:Nd):(bt p).all AV.one=true:=rfl
@[simp] theorem Ma (p:ST):(mw p).all AV.one=true:=rfl
@[simp] theorem Kv (p:RL):(og p).length=2:=rfl
@[simp] theorem sX (p:Nd):(bt p).length=5:=rfl
@[simp] theorem Kt (p:ST):(mw p).length=4:=rfl
theorem cm {α:Type} {l:List α} {k:Nat} {x:α} (h:l[k]?=some x):l.drop k=x::l.drop (k+1):=by
 obtain ⟨hlt,rfl⟩:=List.getElem?_eq_some_iff.1 h
 exact List.drop_eq_getElem_cons hlt
theorem cb {α:Type} {l:List α} {k:Nat} (h:k<l.length):∃ x,l[k]?=some x:=⟨l[k],List.getElem?_eq_getElem h⟩
end Go.Proofs.YthmaggcfghjmfaaGreat.Ev
namespace Go.Proofs.YthmaggcfghjmfaaGreat.Ev
def i64 (n:Int):Prop:=-9223372036854775808≤n∧n≤9223372036854775807
def tM (N:Nat) (l:List ByteArray):Prop:=l.length≤N∧∀ s ∈ l,s.data.size≤N
mutual
def Pt.wf (N:Nat):Pt→Prop
 | .mk k c=>i64 k∧Cp.wf N c
def Cp.wf (N:Nat):Cp→Prop
 | .mk t i c a p=>t.data.size≤N∧tM N i∧tM N c∧(a.length≤N∧∀ x ∈ a,x.name.data.size≤N∧i64 x.op∧x.text.data.size≤N)∧p.length≤N∧rz N p
def Ps.wf (N:Nat):Ps→Prop
 | .mk k a b l=>i64 k∧i64 a∧i64 b∧l.length≤N∧qO N l
def qB (N:Nat):List Pt→Prop
 | []=>True
 | p::r=>Pt.wf N p∧qB N r
def rz (N:Nat):List Ps→Prop
 | []=>True
 | p::r=>Ps.wf N p∧rz N r
def qO (N:Nat):List (List Pt)→Prop
 | []=>True
 | s::r=>(s.length≤N∧qB N s)∧qO N r
end
theorem sU {N:Nat}:∀ {l:List Pt},qB N l→∀ p ∈ l,Pt.wf N p
 | p::r,h,q,hq=>by
  rw [qB] at h
  rcases List.mem_cons.1 hq with rfl | hq
  ·exact h.1
  ·exact sU h.2 q hq
theorem sM {N:Nat}:∀ {l:List Ps},rz N l→∀ p ∈ l,Ps.wf N p
 | p::r,h,q,hq=>by
  rw [rz] at h
  rcases List.mem_cons.1 hq with rfl | hq
  ·exact h.1
  ·exact sM h.2 q hq
def w_ (N:Nat) (s:Sl):Prop:=s.length≤N∧∀ p ∈ s,Pt.wf N p
theorem tb {N:Nat}:∀ {l:List Sl},qO N l→∀ s ∈ l,w_ N s
 | s::r,h,q,hq=>by
  rw [qO] at h
  rcases List.mem_cons.1 hq with rfl | hq
  ·exact ⟨h.1.1,sU h.1.2⟩
  ·exact tb h.2 q hq
theorem uE {N:Nat}:∀ {l:List Pt},(∀ p ∈ l,Pt.wf N p)→qB N l
 | [],_=>by rw [qB]; trivial
 | p::r,h=>by rw [qB]; exact ⟨h p (by simp),uE fun q hq=>h q (by simp [hq])⟩
theorem u0 {N:Nat}:∀ {l:List Ps},(∀ p ∈ l,Ps.wf N p)→rz N l
 | [],_=>by rw [rz]; trivial
 | p::r,h=>by rw [rz]; exact ⟨h p (by simp),u0 fun q hq=>h q (by simp [hq])⟩
theorem vq {N:Nat}:∀ {l:List Sl},(∀ p ∈ l,w_ N p)→qO N l
 | [],_=>by rw [qO]; trivial
 | p::r,h=>by rw [qO]; exact ⟨⟨(h p (by simp)).1,uE (h p (by simp)).2⟩,vq fun q hq=>h q (by simp [hq])⟩
def i6 (N:Nat) (l:List Sl):Prop:=l.length≤N∧∀ s ∈ l,w_ N s
structure tL (N:Nat) (c:Cp):Prop where
 tag:c.tag.data.size≤N
 ids:tM N c.ids
 classes:tM N c.classes
 attrsL:c.attrs.length≤N
 attrs:∀ x ∈ c.attrs,x.name.data.size≤N∧i64 x.op∧x.text.data.size≤N
 psL:c.pseudos.length≤N
 ps:∀ p ∈ c.pseudos,Ps.wf N p
theorem Cp.wf_iff {N:Nat} {c:Cp}:Cp.wf N c ↔ tL N c:=by
 cases c
 rw [Cp.wf]
 exact ⟨fun ⟨a,b,c,d,e,f⟩=>⟨a,b,c,d.1,d.2,e,sM f⟩,fun ⟨a,b,c,d,d',e,f⟩=>⟨a,b,c,⟨d,d'⟩,e,u0 f⟩⟩
theorem Pt.wf_iff {N:Nat} {p:Pt}:Pt.wf N p ↔ i64 p.comb∧tL N p.c:=by
 cases p; rw [Pt.wf,Cp.wf_iff]; rfl
theorem Ps.wf_iff {N:Nat} {p:Ps}:Ps.wf N p ↔ i64 p.kind∧i64 p.a∧i64 p.b∧i6 N p.list:=by
 cases p; rw [Ps.wf]
 exact ⟨fun ⟨a,b,c,d,e⟩=>⟨a,b,c,d,tb e⟩,fun ⟨a,b,c,d⟩=>⟨a,b,c,d.1,vq d.2⟩⟩
abbrev dF:Nat:=9223372036854775807
theorem cO {k n N:Nat} (h:k<n) (hn:n≤N) (hN:N≤dF:=by decide):wr .i64 ((k:Int)+1)=((k+1:Nat):Int):=by
 have:dF=9223372036854775807:=rfl
 rw [eh (by omega) (by omega)]; rfl
end Go.Proofs.YthmaggcfghjmfaaGreat.Ev
namespace Go.Proofs.YthmaggcfghjmfaaGreat.Ev
@[simp] theorem rl (l:List ByteArray):aW (dG l)=some (.lit (.int .i64 l.length)):=by simp [dG]
@[simp] theorem nL (l:List Sl):aW (sls l)=some (.lit (.int .i64 l.length)):=by simp [sls]
@[simp] theorem LX (l:List RL):aW (rls l)=some (.lit (.int .i64 l.length)):=by simp [rls]
@[simp] theorem iR (l:List Nd):aW (nds l)=some (.lit (.int .i64 l.length)):=by simp [nds]
end Go.Proofs.YthmaggcfghjmfaaGreat.Ev
namespace Go.Proofs.YthmaggcfghjmfaaGreat.Ev
@[simp] theorem nG (s:Sl):ldL true 1 (aU s)=some (.agg (aU s)):=rfl
@[simp] theorem Ac (s:Pt):ldL true 6 (bx s)=some (.agg (bx s)):=dm (kY s)
@[simp] theorem Am (s:Cp):ldL true 5 (bR s)=some (.agg (bR s)):=dm (kO s)
@[simp] theorem pe (s:Ps):ldL true 4 (bv s)=some (.agg (bv s)):=dm (g_ s)
@[simp] theorem Ca (s:At):ldL true 3 (cg s)=some (.agg (cg s)):=rfl
@[simp] theorem xB (s:Nd):ldL true 5 (bt s)=some (.agg (bt s)):=rfl
@[simp] theorem L9 (s:RL):ldL true 2 (og s)=some (.agg (og s)):=rfl
@[simp] theorem Mq (s:ST):ldL true 4 (mw s)=some (.agg (mw s)):=rfl
@[simp] theorem L6 (s:ByteArray × ByteArray):ldL true 2 (cS s)=some (.agg (cS s)):=rfl
@[simp] theorem MA (c:AV) (s:Sl):ce [c] 0 (aU s)=aU s:=rfl
end Go.Proofs.YthmaggcfghjmfaaGreat.Ev
namespace Go.Proofs.YthmaggcfghjmfaaGreat.Ev
@[simp] theorem Iq (p:Pt):(bx p).tail=bR p.c:=by rw [d6]; rfl
end Go.Proofs.YthmaggcfghjmfaaGreat.Ev
namespace Go.Proofs.YthmaggcfghjmfaaGreat.Ev
@[simp] theorem uu (x:Ps):ldL false 1 (bv x)=some (I x.kind):=by rw [eJ]; rfl
@[simp] theorem Lz (x:Ps):ldL false 1 (bv x).tail=some (I x.a):=by rw [eJ]; rfl
@[simp] theorem KX (x:Ps):ldL false 1 ((bv x).drop 2)=some (I x.b):=by rw [eJ]; rfl
@[simp] theorem nR (x:Ps):ldL false 1 ((bv x).drop 3)=some (.imm 1 (x.list.map aU)):=by rw [eJ]; rfl
@[simp] theorem LM (x:Cp):ldL false 1 (bR x)=some (Sx x.tag):=by rw [cX]; rfl
@[simp] theorem K3 (x:Cp):ldL false 1 (bR x).tail=some (dG x.ids):=by rw [cX]; rfl
@[simp] theorem Lx (x:Cp):ldL false 1 ((bR x).drop 2)=some (dG x.classes):=by rw [cX]; rfl
@[simp] theorem Lr (x:Cp):ldL false 1 ((bR x).drop 3)=some (.imm 3 (x.attrs.map cg)):=by rw [cX]; rfl
@[simp] theorem rF (x:Cp):ldL false 1 ((bR x).drop 4)=some (.imm 4 (x.pseudos.map bv)):=by rw [cX]; rfl
@[simp] theorem CD (x:Pt):ldL false 1 (bx x)=some (I x.comb):=by rw [d6]; rfl
@[simp] theorem md (x:Sl):ldL false 1 (aU x)=some (.imm 6 (x.map bx)):=rfl
@[simp] theorem LC (x:At):ldL false 1 (cg x)=some (Sx x.name):=rfl
@[simp] theorem K6 (x:At):ldL false 1 (cg x).tail=some (I x.op):=rfl
@[simp] theorem KI (x:At):ldL false 1 ((cg x).drop 2)=some (Sx x.text):=rfl
@[simp] theorem Li (x:Nd):ldL false 1 (bt x)=some (I x.parent):=rfl
@[simp] theorem LB (x:Nd):ldL false 1 (bt x).tail=some (Sx x.tag):=rfl
theorem yO (x:Nd):ldL false 1 ((bt x).drop 1)=some (Sx x.tag):=rfl
@[simp] theorem BJ (x:Nd):ldL false 1 ((bt x).drop 2)=some (Sx x.id):=rfl
@[simp] theorem qV (x:Nd):ldL false 1 ((bt x).drop 3)=some (dG x.classes):=rfl
@[simp] theorem rQ (x:Nd):ldL false 1 ((bt x).drop 4)=some (.imm 2 (x.attrs.map cS)):=rfl
@[simp] theorem Lp (x:RL):ldL false 1 (og x)=some (sls x.sels):=rfl
@[simp] theorem KA (x:RL):ldL false 1 (og x).tail=some (.imm 4 (x.sets.map mw)):=rfl
@[simp] theorem KC (x:ST):ldL false 1 (mw x)=some (I x.prop):=rfl
@[simp] theorem Lj (x:ST):ldL false 1 (mw x).tail=some (I x.kind):=rfl
@[simp] theorem LD (x:ST):ldL false 1 ((mw x).drop 2)=some (I x.n):=rfl
@[simp] theorem K4 (x:ST):ldL false 1 ((mw x).drop 3)=some (Bo x.imp):=rfl
@[simp] theorem AC (x:ByteArray × ByteArray):ldL false 1 (cS x)=some (Sx x.1):=rfl
@[simp] theorem KV (x:ByteArray × ByteArray):ldL false 1 (cS x).tail=some (Sx x.2):=rfl
theorem zf (x:ByteArray × ByteArray):ldL false 1 ((cS x).drop 1)=some (Sx x.2):=rfl
theorem yq {l:List AV} (x:Ps) (h:l.length=4):ce l 0 (bv x)=bv x:=a8 (by rw [g_,h])
theorem HB {l:List AV} (x:Pt) (h:l.length=6):ce l 0 (bx x)=bx x:=a8 (by rw [kY,h])
end Go.Proofs.YthmaggcfghjmfaaGreat.Ev
namespace Go.Proofs.YthmaggcfghjmfaaGreat.Ev
set_option linter.unusedVariables false
set_option linter.unusedSimpArgs false
theorem kN {sz:Nat}:∀ {rows:List (List AV)} {w:Nat} (hs:∀ r ∈ rows,r.length=sz) (h:w<rows.length),rows.flatten.drop (w*sz)=rows[w]++(rows.drop (w+1)).flatten
 | r::rs,0,hs,h=>by simp
 | r::rs,w+1,hs,h=>by
  have hr:r.length=sz:=hs r (by simp)
  have e:(w+1)*sz=sz+w*sz:=by rw [Nat.succ_mul,Nat.add_comm]
  have e1:(r++rs.flatten).drop sz=rs.flatten:=by rw [← hr]; simp
  rw [List.flatten_cons,e,← List.drop_drop,e1]
  exact kN (fun r hr=>hs r (by simp [hr])) (by simpa using h)
theorem oU {a b:List AV} {k:Nat} {xs:List AV}:ce (a++b) (a.length+k) xs=a++ce b k xs:=by
 unfold ce
 rw [Nat.add_assoc,List.take_append,List.drop_append,List.take_of_length_le (by omega),List.drop_eq_nil_of_le (by omega)]
 simp
theorem pD {a b:List AV} {k:Nat} {xs:List AV} (h:k+xs.length≤a.length):ce (a++b) k xs=ce a k xs++b:=by
 unfold ce
 rw [List.take_append_of_le_length (by omega),List.drop_append_of_le_length h]
 simp
theorem jq {sz:Nat} {xs:List AV} {k:Nat} (hk:k+xs.length≤sz):∀ {rows:List (List AV)} {w:Nat} (hs:∀ r ∈ rows,r.length=sz) (h:w<rows.length),ce rows.flatten (w*sz+k) xs=(rows.set w (ce rows[w] k xs)).flatten
 | r::rs,0,hs,h=>by
  have hr:r.length=sz:=hs r (by simp)
  simp only [Nat.zero_mul,Nat.zero_add,List.flatten_cons,List.getElem_cons_zero,List.set_cons_zero]
  exact pD (by omega)
 | r::rs,w+1,hs,h=>by
  have hr:r.length=sz:=hs r (by simp)
  have e:(w+1)*sz+k=r.length+(w*sz+k):=by rw [Nat.succ_mul,hr]; omega
  simp only [List.flatten_cons,List.getElem_cons_succ,List.set_cons_succ]
  rw [e,oU,jq hk (fun r hr=>hs r (by simp [hr])) (by simpa using h)]
end Go.Proofs.YthmaggcfghjmfaaGreat.Ev
namespace Go.Proofs.YthmaggcfghjmfaaGreat.Ev
set_option linter.unusedVariables false
set_option linter.unusedSimpArgs false
def Nd.none:Nd:=⟨0,⟨#[]⟩,⟨#[]⟩,[],[]⟩
def cB (L:List Nd) (i:Nat):Nd:=L.getD i Nd.none
def par (L:List Nd) (i:Nat):Int:=(cB L i).parent
def eZ (L:List Nd) (m e:Nat):List Nat:=(List.range m).filter fun j=>decide (0<j)&&decide (par L j=e)
def oO (L:List Nd) (e:Nat):List Nat:=(List.range e).filter fun j=>decide (0<j)&&decide (par L j=par L e)
def ou (l:List Nat):Int:=match l.getLast? with | some j=>j | none=>-1
def dn (L:List Nd) (e:Nat):Int:=(oO L e).length+1
def eD (L:List Nd) (e:Nat):Int:=ou (oO L e)
structure cH (L:List Nd) (m:Nat) (d:List Nat):Prop where
 len:d.length=m
 le:m≤L.length
 root:0<m→par L 0=-1∧d[0]?=some 0
 step:∀ i,0<i→i<m→∃ p x:Nat,par L i=p∧p<i∧d[p]?=some x∧d[i]?=some (x+1)∧x+1≤256
theorem cH.nil (L:List Nd):cH L 0 []:=⟨rfl,Nat.zero_le _,fun h=>absurd h (Nat.lt_irrefl 0),fun i h0 h=>absurd h (Nat.not_lt_zero i)⟩
theorem cH.first {L:List Nd} (hl:0<L.length) (h:par L 0=-1):cH L 1 [0]:=⟨rfl,hl,fun _=>⟨h,rfl⟩,fun i h0 h=>by omega⟩
theorem cH.next {L:List Nd} {m p x:Nat} {d:List Nat} (h:cH L m d) (hm:0<m) (hl:m<L.length) (hp:par L m=p) (hlt:p<m) (hx:d[p]?=some x) (h256:x+1≤256):cH L (m+1) (d++[x+1]):=by
 have hlen:=h.len
 refine ⟨by simp [hlen],hl,fun _=>⟨(h.root hm).1,?_⟩,fun i h0 hi=>?_⟩
 ·rw [List.getElem?_append_left (by omega)]; exact (h.root hm).2
 ·by_cases him:i<m
  ·obtain ⟨p',x',e1,e2,e3,e4,e5⟩:=h.step i h0 him
   exact ⟨p',x',e1,e2,by rw [List.getElem?_append_left (by omega)]; exact e3,by rw [List.getElem?_append_left (by omega)]; exact e4,e5⟩
  ·have:i=m:=by omega
   subst this
   exact ⟨p,x,hp,hlt,by rw [List.getElem?_append_left (by omega)]; exact hx,by rw [List.getElem?_append_right (by omega),hlen]; simp,h256⟩
theorem hJ (L:List Nd) (m e:Nat):eZ L (m+1) e=eZ L m e++if 0<m∧par L m=e then [m] else []:=by
 unfold eZ
 rw [List.range_succ,List.filter_append]
 congr 1
 by_cases h:0<m∧par L m=(e:Int)
 ·simp [h]
 ·rw [if_neg h]
  simp only [List.filter_cons,List.filter_nil]
  rw [if_neg (by simpa using h)]
theorem o_ {L:List Nd} {m p:Nat} (hp:par L m=p):eZ L m p=oO L m:=by unfold eZ oO; rw [hp]
theorem yb {L:List Nd} {N:Nat} {d:List Nat} (hB:cH L N d) {m:Nat} (hm:m≤N) {e:Nat} (he:m≤e+1):eZ L m e=[]:=by
 unfold eZ
 rw [List.filter_eq_nil_iff]
 intro j hj
 simp only [List.mem_range] at hj
 simp only [Bool.and_eq_true,decide_eq_true_eq,not_and]
 intro h0 h1
 obtain ⟨p,x,e1,e2,_⟩:=hB.step j h0 (by omega)
 rw [e1] at h1
 omega
def iw (L:List Nd) (d:List Nat) (i:Nat) (c:AV) (low:Nd→Nd):List AV:=bt (low (cB L i))++[c,I (d.getD i 0),I (dn L i),I (eD L i)]
@[simp] theorem DG (L:List Nd) (d:List Nat) (i:Nat) (c:AV) (low:Nd→Nd):(iw L d i c low).length=9:=rfl
def eB (L:List Nd) (d:List Nat) (ch:List AV) (low:Nd→Nd):List (List AV):=ch.mapIdx fun i c=>iw L d i c low
theorem fO (L:List Nd) (d:List Nat) (ch:List AV) (low:Nd→Nd):(eB L d ch low).length=ch.length:=by simp [eB]
theorem om {L:List Nd} {d:List Nat} {ch:List AV} {low:Nd→Nd}:∀ row ∈ eB L d ch low,row.length=9:=by
 intro row h
 unfold eB at h
 obtain ⟨i,hi,rfl⟩:=List.mem_mapIdx.1 h
 rfl
theorem pi {L:List Nd} {d:List Nat} {ch:List AV} {low:Nd→Nd} {k:Nat} {c:AV} (h:ch[k]?=some c):(eB L d ch low)[k]?=some (iw L d k c low):=by
 unfold eB
 rw [List.getElem?_mapIdx,h]; rfl
theorem zB {L:List Nd} {d:List Nat} {ch:List AV} {low:Nd→Nd} {k:Nat} {c':AV}:eB L d (ch.set k c') low=(eB L d ch low).set k (iw L d k c' low):=by
 apply List.ext_getElem?
 intro i
 unfold eB
 rw [List.getElem?_mapIdx,List.getElem?_set,List.getElem?_set,List.getElem?_mapIdx]
 by_cases hi:k=i
 ·subst hi
  simp only [if_true,List.length_mapIdx]
  by_cases hk:k<ch.length
  ·simp [hk]
  ·simp [hk]
 ·simp [hi]
theorem yX {L:List Nd} {d:List Nat} {ch:List AV} {low:Nd→Nd} {c:AV}:eB L d (ch++[c]) low=eB L d ch low++[iw L d ch.length c low]:=by
 simp [eB,List.mapIdx_append]
theorem xC {L:List Nd} {d:List Nat} {ch:List AV} {low:Nd→Nd} {k:Nat} {c:AV} (h:ch[k]?=some c):∃ r,(eB L d ch low).flatten.drop (k*9)=iw L d k c low++r:=by
 have hk:=(List.getElem?_eq_some_iff.1 h).1
 have e:=pi (L:=L) (d:=d) (low:=low) h
 have hk':k<(eB L d ch low).length:=by rw [fO]; exact hk
 refine ⟨((eB L d ch low).drop (k+1)).flatten,?_⟩
 rw [kN om hk']
 congr 1
 rw [List.getElem?_eq_getElem hk'] at e
 exact Option.some.inj e
theorem lY {L:List Nd} {d:List Nat} {ch:List AV} {low:Nd→Nd} {k:Nat} {c:AV} (h:ch[k]?=some c) (j:Nat) (hj:j≤9):∃ r,(eB L d ch low).flatten.drop (k*9+j)=(iw L d k c low).drop j++r:=by
 obtain ⟨r,e⟩:=xC (L:=L) (d:=d) (low:=low) h
 refine ⟨r,?_⟩
 rw [← List.drop_drop,e,List.drop_append_of_le_length (by simpa using hj)]
theorem zK {L:List Nd} {d:List Nat} {ch:List AV} {low:Nd→Nd} {k:Nat} {c c':AV} (h:ch[k]?=some c):ce (eB L d ch low).flatten (k*9+5) [c']=(eB L d (ch.set k c') low).flatten:=by
 have hk:=(List.getElem?_eq_some_iff.1 h).1
 have hk':k<(eB L d ch low).length:=by rw [fO]; exact hk
 rw [jq (sz:=9) (by simp) om hk',zB]
 congr 2
 have e:=pi (L:=L) (d:=d) (low:=low) h
 rw [List.getElem?_eq_getElem hk'] at e
 rw [Option.some.inj e]
 rfl
end Go.Proofs.YthmaggcfghjmfaaGreat.Ev
namespace Go.Proofs.YthmaggcfghjmfaaGreat.Ev
set_option linter.unusedVariables false
set_option linter.unusedSimpArgs false
abbrev tl (s:ByteArray):List UInt8:=s.data.toList
def mk (l:List UInt8):ByteArray:=⟨l.toArray⟩
@[simp] theorem ml (l:List UInt8):tl (mk l)=l:=by simp [tl,mk]
@[simp] theorem m9 (s:ByteArray):mk (tl s)=s:=by simp [tl,mk]
theorem vX {a b:List UInt8} (h:mk a=mk b):a=b:=by rw [← ml a,h,ml]
theorem IU {a b:ByteArray} (h:tl a=tl b):a=b:=by rw [← m9 a,h,m9]
theorem cK (s:ByteArray):(tl s).length=s.data.size:=by simp [tl]
theorem E9 (l:List UInt8):(mk l).data.size=l.length:=by simp [mk]
theorem uc {s:ByteArray} {k:Nat} {c:UInt8} (h:(tl s)[k]?=some c):ig (Sx s) (I (k:Int))=some (.lit (.int .u8 c.toNat)):=by
 simp only [ig,jt]
 simp [h]
theorem Ct {s:ByteArray} {a b:Nat} (h1:a≤b) (h2:b≤s.data.size):fx (Sx s) (some (I (a:Int))) (some (I (b:Int)))=some (Sx (mk (((tl s).drop a).take (b - a)))):=by
 have h3:b≤s.size:=h2
 simp [fx,oc,jt,db,fB,kL,mk,tl,h1,h3]
theorem tY {s:ByteArray} {b:Nat} (h2:b≤s.data.size):fx (Sx s) none (some (I (b:Int)))=some (Sx (mk ((tl s).take b))):=by
 have h3:b≤s.size:=h2
 simp [fx,oc,jt,db,fB,kL,mk,tl,h3]
theorem ug {s:ByteArray} {a:Nat} (h1:a≤s.data.size):fx (Sx s) (some (I (a:Int))) none=some (Sx (mk ((tl s).drop a))):=by
 have h3:a≤s.size:=h1
 simp [fx,oc,jt,db,fB,kL,mk,tl,h3]
 exact List.take_of_length_le (by simp)
theorem DT {a b:ByteArray} (h:a.data.size+b.data.size≤9223372036854775807):af .add (Sx a) (Sx b)=some (Sx (mk (tl a++tl b))):=by
 have e:a.data++b.data=(a.data.toList++b.data.toList).toArray:=by
  apply Array.ext'
  simp
 have h3:a.size+b.size≤9223372036854775807:=h
 simp [af,lit?,fM,rW,h3,mk,tl,e]
def tJ (s p:List UInt8):Bool:=p.isPrefixOf s
def uv (s p:List UInt8):Bool:=p.isSuffixOf s
theorem uB (s p:List UInt8) (h:p.length≤s.length):decide (mk (s.take p.length)=mk p)=tJ s p:=by
 have:=Go.Lib.hasPrefix_of_take s p
 simp only [h,decide_true,Bool.true_and,Go.Lib.hasPrefix] at this
 unfold tJ
 rw [← this]
 by_cases e:s.take p.length=p
 ·simp [e]
 ·have:¬ (mk (s.take p.length)=mk p):=fun h=>e (vX h)
  simp [e,this]
theorem uJ (s p:List UInt8) (h:p.length≤s.length):decide (mk (s.drop (s.length - p.length))=mk p)=uv s p:=by
 have:=Go.Lib.hasSuffix_of_drop s p
 simp only [h,decide_true,Bool.true_and,Go.Lib.hasSuffix] at this
 unfold uv
 rw [← this]
 by_cases e:s.drop (s.length - p.length)=p
 ·simp [e]
 ·have:¬ (mk (s.drop (s.length - p.length))=mk p):=fun h=>e (vX h)
  simp [e,this]
theorem uV {s p:List UInt8} (h:s.length<p.length):tJ s p=false:=by
 have:=Go.Lib.hasPrefix_of_take s p
 rw [show decide (p.length≤s.length)=false by simp; omega] at this
 simpa [tJ,Go.Lib.hasPrefix] using this.symm
theorem uP {s p:List UInt8} (h:s.length<p.length):uv s p=false:=by
 have:=Go.Lib.hasSuffix_of_drop s p
 rw [show decide (p.length≤s.length)=false by simp; omega] at this
 simpa [uv,Go.Lib.hasSuffix] using this.symm
def wht (c:UInt8):Bool:=c.toNat == 9||(c.toNat == 10||(c.toNat == 12||(c.toNat == 13||c.toNat == 32)))
def nw (c:UInt8):Bool:=!wht c
def wl (l:List UInt8):Nat:=(l.takeWhile nw).length
theorem BC:∀ (l:List UInt8),wl l≤l.length
 | []=>Nat.le_refl _
 | c::l=>by
  unfold wl
  rw [List.takeWhile_cons]
  split
  ·have:=BC l; unfold wl at this; simp; exact this
  ·simp
theorem Dd:∀ {l:List UInt8} {k:Nat},k<wl l→∃ c,l[k]?=some c∧wht c=false
 | [],k,h=>by simp [wl] at h
 | c::l,k,h=>by
  unfold wl at h
  rw [List.takeWhile_cons] at h
  split at h
  ·rename_i hc
   cases k with
   | zero=>exact ⟨c,rfl,by simpa [nw] using hc⟩
   | succ k=>exact Dd (l:=l) (by unfold wl; simpa using h)
  ·simp at h
theorem HK:∀ {l:List UInt8} {c:UInt8},l[wl l]?=some c→wht c=true
 | [],c,h=>by simp at h
 | d::l,c,h=>by
  unfold wl at h
  rw [List.takeWhile_cons] at h
  split at h
  ·exact HK (l:=l) (by unfold wl; simpa using h)
  ·rename_i hc
   simp at h
   subst h
   simpa [nw] using hc
def l_:Nat→List UInt8→List (List UInt8)
 | 0,_=>[]
 | f+1,l=>if l=[] then [] else if wl l=0 then l_ f (l.drop 1) else l.take (wl l)::l_ f (l.drop (wl l+1))
theorem mT:∀ (f g:Nat) (l:List UInt8),l.length<f→l.length<g→l_ f l=l_ g l
 | 0,g,l,h,_=>by omega
 | f+1,0,l,_,h=>by omega
 | f+1,g+1,l,h1,h2=>by
  unfold l_
  by_cases hl:l=[]
  ·rw [if_pos hl,if_pos hl]
  ·have hpos:0<l.length:=List.length_pos_iff.2 hl
   rw [if_neg hl,if_neg hl,mT f g (l.drop 1) (by simp; omega) (by simp; omega),mT f g (l.drop (wl l+1)) (by simp; omega) (by simp; omega)]
def eE (l:List UInt8):List (List UInt8):=l_ (l.length+1) l
theorem jW:eE []=[]:=rfl
theorem kK {l:List UInt8} (hl:l≠[]):eE l=if wl l=0 then eE (l.drop 1) else l.take (wl l)::eE (l.drop (wl l+1)):=by
 have hpos:0<l.length:=List.length_pos_iff.2 hl
 show l_ (l.length+1) l=_
 unfold l_
 rw [if_neg hl]
 unfold eE
 rw [mT l.length ((l.drop 1).length+1) (l.drop 1) (by simp; omega) (by simp),mT l.length ((l.drop (wl l+1)).length+1) (l.drop (wl l+1)) (by simp; omega) (by simp)]
end Go.Proofs.YthmaggcfghjmfaaGreat.Ev
namespace Go.Proofs.YthmaggcfghjmfaaGreat.Ev
set_option maxRecDepth 100000
set_option maxHeartbeats 4000000
noncomputable def ti1:TI:=⟨.func,1,8,[.nilFunc]⟩
theorem HZ:aX Tryz.prog 1=some ti1:=by kernel_rfl
noncomputable def ti2:TI:=⟨.int .i64,1,8,[.int .i64 0]⟩
theorem HR:aX Tryz.prog 2=some ti2:=by kernel_rfl
noncomputable def ti3:TI:=⟨.int .i64,1,8,[.int .i64 0]⟩
theorem IJ:aX Tryz.prog 3=some ti3:=by kernel_rfl
noncomputable def ti4:TI:=⟨.bool,1,1,[.bool false]⟩
theorem Ia:aX Tryz.prog 4=some ti4:=by kernel_rfl
noncomputable def ti5:TI:=⟨.int .u8,1,1,[.int .u8 0]⟩
theorem Kj:aX Tryz.prog 5=some ti5:=by kernel_rfl
noncomputable def ti6:TI:=⟨.int .u8,1,1,[.int .u8 0]⟩
theorem Id:aX Tryz.prog 6=some ti6:=by kernel_rfl
noncomputable def ti7:TI:=⟨.struct [(0,2),(1,3),(2,4),(3,6)],4,24,[.int .i64 0,.int .i64 0,.bool false,.int .u8 0]⟩
theorem Js:aX Tryz.prog 7=some ti7:=by kernel_rfl
noncomputable def ti8:TI:=⟨.struct [(0,2),(1,3),(2,4),(3,6)],4,24,[.int .i64 0,.int .i64 0,.bool false,.int .u8 0]⟩
theorem JI:aX Tryz.prog 8=some ti8:=by kernel_rfl
noncomputable def ti9:TI:=⟨.string,1,16,[.string ⟨#[]⟩]⟩
theorem I5:aX Tryz.prog 9=some ti9:=by kernel_rfl
noncomputable def JT:TI:=⟨.string,1,16,[.string ⟨#[]⟩]⟩
theorem Fx:aX Tryz.prog 10=some JT:=by kernel_rfl
noncomputable def I0:TI:=⟨.string,1,16,[.string ⟨#[]⟩]⟩
theorem Gk:aX Tryz.prog 11=some I0:=by kernel_rfl
noncomputable def Iv:TI:=⟨.int .u64,1,8,[.int .u64 0]⟩
theorem Hr:aX Tryz.prog 12=some Iv:=by kernel_rfl
noncomputable def IY:TI:=⟨.struct [(0,9),(1,12)],2,24,[.string ⟨#[]⟩,.int .u64 0]⟩
theorem EF:aX Tryz.prog 13=some IY:=by kernel_rfl
noncomputable def JD:TI:=⟨.struct [(0,9),(1,12)],2,24,[.string ⟨#[]⟩,.int .u64 0]⟩
theorem GX:aX Tryz.prog 14=some JD:=by kernel_rfl
noncomputable def Ih:TI:=⟨.ptr 161,1,8,[.pointer none]⟩
theorem Fs:aX Tryz.prog 15=some Ih:=by kernel_rfl
noncomputable def JS:TI:=⟨.ptr 164,1,8,[.pointer none]⟩
theorem FF:aX Tryz.prog 16=some JS:=by kernel_rfl
noncomputable def IA:TI:=⟨.ptr 172,1,8,[.pointer none]⟩
theorem GY:aX Tryz.prog 17=some IA:=by kernel_rfl
noncomputable def IK:TI:=⟨.struct [(0,17)],1,8,[.pointer none]⟩
theorem GW:aX Tryz.prog 18=some IK:=by kernel_rfl
noncomputable def Jg:TI:=⟨.struct [(0,17)],1,8,[.pointer none]⟩
theorem Gp:aX Tryz.prog 19=some Jg:=by kernel_rfl
noncomputable def Ii:TI:=⟨.int .i32,1,4,[.int .i32 0]⟩
theorem Fl:aX Tryz.prog 21=some Ii:=by kernel_rfl
noncomputable def Ff:TI:=⟨.slice 56,1,24,[.slice none 0 0]⟩
theorem EY:aX Tryz.prog 22=some Ff:=by kernel_rfl
noncomputable def ID:TI:=⟨.func,1,8,[.nilFunc]⟩
theorem Hh:aX Tryz.prog 23=some ID:=by kernel_rfl
noncomputable def HP:TI:=⟨.ptr 78,1,8,[.pointer none]⟩
theorem F4:aX Tryz.prog 24=some HP:=by kernel_rfl
noncomputable def JJ:TI:=⟨.ptr 83,1,8,[.pointer none]⟩
theorem GC:aX Tryz.prog 25=some JJ:=by kernel_rfl
noncomputable def H_:TI:=⟨.func,1,8,[.nilFunc]⟩
theorem GE:aX Tryz.prog 27=some H_:=by kernel_rfl
noncomputable def IP:TI:=⟨.slice 36,1,24,[.slice none 0 0]⟩
theorem FA:aX Tryz.prog 28=some IP:=by kernel_rfl
noncomputable def JX:TI:=⟨.func,1,8,[.nilFunc]⟩
theorem F7:aX Tryz.prog 29=some JX:=by kernel_rfl
noncomputable def In:TI:=⟨.func,1,8,[.nilFunc]⟩
theorem GA:aX Tryz.prog 30=some In:=by kernel_rfl
noncomputable def Jc:TI:=⟨.func,1,8,[.nilFunc]⟩
theorem Gr:aX Tryz.prog 31=some Jc:=by kernel_rfl
noncomputable def I2:TI:=⟨.func,1,8,[.nilFunc]⟩
theorem EP:aX Tryz.prog 32=some I2:=by kernel_rfl
noncomputable def Jj:TI:=⟨.func,1,8,[.nilFunc]⟩
theorem GG:aX Tryz.prog 33=some Jj:=by kernel_rfl
noncomputable def IS:TI:=⟨.slice 48,1,24,[.slice none 0 0]⟩
theorem Ez:aX Tryz.prog 34=some IS:=by kernel_rfl
noncomputable def JL:TI:=⟨.struct [(0,34)],1,24,[.slice none 0 0]⟩
theorem FN:aX Tryz.prog 35=some JL:=by kernel_rfl
noncomputable def JH:TI:=⟨.struct [(0,34)],1,24,[.slice none 0 0]⟩
theorem Hl:aX Tryz.prog 36=some JH:=by kernel_rfl
noncomputable def J6:TI:=⟨.func,1,8,[.nilFunc]⟩
theorem EM:aX Tryz.prog 37=some J6:=by kernel_rfl
noncomputable def HX:TI:=⟨.func,1,8,[.nilFunc]⟩
theorem GV:aX Tryz.prog 38=some HX:=by kernel_rfl
noncomputable def JU:TI:=⟨.struct [(0,3),(1,3),(2,3),(3,28)],4,48,[.int .i64 0,.int .i64 0,.int .i64 0,.slice none 0 0]⟩
theorem Ey:aX Tryz.prog 39=some JU:=by kernel_rfl
noncomputable def Il:TI:=⟨.struct [(0,3),(1,3),(2,3),(3,28)],4,48,[.int .i64 0,.int .i64 0,.int .i64 0,.slice none 0 0]⟩
theorem FH:aX Tryz.prog 40=some Il:=by kernel_rfl
noncomputable def JB:TI:=⟨.slice 40,1,24,[.slice none 0 0]⟩
theorem G7:aX Tryz.prog 41=some JB:=by kernel_rfl
noncomputable def ET:TI:=⟨.slice 9,1,24,[.slice none 0 0]⟩
theorem F6:aX Tryz.prog 42=some ET:=by kernel_rfl
noncomputable def I3:TI:=⟨.slice 134,1,24,[.slice none 0 0]⟩
theorem Gf:aX Tryz.prog 43=some I3:=by kernel_rfl
noncomputable def J8:TI:=⟨.struct [(0,9),(1,42),(2,42),(3,43),(4,41)],5,112,[.string ⟨#[]⟩,.slice none 0 0,.slice none 0 0,.slice none 0 0,.slice none 0 0]⟩
theorem G0:aX Tryz.prog 44=some J8:=by kernel_rfl
noncomputable def HM:TI:=⟨.struct [(0,9),(1,42),(2,42),(3,43),(4,41)],5,112,[.string ⟨#[]⟩,.slice none 0 0,.slice none 0 0,.slice none 0 0,.slice none 0 0]⟩
theorem EK:aX Tryz.prog 45=some HM:=by kernel_rfl
noncomputable def Jf:TI:=⟨.func,1,8,[.nilFunc]⟩
theorem Fv:aX Tryz.prog 46=some Jf:=by kernel_rfl
noncomputable def Jk:TI:=⟨.struct [(0,3),(1,45)],6,120,[.int .i64 0,.string ⟨#[]⟩,.slice none 0 0,.slice none 0 0,.slice none 0 0,.slice none 0 0]⟩
theorem E8:aX Tryz.prog 47=some Jk:=by kernel_rfl
noncomputable def HN:TI:=⟨.struct [(0,3),(1,45)],6,120,[.int .i64 0,.string ⟨#[]⟩,.slice none 0 0,.slice none 0 0,.slice none 0 0,.slice none 0 0]⟩
theorem FV:aX Tryz.prog 48=some HN:=by kernel_rfl
noncomputable def Jt:TI:=⟨.func,1,8,[.nilFunc]⟩
theorem EA:aX Tryz.prog 49=some Jt:=by kernel_rfl
noncomputable def I4:TI:=⟨.func,1,8,[.nilFunc]⟩
theorem Ge:aX Tryz.prog 50=some I4:=by kernel_rfl
noncomputable def I_:TI:=⟨.int .i64,1,8,[.int .i64 0]⟩
theorem ED:aX Tryz.prog 51=some I_:=by kernel_rfl
noncomputable def JE:TI:=⟨.func,1,8,[.nilFunc]⟩
theorem FI:aX Tryz.prog 53=some JE:=by kernel_rfl
noncomputable def Gx:TI:=⟨.slice 81,1,24,[.slice none 0 0]⟩
theorem FC:aX Tryz.prog 54=some Gx:=by kernel_rfl
noncomputable def JG:TI:=⟨.struct [(0,3),(1,9),(2,9),(3,42),(4,54)],5,88,[.int .i64 0,.string ⟨#[]⟩,.string ⟨#[]⟩,.slice none 0 0,.slice none 0 0]⟩
theorem EB:aX Tryz.prog 55=some JG:=by kernel_rfl
noncomputable def G_:TI:=⟨.struct [(0,3),(1,9),(2,9),(3,42),(4,54)],5,88,[.int .i64 0,.string ⟨#[]⟩,.string ⟨#[]⟩,.slice none 0 0,.slice none 0 0]⟩
theorem GZ:aX Tryz.prog 56=some G_:=by kernel_rfl
noncomputable def II:TI:=⟨.func,1,8,[.nilFunc]⟩
theorem E3:aX Tryz.prog 57=some II:=by kernel_rfl
noncomputable def IE:TI:=⟨.func,1,8,[.nilFunc]⟩
theorem EL:aX Tryz.prog 59=some IE:=by kernel_rfl
noncomputable def Kd:TI:=⟨.func,1,8,[.nilFunc]⟩
theorem GP:aX Tryz.prog 61=some Kd:=by kernel_rfl
noncomputable def IQ:TI:=⟨.slice 95,1,24,[.slice none 0 0]⟩
theorem Fa:aX Tryz.prog 62=some IQ:=by kernel_rfl
noncomputable def Ja:TI:=⟨.func,1,8,[.nilFunc]⟩
theorem E5:aX Tryz.prog 63=some Ja:=by kernel_rfl
noncomputable def HO:TI:=⟨.slice 3,1,24,[.slice none 0 0]⟩
theorem Fm:aX Tryz.prog 64=some HO:=by kernel_rfl
noncomputable def JA:TI:=⟨.func,1,8,[.nilFunc]⟩
theorem Fj:aX Tryz.prog 65=some JA:=by kernel_rfl
noncomputable def Kb:TI:=⟨.slice 5,1,24,[.slice none 0 0]⟩
theorem EV:aX Tryz.prog 66=some Kb:=by kernel_rfl
noncomputable def Kc:TI:=⟨.func,1,8,[.nilFunc]⟩
theorem Gh:aX Tryz.prog 67=some Kc:=by kernel_rfl
noncomputable def Im:TI:=⟨.func,1,8,[.nilFunc]⟩
theorem Ho:aX Tryz.prog 68=some Im:=by kernel_rfl
noncomputable def HY:TI:=⟨.ptr 102,1,8,[.pointer none]⟩
theorem Fh:aX Tryz.prog 69=some HY:=by kernel_rfl
noncomputable def HV:TI:=⟨.func,1,8,[.nilFunc]⟩
theorem Gj:aX Tryz.prog 70=some HV:=by kernel_rfl
noncomputable def Iw:TI:=⟨.func,1,8,[.nilFunc]⟩
theorem G5:aX Tryz.prog 71=some Iw:=by kernel_rfl
noncomputable def Jp:TI:=⟨.func,1,8,[.nilFunc]⟩
theorem Fe:aX Tryz.prog 72=some Jp:=by kernel_rfl
noncomputable def IV:TI:=⟨.func,1,8,[.nilFunc]⟩
theorem G9:aX Tryz.prog 73=some IV:=by kernel_rfl
noncomputable def IW:TI:=⟨.func,1,8,[.nilFunc]⟩
theorem EN:aX Tryz.prog 74=some IW:=by kernel_rfl
noncomputable def HU:TI:=⟨.func,1,8,[.nilFunc]⟩
theorem GQ:aX Tryz.prog 75=some HU:=by kernel_rfl
noncomputable def JQ:TI:=⟨.slice 110,1,24,[.slice none 0 0]⟩
theorem FQ:aX Tryz.prog 76=some JQ:=by kernel_rfl
noncomputable def If:TI:=⟨.struct [(0,76)],1,24,[.slice none 0 0]⟩
theorem GH:aX Tryz.prog 77=some If:=by kernel_rfl
noncomputable def Ib:TI:=⟨.struct [(0,76)],1,24,[.slice none 0 0]⟩
theorem Hj:aX Tryz.prog 78=some Ib:=by kernel_rfl
noncomputable def Jn:TI:=⟨.func,1,8,[.nilFunc]⟩
theorem Gt:aX Tryz.prog 79=some Jn:=by kernel_rfl
noncomputable def IG:TI:=⟨.struct [(0,9),(1,9)],2,32,[.string ⟨#[]⟩,.string ⟨#[]⟩]⟩
theorem F9:aX Tryz.prog 80=some IG:=by kernel_rfl
noncomputable def F8:TI:=⟨.struct [(0,9),(1,9)],2,32,[.string ⟨#[]⟩,.string ⟨#[]⟩]⟩
theorem FU:aX Tryz.prog 81=some F8:=by kernel_rfl
noncomputable def JO:TI:=⟨.struct [(0,22),(1,64)],2,48,[.slice none 0 0,.slice none 0 0]⟩
theorem Fw:aX Tryz.prog 82=some JO:=by kernel_rfl
noncomputable def I1:TI:=⟨.struct [(0,22),(1,64)],2,48,[.slice none 0 0,.slice none 0 0]⟩
theorem F_:aX Tryz.prog 83=some I1:=by kernel_rfl
noncomputable def Ir:TI:=⟨.func,1,8,[.nilFunc]⟩
theorem Hc:aX Tryz.prog 84=some Ir:=by kernel_rfl
noncomputable def JY:TI:=⟨.ptr 87,1,8,[.pointer none]⟩
theorem FR:aX Tryz.prog 85=some JY:=by kernel_rfl
noncomputable def Io:TI:=⟨.struct [(0,62),(1,3),(2,4),(3,3)],4,48,[.slice none 0 0,.int .i64 0,.bool false,.int .i64 0]⟩
theorem Ha:aX Tryz.prog 86=some Io:=by kernel_rfl
noncomputable def I9:TI:=⟨.struct [(0,62),(1,3),(2,4),(3,3)],4,48,[.slice none 0 0,.int .i64 0,.bool false,.int .i64 0]⟩
theorem Fc:aX Tryz.prog 87=some I9:=by kernel_rfl
noncomputable def Jh:TI:=⟨.func,1,8,[.nilFunc]⟩
theorem Eu:aX Tryz.prog 88=some Jh:=by kernel_rfl
noncomputable def Ka:TI:=⟨.ptr 91,1,8,[.pointer none]⟩
theorem Gq:aX Tryz.prog 89=some Ka:=by kernel_rfl
noncomputable def Iu:TI:=⟨.struct [(0,64),(1,3)],2,32,[.slice none 0 0,.int .i64 0]⟩
theorem FB:aX Tryz.prog 90=some Iu:=by kernel_rfl
noncomputable def Ji:TI:=⟨.struct [(0,64),(1,3)],2,32,[.slice none 0 0,.int .i64 0]⟩
theorem E6:aX Tryz.prog 91=some Ji:=by kernel_rfl
noncomputable def JW:TI:=⟨.func,1,8,[.nilFunc]⟩
theorem GK:aX Tryz.prog 92=some JW:=by kernel_rfl
noncomputable def Ju:TI:=⟨.func,1,8,[.nilFunc]⟩
theorem GB:aX Tryz.prog 93=some Ju:=by kernel_rfl
noncomputable def Jv:TI:=⟨.struct [(0,3),(1,9),(2,3),(3,4),(4,3)],5,48,[.int .i64 0,.string ⟨#[]⟩,.int .i64 0,.bool false,.int .i64 0]⟩
theorem EZ:aX Tryz.prog 94=some Jv:=by kernel_rfl
noncomputable def Jq:TI:=⟨.struct [(0,3),(1,9),(2,3),(3,4),(4,3)],5,48,[.int .i64 0,.string ⟨#[]⟩,.int .i64 0,.bool false,.int .i64 0]⟩
theorem Fq:aX Tryz.prog 95=some Jq:=by kernel_rfl
noncomputable def IZ:TI:=⟨.func,1,8,[.nilFunc]⟩
theorem Gb:aX Tryz.prog 96=some IZ:=by kernel_rfl
noncomputable def Ip:TI:=⟨.func,1,8,[.nilFunc]⟩
theorem Fg:aX Tryz.prog 97=some Ip:=by kernel_rfl
noncomputable def Jb:TI:=⟨.func,1,8,[.nilFunc]⟩
theorem EC:aX Tryz.prog 98=some Jb:=by kernel_rfl
noncomputable def Jo:TI:=⟨.map 122 4,1,8,[.map none]⟩
theorem E7:aX Tryz.prog 99=some Jo:=by kernel_rfl
noncomputable def BT:TI:=⟨.slice 103,1,24,[.slice none 0 0]⟩
theorem Bk:aX Tryz.prog 100=some BT:=by kernel_rfl
noncomputable def zY:TI:=⟨.struct [(0,24),(1,100),(2,99)],3,40,[.pointer none,.slice none 0 0,.map none]⟩
theorem Ay:aX Tryz.prog 101=some zY:=by kernel_rfl
noncomputable def Ab:TI:=⟨.struct [(0,24),(1,100),(2,99)],3,40,[.pointer none,.slice none 0 0,.map none]⟩
theorem Ak:aX Tryz.prog 102=some Ab:=by kernel_rfl
noncomputable def Dm:TI:=⟨.slice 107,1,24,[.slice none 0 0]⟩
theorem DE:aX Tryz.prog 103=some Dm:=by kernel_rfl
noncomputable def Ae:TI:=⟨.func,1,8,[.nilFunc]⟩
theorem DD:aX Tryz.prog 104=some Ae:=by kernel_rfl
noncomputable def El:TI:=⟨.slice 64,1,24,[.slice none 0 0]⟩
theorem B0:aX Tryz.prog 105=some El:=by kernel_rfl
noncomputable def D3:TI:=⟨.struct [(0,48),(6,105)],7,144,[.int .i64 0,.string ⟨#[]⟩,.slice none 0 0,.slice none 0 0,.slice none 0 0,.slice none 0 0,.slice none 0 0]⟩
theorem D6:aX Tryz.prog 106=some D3:=by kernel_rfl
noncomputable def Ai:TI:=⟨.struct [(0,48),(6,105)],7,144,[.int .i64 0,.string ⟨#[]⟩,.slice none 0 0,.slice none 0 0,.slice none 0 0,.slice none 0 0,.slice none 0 0]⟩
theorem Df:aX Tryz.prog 107=some Ai:=by kernel_rfl
noncomputable def Ea:TI:=⟨.func,1,8,[.nilFunc]⟩
theorem DS:aX Tryz.prog 108=some Ea:=by kernel_rfl
noncomputable def Cn:TI:=⟨.struct [(0,56),(5,64),(6,3),(7,3),(8,3)],9,136,[.int .i64 0,.string ⟨#[]⟩,.string ⟨#[]⟩,.slice none 0 0,.slice none 0 0,.slice none 0 0,.int .i64 0,.int .i64 0,.int .i64 0]⟩
theorem CV:aX Tryz.prog 109=some Cn:=by kernel_rfl
noncomputable def As:TI:=⟨.struct [(0,56),(5,64),(6,3),(7,3),(8,3)],9,136,[.int .i64 0,.string ⟨#[]⟩,.string ⟨#[]⟩,.slice none 0 0,.slice none 0 0,.slice none 0 0,.int .i64 0,.int .i64 0,.int .i64 0]⟩
theorem zN:aX Tryz.prog 110=some As:=by kernel_rfl
noncomputable def DR:TI:=⟨.ptr 110,1,8,[.pointer none]⟩
theorem Di:aX Tryz.prog 111=some DR:=by kernel_rfl
noncomputable def AR:TI:=⟨.func,1,8,[.nilFunc]⟩
theorem Dr:aX Tryz.prog 112=some AR:=by kernel_rfl
noncomputable def Bj:TI:=⟨.func,1,8,[.nilFunc]⟩
theorem Ap:aX Tryz.prog 113=some Bj:=by kernel_rfl
noncomputable def AX:TI:=⟨.func,1,8,[.nilFunc]⟩
theorem Cr:aX Tryz.prog 114=some AX:=by kernel_rfl
noncomputable def BY:TI:=⟨.func,1,8,[.nilFunc]⟩
theorem Db:aX Tryz.prog 115=some BY:=by kernel_rfl
noncomputable def Eg:TI:=⟨.func,1,8,[.nilFunc]⟩
theorem Bn:aX Tryz.prog 117=some Eg:=by kernel_rfl
noncomputable def DB:TI:=⟨.func,1,8,[.nilFunc]⟩
theorem CJ:aX Tryz.prog 119=some DB:=by kernel_rfl
noncomputable def Av:TI:=⟨.func,1,8,[.nilFunc]⟩
theorem Dy:aX Tryz.prog 120=some Av:=by kernel_rfl
noncomputable def CF:TI:=⟨.struct [(0,3),(1,3),(2,3),(3,4)],4,32,[.int .i64 0,.int .i64 0,.int .i64 0,.bool false]⟩
theorem Co:aX Tryz.prog 121=some CF:=by kernel_rfl
noncomputable def BR:TI:=⟨.struct [(0,3),(1,3),(2,3),(3,4)],4,32,[.int .i64 0,.int .i64 0,.int .i64 0,.bool false]⟩
theorem CA:aX Tryz.prog 122=some BR:=by kernel_rfl
noncomputable def Cl:TI:=⟨.func,1,8,[.nilFunc]⟩
theorem B6:aX Tryz.prog 123=some Cl:=by kernel_rfl
noncomputable def Dp:TI:=⟨.func,1,8,[.nilFunc]⟩
theorem DJ:aX Tryz.prog 124=some Dp:=by kernel_rfl
noncomputable def DZ:TI:=⟨.func,1,8,[.nilFunc]⟩
theorem CO:aX Tryz.prog 125=some DZ:=by kernel_rfl
noncomputable def DH:TI:=⟨.int .u64,1,8,[.int .u64 0]⟩
theorem DM:aX Tryz.prog 126=some DH:=by kernel_rfl
noncomputable def Cx:TI:=⟨.func,1,8,[.nilFunc]⟩
theorem AH:aX Tryz.prog 128=some Cx:=by kernel_rfl
noncomputable def A_:TI:=⟨.func,1,8,[.nilFunc]⟩
theorem DA:aX Tryz.prog 129=some A_:=by kernel_rfl
noncomputable def An:TI:=⟨.func,1,8,[.nilFunc]⟩
theorem DC:aX Tryz.prog 130=some An:=by kernel_rfl
noncomputable def Ce:TI:=⟨.func,1,8,[.nilFunc]⟩
theorem AW:aX Tryz.prog 131=some Ce:=by kernel_rfl
noncomputable def zU:TI:=⟨.func,1,8,[.nilFunc]⟩
theorem B7:aX Tryz.prog 132=some zU:=by kernel_rfl
noncomputable def A1:TI:=⟨.struct [(0,9),(1,3),(2,9)],3,40,[.string ⟨#[]⟩,.int .i64 0,.string ⟨#[]⟩]⟩
theorem Bl:aX Tryz.prog 133=some A1:=by kernel_rfl
noncomputable def Dz:TI:=⟨.struct [(0,9),(1,3),(2,9)],3,40,[.string ⟨#[]⟩,.int .i64 0,.string ⟨#[]⟩]⟩
theorem B3:aX Tryz.prog 134=some Dz:=by kernel_rfl
noncomputable def Aj:TI:=⟨.func,1,8,[.nilFunc]⟩
theorem Ad:aX Tryz.prog 135=some Aj:=by kernel_rfl
noncomputable def B1:TI:=⟨.func,1,8,[.nilFunc]⟩
theorem Dk:aX Tryz.prog 136=some B1:=by kernel_rfl
noncomputable def Bz:TI:=⟨.func,1,8,[.nilFunc]⟩
theorem BQ:aX Tryz.prog 137=some Bz:=by kernel_rfl
noncomputable def Bx:TI:=⟨.func,1,8,[.nilFunc]⟩
theorem Bc:aX Tryz.prog 138=some Bx:=by kernel_rfl
noncomputable def Eb:TI:=⟨.func,1,8,[.nilFunc]⟩
theorem Bb:aX Tryz.prog 139=some Eb:=by kernel_rfl
noncomputable def Do:TI:=⟨.func,1,8,[.nilFunc]⟩
theorem Ch:aX Tryz.prog 140=some Do:=by kernel_rfl
noncomputable def DP:TI:=⟨.func,1,8,[.nilFunc]⟩
theorem Cg:aX Tryz.prog 141=some DP:=by kernel_rfl
noncomputable def zO:TI:=⟨.func,1,8,[.nilFunc]⟩
theorem BK:aX Tryz.prog 142=some zO:=by kernel_rfl
noncomputable def Ee:TI:=⟨.func,1,8,[.nilFunc]⟩
theorem B5:aX Tryz.prog 143=some Ee:=by kernel_rfl
noncomputable def Be:TI:=⟨.func,1,8,[.nilFunc]⟩
theorem Eh:aX Tryz.prog 144=some Be:=by kernel_rfl
noncomputable def Cf:TI:=⟨.func,1,8,[.nilFunc]⟩
theorem Cm:aX Tryz.prog 145=some Cf:=by kernel_rfl
noncomputable def BB:TI:=⟨.func,1,8,[.nilFunc]⟩
theorem Br:aX Tryz.prog 146=some BB:=by kernel_rfl
noncomputable def D_:TI:=⟨.func,1,8,[.nilFunc]⟩
theorem AD:aX Tryz.prog 147=some D_:=by kernel_rfl
noncomputable def Cb:TI:=⟨.func,1,8,[.nilFunc]⟩
theorem Ep:aX Tryz.prog 148=some Cb:=by kernel_rfl
noncomputable def Ec:TI:=⟨.func,1,8,[.nilFunc]⟩
theorem CT:aX Tryz.prog 149=some Ec:=by kernel_rfl
noncomputable def Cv:TI:=⟨.int .u64,1,8,[.int .u64 0]⟩
theorem AO:aX Tryz.prog 150=some Cv:=by kernel_rfl
noncomputable def DL:TI:=⟨.func,1,8,[.nilFunc]⟩
theorem Ao:aX Tryz.prog 151=some DL:=by kernel_rfl
noncomputable def Ah:TI:=⟨.func,1,8,[.nilFunc]⟩
theorem AT:aX Tryz.prog 152=some Ah:=by kernel_rfl
noncomputable def AY:TI:=⟨.func,1,8,[.nilFunc]⟩
theorem C1:aX Tryz.prog 153=some AY:=by kernel_rfl
noncomputable def BX:TI:=⟨.func,1,8,[.nilFunc]⟩
theorem BA:aX Tryz.prog 154=some BX:=by kernel_rfl
noncomputable def CE:TI:=⟨.func,1,8,[.nilFunc]⟩
theorem zX:aX Tryz.prog 155=some CE:=by kernel_rfl
noncomputable def CI:TI:=⟨.func,1,8,[.nilFunc]⟩
theorem BP:aX Tryz.prog 156=some CI:=by kernel_rfl
noncomputable def Cs:TI:=⟨.int .u32,1,4,[.int .u32 0]⟩
theorem C6:aX Tryz.prog 157=some Cs:=by kernel_rfl
noncomputable def BE:TI:=⟨.func,1,8,[.nilFunc]⟩
theorem zW:aX Tryz.prog 159=some BE:=by kernel_rfl
noncomputable def Aq:TI:=⟨.struct [(0,17),(1,17),(2,17),(3,9)],4,40,[.pointer none,.pointer none,.pointer none,.string ⟨#[]⟩]⟩
theorem AE:aX Tryz.prog 160=some Aq:=by kernel_rfl
noncomputable def zS:TI:=⟨.struct [(0,17),(1,17),(2,17),(3,9)],4,40,[.pointer none,.pointer none,.pointer none,.string ⟨#[]⟩]⟩
theorem Dh:aX Tryz.prog 161=some zS:=by kernel_rfl
noncomputable def By:TI:=⟨.array 0 16,0,0,[]⟩
theorem En:aX Tryz.prog 162=some By:=by kernel_rfl
noncomputable def C5:TI:=⟨.struct [(0,162)],0,0,[]⟩
theorem Ef:aX Tryz.prog 163=some C5:=by kernel_rfl
noncomputable def Dq:TI:=⟨.struct [(0,162)],0,0,[]⟩
theorem CP:aX Tryz.prog 164=some Dq:=by kernel_rfl
noncomputable def D9:TI:=⟨.int .u8,1,1,[.int .u8 0]⟩
theorem Bw:aX Tryz.prog 165=some D9:=by kernel_rfl
noncomputable def DU:TI:=⟨.int .u8,1,1,[.int .u8 0]⟩
theorem DQ:aX Tryz.prog 166=some DU:=by kernel_rfl
noncomputable def BM:TI:=⟨.func,1,8,[.nilFunc]⟩
theorem Da:aX Tryz.prog 167=some BM:=by kernel_rfl
noncomputable def Dj:TI:=⟨.ptr 5,1,8,[.pointer none]⟩
theorem zT:aX Tryz.prog 168=some Dj:=by kernel_rfl
noncomputable def BO:TI:=⟨.int .i32,1,4,[.int .i32 0]⟩
theorem D0:aX Tryz.prog 169=some BO:=by kernel_rfl
noncomputable def DO:TI:=⟨.int .i32,1,4,[.int .i32 0]⟩
theorem zP:aX Tryz.prog 170=some DO:=by kernel_rfl
noncomputable def DX:TI:=⟨.struct [(0,12),(1,12),(2,157),(3,165),(4,5),(5,5),(6,166),(7,167),(8,168),(9,169),(10,170)],11,48,[.int .u64 0,.int .u64 0,.int .u32 0,.int .u8 0,.int .u8 0,.int .u8 0,.int .u8 0,.nilFunc,.pointer none,.int .i32 0,.int .i32 0]⟩
theorem Bm:aX Tryz.prog 171=some DX:=by kernel_rfl
noncomputable def B_:TI:=⟨.struct [(0,12),(1,12),(2,157),(3,165),(4,5),(5,5),(6,166),(7,167),(8,168),(9,169),(10,170)],11,48,[.int .u64 0,.int .u64 0,.int .u32 0,.int .u8 0,.int .u8 0,.int .u8 0,.int .u8 0,.nilFunc,.pointer none,.int .i32 0,.int .i32 0]⟩
theorem Bp:aX Tryz.prog 172=some B_:=by kernel_rfl
noncomputable def tiT:Tr TI:=.node none (.node (some ti1) (.node (some ti3) (.node (some ti7) (.node (some Ih) (.node (some Jc) (.node (some Ja) .leaf .leaf) (.node (some Jq) (.node (some BE) .leaf .leaf) .leaf)) (.node (some Jk) (.node (some Jn) (.node (some Ee) .leaf .leaf) .leaf) (.node (some DR) .leaf .leaf))) (.node (some ID) (.node (some JU) (.node (some Iw) (.node (some Aj) .leaf .leaf) .leaf) (.node (some Dm) (.node (some BM) .leaf .leaf) .leaf)) (.node (some JG) (.node (some I9) (.node (some DL) .leaf .leaf) .leaf) (.node (some DB) .leaf .leaf)))) (.node (some I0) (.node (some Jg) (.node (some JL) (.node (some Kc) (.node (some Ce) .leaf .leaf) .leaf) (.node (some Jo) (.node (some C5) .leaf .leaf) .leaf)) (.node (some I_) (.node (some I1) (.node (some D_) .leaf .leaf) .leaf) (.node (some BY) .leaf .leaf))) (.node (some H_) (.node (some I3) (.node (some HU) (.node (some Eb) .leaf .leaf) .leaf) (.node (some Ai) (.node (some DX) .leaf .leaf) .leaf)) (.node (some IE) (.node (some Ji) (.node (some CE) .leaf .leaf) .leaf) (.node (some Cl) .leaf .leaf))))) (.node (some ti5) (.node (some ti9) (.node (some IA) (.node (some Jj) (.node (some JA) (.node (some A_) .leaf .leaf) .leaf) (.node (some Ip) (.node (some zS) .leaf .leaf) .leaf)) (.node (some Jt) (.node (some F8) (.node (some Cf) .leaf .leaf) .leaf) (.node (some Bj) .leaf .leaf))) (.node (some JJ) (.node (some JB) (.node (some IV) (.node (some Bz) .leaf .leaf) .leaf) (.node (some El) (.node (some BO) .leaf .leaf) .leaf)) (.node (some II) (.node (some Ka) (.node (some AY) .leaf .leaf) .leaf) (.node (some CF) .leaf .leaf)))) (.node (some IY) (.node (some Ii) (.node (some J6) (.node (some HY) (.node (some A1) .leaf .leaf) .leaf) (.node (some zY) (.node (some D9) .leaf .leaf) .leaf)) (.node (some JE) (.node (some JY) (.node (some Ec) .leaf .leaf) .leaf) (.node (some Eg) .leaf .leaf))) (.node (some JX) (.node (some HM) (.node (some If) (.node (some DP) .leaf .leaf) .leaf) (.node (some Cn) .leaf .leaf)) (.node (some Kd) (.node (some Ju) (.node (some Cs) .leaf .leaf) .leaf) (.node (some DZ) .leaf .leaf)))))) (.node (some ti2) (.node (some ti4) (.node (some ti8) (.node (some JS) (.node (some I2) (.node (some HO) (.node (some Cx) .leaf .leaf) .leaf) (.node (some IZ) (.node (some Aq) .leaf .leaf) .leaf)) (.node (some HN) (.node (some IG) (.node (some Be) .leaf .leaf) .leaf) (.node (some AR) .leaf .leaf))) (.node (some HP) (.node (some Il) (.node (some Jp) (.node (some B1) .leaf .leaf) .leaf) (.node (some Ae) (.node (some Dj) .leaf .leaf) .leaf)) (.node (some G_) (.node (some Jh) (.node (some Ah) .leaf .leaf) .leaf) (.node (some Av) .leaf .leaf)))) (.node (some Iv) (.node none (.node (some JH) (.node (some Im) (.node (some zU) .leaf .leaf) .leaf) (.node (some BT) (.node (some Dq) .leaf .leaf) .leaf)) (.node none (.node (some Ir) (.node (some Cb) .leaf .leaf) .leaf) .leaf)) (.node (some IP) (.node (some J8) (.node (some JQ) (.node (some Do) .leaf .leaf) .leaf) (.node (some Ea) (.node (some B_) .leaf .leaf) .leaf)) (.node none (.node (some JW) (.node (some CI) .leaf .leaf) .leaf) (.node (some Dp) .leaf .leaf))))) (.node (some ti6) (.node (some JT) (.node (some IK) (.node (some IS) (.node (some Kb) (.node (some An) .leaf .leaf) .leaf) (.node (some Jb) (.node (some By) .leaf .leaf) .leaf)) (.node (some I4) (.node (some JO) (.node (some BB) .leaf .leaf) .leaf) (.node (some AX) .leaf .leaf))) (.node none (.node (some ET) (.node (some IW) (.node (some Bx) .leaf .leaf) .leaf) (.node (some D3) (.node (some DO) .leaf .leaf) .leaf)) (.node none (.node (some Iu) (.node (some BX) .leaf .leaf) .leaf) (.node (some BR) .leaf .leaf)))) (.node (some JD) (.node (some Ff) (.node (some HX) (.node (some HV) (.node (some Dz) .leaf .leaf) .leaf) (.node (some Ab) (.node (some DU) .leaf .leaf) .leaf)) (.node (some Gx) (.node (some Io) (.node (some Cv) .leaf .leaf) .leaf) .leaf)) (.node (some In) (.node (some Jf) (.node (some Ib) (.node (some zO) .leaf .leaf) .leaf) (.node (some As) .leaf .leaf)) (.node (some IQ) (.node (some Jv) .leaf .leaf) (.node (some DH) .leaf .leaf))))))
theorem zR:tiT.toL=[(1,ti1),(3,ti3),(7,ti7),(15,Ih),(31,Jc),(63,Ja),(95,Jq),(159,BE),(47,Jk),(79,Jn),(143,Ee),(111,DR),(23,ID),(39,JU),(71,Iw),(135,Aj),(103,Dm),(167,BM),(55,JG),(87,I9),(151,DL),(119,DB),(11,I0),(19,Jg),(35,JL),(67,Kc),(131,Ce),(99,Jo),(163,C5),(51,I_),(83,I1),(147,D_),(115,BY),(27,H_),(43,I3),(75,HU),(139,Eb),(107,Ai),(171,DX),(59,IE),(91,Ji),(155,CE),(123,Cl),(5,ti5),(9,ti9),(17,IA),(33,Jj),(65,JA),(129,A_),(97,Ip),(161,zS),(49,Jt),(81,F8),(145,Cf),(113,Bj),(25,JJ),(41,JB),(73,IV),(137,Bz),(105,El),(169,BO),(57,II),(89,Ka),(153,AY),(121,CF),(13,IY),(21,Ii),(37,J6),(69,HY),(133,A1),(101,zY),(165,D9),(53,JE),(85,JY),(149,Ec),(117,Eg),(29,JX),(45,HM),(77,If),(141,DP),(109,Cn),(61,Kd),(93,Ju),(157,Cs),(125,DZ),(2,ti2),(4,ti4),(8,ti8),(16,JS),(32,I2),(64,HO),(128,Cx),(96,IZ),(160,Aq),(48,HN),(80,IG),(144,Be),(112,AR),(24,HP),(40,Il),(72,Jp),(136,B1),(104,Ae),(168,Dj),(56,G_),(88,Jh),(152,Ah),(120,Av),(12,Iv),(36,JH),(68,Im),(132,zU),(100,BT),(164,Dq),(84,Ir),(148,Cb),(28,IP),(44,J8),(76,JQ),(140,Do),(108,Ea),(172,B_),(92,JW),(156,CI),(124,Dp),(6,ti6),(10,JT),(18,IK),(34,IS),(66,Kb),(130,An),(98,Jb),(162,By),(50,I4),(82,JO),(146,BB),(114,AX),(42,ET),(74,IW),(138,Bx),(106,D3),(170,DO),(90,Iu),(154,BX),(122,BR),(14,JD),(22,Ff),(38,HX),(70,HV),(134,Dz),(102,Ab),(166,DU),(54,Gx),(86,Io),(150,Cv),(30,In),(46,Jf),(78,Ib),(142,zO),(110,As),(62,IQ),(94,Jv),(126,DH)]:=by kernel_rfl
theorem wb:∀ t i,tiT.get t=some i→aX Tryz.prog t=some i:=by
 refine Tr.all_get (p:=fun t i=>aX Tryz.prog t=some i) ?_
 rw [zR]
 exact .cons HZ (.cons IJ (.cons Js (.cons Fs (.cons Gr (.cons E5 (.cons Fq (.cons zW (.cons E8 (.cons Gt (.cons B5 (.cons Di (.cons Hh (.cons Ey (.cons G5 (.cons Ad (.cons DE (.cons Da (.cons EB (.cons Fc (.cons Ao (.cons CJ (.cons Gk (.cons Gp (.cons FN (.cons Gh (.cons AW (.cons E7 (.cons Ef (.cons ED (.cons F_ (.cons AD (.cons Db (.cons GE (.cons Gf (.cons GQ (.cons Bb (.cons Df (.cons Bm (.cons EL (.cons E6 (.cons zX (.cons B6 (.cons Kj (.cons I5 (.cons GY (.cons GG (.cons Fj (.cons DA (.cons Fg (.cons Dh (.cons EA (.cons FU (.cons Cm (.cons Ap (.cons GC (.cons G7 (.cons G9 (.cons BQ (.cons B0 (.cons D0 (.cons E3 (.cons Gq (.cons C1 (.cons Co (.cons EF (.cons Fl (.cons EM (.cons Fh (.cons Bl (.cons Ay (.cons Bw (.cons FI (.cons FR (.cons CT (.cons Bn (.cons F7 (.cons EK (.cons GH (.cons Cg (.cons CV (.cons GP (.cons GB (.cons C6 (.cons CO (.cons HR (.cons Ia (.cons JI (.cons FF (.cons EP (.cons Fm (.cons AH (.cons Gb (.cons AE (.cons FV (.cons F9 (.cons Eh (.cons Dr (.cons F4 (.cons FH (.cons Fe (.cons Dk (.cons DD (.cons zT (.cons GZ (.cons Eu (.cons AT (.cons Dy (.cons Hr (.cons Hl (.cons Ho (.cons B7 (.cons Bk (.cons CP (.cons Hc (.cons Ep (.cons FA (.cons G0 (.cons FQ (.cons Ch (.cons DS (.cons Bp (.cons GK (.cons BP (.cons DJ (.cons Id (.cons Fx (.cons GW (.cons Ez (.cons EV (.cons DC (.cons EC (.cons En (.cons Ge (.cons Fw (.cons Br (.cons Cr (.cons F6 (.cons EN (.cons Bc (.cons D6 (.cons zP (.cons FB (.cons BA (.cons CA (.cons GX (.cons EY (.cons GV (.cons Gj (.cons B3 (.cons Ak (.cons DQ (.cons FC (.cons Ha (.cons AO (.cons GA (.cons Fv (.cons Hj (.cons BK (.cons zN (.cons Fa (.cons EZ (.cons DM (.nil)))))))))))))))))))))))))))))))))))))))))))))))))))))))))))))))))))))))))))))))))))))))))))))))))))))))))))))))))))))))))))))))))))))))))))))))))))))))))))))))))))
noncomputable def fnT:Tr Func:=.node none (.node none (.node (some Tryz.f3) (.node (some Tryz.f7) (.node (some Tryz.f15) (.node (some Tryz.f31) (.node (some Tryz.f63) (.node (some Tryz.f127) .leaf .leaf) .leaf) (.node (some Tryz.f95) .leaf .leaf)) (.node (some Tryz.f47) (.node (some Tryz.f79) .leaf .leaf) (.node (some Tryz.f111) .leaf .leaf))) (.node (some Tryz.f23) (.node (some Tryz.f39) (.node (some Tryz.f71) .leaf .leaf) (.node (some Tryz.f103) .leaf .leaf)) (.node (some Tryz.f55) (.node (some Tryz.f87) .leaf .leaf) (.node (some Tryz.f119) .leaf .leaf)))) (.node (some Tryz.f11) (.node (some Tryz.f19) (.node (some Tryz.f35) (.node (some Tryz.f67) (.node (some Tryz.f131) .leaf .leaf) .leaf) (.node (some Tryz.f99) .leaf .leaf)) (.node (some Tryz.f51) (.node (some Tryz.f83) .leaf .leaf) (.node (some Tryz.f115) .leaf .leaf))) (.node (some Tryz.f27) (.node (some Tryz.f43) (.node (some Tryz.f75) .leaf .leaf) (.node (some Tryz.f107) .leaf .leaf)) (.node (some Tryz.f59) (.node (some Tryz.f91) .leaf .leaf) (.node (some Tryz.f123) .leaf .leaf))))) (.node (some Tryz.f5) (.node (some Tryz.f9) (.node (some Tryz.f17) (.node (some Tryz.f33) (.node (some Tryz.f65) (.node (some Tryz.f129) .leaf .leaf) .leaf) (.node (some Tryz.f97) .leaf .leaf)) (.node (some Tryz.f49) (.node (some Tryz.f81) .leaf .leaf) (.node (some Tryz.f113) .leaf .leaf))) (.node (some Tryz.f25) (.node (some Tryz.f41) (.node (some Tryz.f73) .leaf .leaf) (.node (some Tryz.f105) .leaf .leaf)) (.node (some Tryz.f57) (.node (some Tryz.f89) .leaf .leaf) (.node (some Tryz.f121) .leaf .leaf)))) (.node (some Tryz.f13) (.node (some Tryz.f21) (.node (some Tryz.f37) (.node (some Tryz.f69) .leaf .leaf) (.node (some Tryz.f101) .leaf .leaf)) (.node (some Tryz.f53) (.node (some Tryz.f85) .leaf .leaf) (.node (some Tryz.f117) .leaf .leaf))) (.node (some Tryz.f29) (.node (some Tryz.f45) (.node (some Tryz.f77) .leaf .leaf) (.node (some Tryz.f109) .leaf .leaf)) (.node (some Tryz.f61) (.node (some Tryz.f93) .leaf .leaf) (.node (some Tryz.f125) .leaf .leaf)))))) (.node none (.node (some Tryz.f4) (.node (some Tryz.f8) (.node (some Tryz.f16) (.node (some Tryz.f32) (.node (some Tryz.f64) (.node (some Tryz.f128) .leaf .leaf) .leaf) (.node (some Tryz.f96) .leaf .leaf)) (.node (some Tryz.f48) (.node (some Tryz.f80) .leaf .leaf) (.node (some Tryz.f112) .leaf .leaf))) (.node (some Tryz.f24) (.node (some Tryz.f40) (.node (some Tryz.f72) .leaf .leaf) (.node (some Tryz.f104) .leaf .leaf)) (.node (some Tryz.f56) (.node (some Tryz.f88) .leaf .leaf) (.node (some Tryz.f120) .leaf .leaf)))) (.node (some Tryz.f12) (.node (some Tryz.f20) (.node (some Tryz.f36) (.node (some Tryz.f68) .leaf .leaf) (.node (some Tryz.f100) .leaf .leaf)) (.node (some Tryz.f52) (.node (some Tryz.f84) .leaf .leaf) (.node (some Tryz.f116) .leaf .leaf))) (.node (some Tryz.f28) (.node (some Tryz.f44) (.node (some Tryz.f76) .leaf .leaf) (.node (some Tryz.f108) .leaf .leaf)) (.node (some Tryz.f60) (.node (some Tryz.f92) .leaf .leaf) (.node (some Tryz.f124) .leaf .leaf))))) (.node (some Tryz.f6) (.node (some Tryz.f10) (.node (some Tryz.f18) (.node (some Tryz.f34) (.node (some Tryz.f66) (.node (some Tryz.f130) .leaf .leaf) .leaf) (.node (some Tryz.f98) .leaf .leaf)) (.node (some Tryz.f50) (.node (some Tryz.f82) .leaf .leaf) (.node (some Tryz.f114) .leaf .leaf))) (.node (some Tryz.f26) (.node (some Tryz.f42) (.node (some Tryz.f74) .leaf .leaf) (.node (some Tryz.f106) .leaf .leaf)) (.node (some Tryz.f58) (.node (some Tryz.f90) .leaf .leaf) (.node (some Tryz.f122) .leaf .leaf)))) (.node (some Tryz.f14) (.node (some Tryz.f22) (.node (some Tryz.f38) (.node (some Tryz.f70) .leaf .leaf) (.node (some Tryz.f102) .leaf .leaf)) (.node (some Tryz.f54) (.node (some Tryz.f86) .leaf .leaf) (.node (some Tryz.f118) .leaf .leaf))) (.node (some Tryz.f30) (.node (some Tryz.f46) (.node (some Tryz.f78) .leaf .leaf) (.node (some Tryz.f110) .leaf .leaf)) (.node (some Tryz.f62) (.node (some Tryz.f94) .leaf .leaf) (.node (some Tryz.f126) .leaf .leaf))))))
theorem D5:fnT.toL=[(3,Tryz.f3),(7,Tryz.f7),(15,Tryz.f15),(31,Tryz.f31),(63,Tryz.f63),(127,Tryz.f127),(95,Tryz.f95),(47,Tryz.f47),(79,Tryz.f79),(111,Tryz.f111),(23,Tryz.f23),(39,Tryz.f39),(71,Tryz.f71),(103,Tryz.f103),(55,Tryz.f55),(87,Tryz.f87),(119,Tryz.f119),(11,Tryz.f11),(19,Tryz.f19),(35,Tryz.f35),(67,Tryz.f67),(131,Tryz.f131),(99,Tryz.f99),(51,Tryz.f51),(83,Tryz.f83),(115,Tryz.f115),(27,Tryz.f27),(43,Tryz.f43),(75,Tryz.f75),(107,Tryz.f107),(59,Tryz.f59),(91,Tryz.f91),(123,Tryz.f123),(5,Tryz.f5),(9,Tryz.f9),(17,Tryz.f17),(33,Tryz.f33),(65,Tryz.f65),(129,Tryz.f129),(97,Tryz.f97),(49,Tryz.f49),(81,Tryz.f81),(113,Tryz.f113),(25,Tryz.f25),(41,Tryz.f41),(73,Tryz.f73),(105,Tryz.f105),(57,Tryz.f57),(89,Tryz.f89),(121,Tryz.f121),(13,Tryz.f13),(21,Tryz.f21),(37,Tryz.f37),(69,Tryz.f69),(101,Tryz.f101),(53,Tryz.f53),(85,Tryz.f85),(117,Tryz.f117),(29,Tryz.f29),(45,Tryz.f45),(77,Tryz.f77),(109,Tryz.f109),(61,Tryz.f61),(93,Tryz.f93),(125,Tryz.f125),(4,Tryz.f4),(8,Tryz.f8),(16,Tryz.f16),(32,Tryz.f32),(64,Tryz.f64),(128,Tryz.f128),(96,Tryz.f96),(48,Tryz.f48),(80,Tryz.f80),(112,Tryz.f112),(24,Tryz.f24),(40,Tryz.f40),(72,Tryz.f72),(104,Tryz.f104),(56,Tryz.f56),(88,Tryz.f88),(120,Tryz.f120),(12,Tryz.f12),(20,Tryz.f20),(36,Tryz.f36),(68,Tryz.f68),(100,Tryz.f100),(52,Tryz.f52),(84,Tryz.f84),(116,Tryz.f116),(28,Tryz.f28),(44,Tryz.f44),(76,Tryz.f76),(108,Tryz.f108),(60,Tryz.f60),(92,Tryz.f92),(124,Tryz.f124),(6,Tryz.f6),(10,Tryz.f10),(18,Tryz.f18),(34,Tryz.f34),(66,Tryz.f66),(130,Tryz.f130),(98,Tryz.f98),(50,Tryz.f50),(82,Tryz.f82),(114,Tryz.f114),(26,Tryz.f26),(42,Tryz.f42),(74,Tryz.f74),(106,Tryz.f106),(58,Tryz.f58),(90,Tryz.f90),(122,Tryz.f122),(14,Tryz.f14),(22,Tryz.f22),(38,Tryz.f38),(70,Tryz.f70),(102,Tryz.f102),(54,Tryz.f54),(86,Tryz.f86),(118,Tryz.f118),(30,Tryz.f30),(46,Tryz.f46),(78,Tryz.f78),(110,Tryz.f110),(62,Tryz.f62),(94,Tryz.f94),(126,Tryz.f126)]:=by kernel_rfl
def fnP (k : Nat) (f : Func) : Prop := Tryz.prog.funcs[k]? = some f ∧ (f.name == "runtime.NumGoroutine") = false
theorem CW : ∀ k f, fnT.get k = some f → Tryz.prog.funcs[k]? = some f ∧ (f.name == "runtime.NumGoroutine") = false := by
 refine Tr.all_get (p:=fnP) ?_
 rw [D5]
 exact .cons ⟨Tryz.func3,by kernel_rfl⟩ (.cons ⟨Tryz.func7,by kernel_rfl⟩ (.cons ⟨Tryz.func15,by kernel_rfl⟩ (.cons ⟨Tryz.func31,by kernel_rfl⟩ (.cons ⟨Tryz.func63,by kernel_rfl⟩ (.cons ⟨Tryz.func127,by kernel_rfl⟩ (.cons ⟨Tryz.func95,by kernel_rfl⟩ (.cons ⟨Tryz.func47,by kernel_rfl⟩ (.cons ⟨Tryz.func79,by kernel_rfl⟩ (.cons ⟨Tryz.func111,by kernel_rfl⟩ (.cons ⟨Tryz.func23,by kernel_rfl⟩ (.cons ⟨Tryz.func39,by kernel_rfl⟩ (.cons ⟨Tryz.func71,by kernel_rfl⟩ (.cons ⟨Tryz.func103,by kernel_rfl⟩ (.cons ⟨Tryz.func55,by kernel_rfl⟩ (.cons ⟨Tryz.func87,by kernel_rfl⟩ (.cons ⟨Tryz.func119,by kernel_rfl⟩ (.cons ⟨Tryz.func11,by kernel_rfl⟩ (.cons ⟨Tryz.func19,by kernel_rfl⟩ (.cons ⟨Tryz.func35,by kernel_rfl⟩ (.cons ⟨Tryz.func67,by kernel_rfl⟩ (.cons ⟨Tryz.func131,by kernel_rfl⟩ (.cons ⟨Tryz.func99,by kernel_rfl⟩ (.cons ⟨Tryz.func51,by kernel_rfl⟩ (.cons ⟨Tryz.func83,by kernel_rfl⟩ (.cons ⟨Tryz.func115,by kernel_rfl⟩ (.cons ⟨Tryz.func27,by kernel_rfl⟩ (.cons ⟨Tryz.func43,by kernel_rfl⟩ (.cons ⟨Tryz.func75,by kernel_rfl⟩ (.cons ⟨Tryz.func107,by kernel_rfl⟩ (.cons ⟨Tryz.func59,by kernel_rfl⟩ (.cons ⟨Tryz.func91,by kernel_rfl⟩ (.cons ⟨Tryz.func123,by kernel_rfl⟩ (.cons ⟨Tryz.func5,by kernel_rfl⟩ (.cons ⟨Tryz.func9,by kernel_rfl⟩ (.cons ⟨Tryz.func17,by kernel_rfl⟩ (.cons ⟨Tryz.func33,by kernel_rfl⟩ (.cons ⟨Tryz.func65,by kernel_rfl⟩ (.cons ⟨Tryz.func129,by kernel_rfl⟩ (.cons ⟨Tryz.func97,by kernel_rfl⟩ (.cons ⟨Tryz.func49,by kernel_rfl⟩ (.cons ⟨Tryz.func81,by kernel_rfl⟩ (.cons ⟨Tryz.func113,by kernel_rfl⟩ (.cons ⟨Tryz.func25,by kernel_rfl⟩ (.cons ⟨Tryz.func41,by kernel_rfl⟩ (.cons ⟨Tryz.func73,by kernel_rfl⟩ (.cons ⟨Tryz.func105,by kernel_rfl⟩ (.cons ⟨Tryz.func57,by kernel_rfl⟩ (.cons ⟨Tryz.func89,by kernel_rfl⟩ (.cons ⟨Tryz.func121,by kernel_rfl⟩ (.cons ⟨Tryz.func13,by kernel_rfl⟩ (.cons ⟨Tryz.func21,by kernel_rfl⟩ (.cons ⟨Tryz.func37,by kernel_rfl⟩ (.cons ⟨Tryz.func69,by kernel_rfl⟩ (.cons ⟨Tryz.func101,by kernel_rfl⟩ (.cons ⟨Tryz.func53,by kernel_rfl⟩ (.cons ⟨Tryz.func85,by kernel_rfl⟩ (.cons ⟨Tryz.func117,by kernel_rfl⟩ (.cons ⟨Tryz.func29,by kernel_rfl⟩ (.cons ⟨Tryz.func45,by kernel_rfl⟩ (.cons ⟨Tryz.func77,by kernel_rfl⟩ (.cons ⟨Tryz.func109,by kernel_rfl⟩ (.cons ⟨Tryz.func61,by kernel_rfl⟩ (.cons ⟨Tryz.func93,by kernel_rfl⟩ (.cons ⟨Tryz.func125,by kernel_rfl⟩ (.cons ⟨Tryz.func4,by kernel_rfl⟩ (.cons ⟨Tryz.func8,by kernel_rfl⟩ (.cons ⟨Tryz.func16,by kernel_rfl⟩ (.cons ⟨Tryz.func32,by kernel_rfl⟩ (.cons ⟨Tryz.func64,by kernel_rfl⟩ (.cons ⟨Tryz.func128,by kernel_rfl⟩ (.cons ⟨Tryz.func96,by kernel_rfl⟩ (.cons ⟨Tryz.func48,by kernel_rfl⟩ (.cons ⟨Tryz.func80,by kernel_rfl⟩ (.cons ⟨Tryz.func112,by kernel_rfl⟩ (.cons ⟨Tryz.func24,by kernel_rfl⟩ (.cons ⟨Tryz.func40,by kernel_rfl⟩ (.cons ⟨Tryz.func72,by kernel_rfl⟩ (.cons ⟨Tryz.func104,by kernel_rfl⟩ (.cons ⟨Tryz.func56,by kernel_rfl⟩ (.cons ⟨Tryz.func88,by kernel_rfl⟩ (.cons ⟨Tryz.func120,by kernel_rfl⟩ (.cons ⟨Tryz.func12,by kernel_rfl⟩ (.cons ⟨Tryz.func20,by kernel_rfl⟩ (.cons ⟨Tryz.func36,by kernel_rfl⟩ (.cons ⟨Tryz.func68,by kernel_rfl⟩ (.cons ⟨Tryz.func100,by kernel_rfl⟩ (.cons ⟨Tryz.func52,by kernel_rfl⟩ (.cons ⟨Tryz.func84,by kernel_rfl⟩ (.cons ⟨Tryz.func116,by kernel_rfl⟩ (.cons ⟨Tryz.func28,by kernel_rfl⟩ (.cons ⟨Tryz.func44,by kernel_rfl⟩ (.cons ⟨Tryz.func76,by kernel_rfl⟩ (.cons ⟨Tryz.func108,by kernel_rfl⟩ (.cons ⟨Tryz.func60,by kernel_rfl⟩ (.cons ⟨Tryz.func92,by kernel_rfl⟩ (.cons ⟨Tryz.func124,by kernel_rfl⟩ (.cons ⟨Tryz.func6,by kernel_rfl⟩ (.cons ⟨Tryz.func10,by kernel_rfl⟩ (.cons ⟨Tryz.func18,by kernel_rfl⟩ (.cons ⟨Tryz.func34,by kernel_rfl⟩ (.cons ⟨Tryz.func66,by kernel_rfl⟩ (.cons ⟨Tryz.func130,by kernel_rfl⟩ (.cons ⟨Tryz.func98,by kernel_rfl⟩ (.cons ⟨Tryz.func50,by kernel_rfl⟩ (.cons ⟨Tryz.func82,by kernel_rfl⟩ (.cons ⟨Tryz.func114,by kernel_rfl⟩ (.cons ⟨Tryz.func26,by kernel_rfl⟩ (.cons ⟨Tryz.func42,by kernel_rfl⟩ (.cons ⟨Tryz.func74,by kernel_rfl⟩ (.cons ⟨Tryz.func106,by kernel_rfl⟩ (.cons ⟨Tryz.func58,by kernel_rfl⟩ (.cons ⟨Tryz.func90,by kernel_rfl⟩ (.cons ⟨Tryz.func122,by kernel_rfl⟩ (.cons ⟨Tryz.func14,by kernel_rfl⟩ (.cons ⟨Tryz.func22,by kernel_rfl⟩ (.cons ⟨Tryz.func38,by kernel_rfl⟩ (.cons ⟨Tryz.func70,by kernel_rfl⟩ (.cons ⟨Tryz.func102,by kernel_rfl⟩ (.cons ⟨Tryz.func54,by kernel_rfl⟩ (.cons ⟨Tryz.func86,by kernel_rfl⟩ (.cons ⟨Tryz.func118,by kernel_rfl⟩ (.cons ⟨Tryz.func30,by kernel_rfl⟩ (.cons ⟨Tryz.func46,by kernel_rfl⟩ (.cons ⟨Tryz.func78,by kernel_rfl⟩ (.cons ⟨Tryz.func110,by kernel_rfl⟩ (.cons ⟨Tryz.func62,by kernel_rfl⟩ (.cons ⟨Tryz.func94,by kernel_rfl⟩ (.cons ⟨Tryz.func126,by kernel_rfl⟩ (.nil)))))))))))))))))))))))))))))))))))))))))))))))))))))))))))))))))))))))))))))))))))))))))))))))))))))))))))))))))))))))))))))))))
noncomputable def ky7:List KK:=[.int .i64,.int .i64,.bool,.int .u8]
theorem Jl:je Tryz.prog 7=some ky7:=by kernel_rfl
noncomputable def ky8:List KK:=[.int .i64,.int .i64,.bool,.int .u8]
theorem IR:je Tryz.prog 8=some ky8:=by kernel_rfl
noncomputable def Jd:List KK:=[.string,.string]
theorem GL:je Tryz.prog 80=some Jd:=by kernel_rfl
noncomputable def JM:List KK:=[.string,.string]
theorem FX:je Tryz.prog 81=some JM:=by kernel_rfl
noncomputable def JP:List KK:=[.int .i64,.string,.int .i64,.bool,.int .i64]
theorem Gv:je Tryz.prog 94=some JP:=by kernel_rfl
noncomputable def JN:List KK:=[.int .i64,.string,.int .i64,.bool,.int .i64]
theorem FK:je Tryz.prog 95=some JN:=by kernel_rfl
noncomputable def Bt:List KK:=[.int .i64,.int .i64,.int .i64,.bool]
theorem Aa:je Tryz.prog 121=some Bt:=by kernel_rfl
noncomputable def A5:List KK:=[.int .i64,.int .i64,.int .i64,.bool]
theorem D8:je Tryz.prog 122=some A5:=by kernel_rfl
noncomputable def Dt:List KK:=[.string,.int .i64,.string]
theorem C_:je Tryz.prog 133=some Dt:=by kernel_rfl
noncomputable def Au:List KK:=[.string,.int .i64,.string]
theorem DK:je Tryz.prog 134=some Au:=by kernel_rfl
noncomputable def kyT:Tr (List KK):=.node none (.node none (.node none (.node (some ky7) (.node none (.node none .leaf (.node (some JN) .leaf .leaf)) .leaf) .leaf) .leaf) (.node none (.node none (.node none .leaf (.node none (.node (some JM) .leaf .leaf) .leaf)) (.node none .leaf (.node none .leaf (.node (some Bt) .leaf .leaf)))) (.node none (.node none (.node none (.node none (.node (some Dt) .leaf .leaf) .leaf) .leaf) .leaf) .leaf))) (.node none (.node none (.node (some ky8) (.node none .leaf (.node none (.node (some Jd) .leaf .leaf) .leaf)) .leaf) .leaf) (.node none (.node none .leaf (.node none .leaf (.node none .leaf (.node (some A5) .leaf .leaf)))) (.node none (.node none (.node none (.node none (.node (some Au) .leaf .leaf) .leaf) .leaf) .leaf) (.node none .leaf (.node none (.node (some JP) .leaf .leaf) .leaf)))))
theorem AM:kyT.toL=[(7,ky7),(95,JN),(81,JM),(121,Bt),(133,Dt),(8,ky8),(80,Jd),(122,A5),(134,Au),(94,JP)]:=by kernel_rfl
theorem Ke:∀ t ks,kyT.get t=some ks→qD Tryz.prog t ks:=by
 refine Tr.all_get (p:=fun t ks=>qD Tryz.prog t ks) ?_
 rw [AM]
 exact .cons (fR Jl) (.cons (fR FK) (.cons (fR FX) (.cons (fR Aa) (.cons (fR C_) (.cons (fR IR) (.cons (fR GL) (.cons (fR D8) (.cons (fR DK) (.cons (fR Gv) (.nil))))))))))
noncomputable def CX (σ:Sig) (kn:List (cJ × Bool)) (hkn:qE σ kn):Ctx Tryz.prog:=⟨tiT.get,wb,kyT.get,Ke,σ,kn,hkn⟩
theorem mixed:Tryz.prog.follows .mixedOrders=true:=by kernel_rfl
noncomputable abbrev CZ (σ:Sig):Ctx Tryz.prog:=CX σ [] yC
def jr (j:Nat→AV):Nat→Nat→List AV
  | _,0=>[]
  | a,n+1=>j a::jr j (a+1) n
noncomputable abbrev fQ (f:Func) (σ:Sig) (K:AV→Hp→Prop):=fnQ (CZ σ).ti f.results.toList K
theorem gwp {σ:Sig} (g:Nat) {f:Nat} {fn:Func} {c:Code} {xs:List AV} {H:Hp} {K:AV→Hp→Prop} (hf:fnT.get f=some fn) (hb:fn.body=some c) (h:wp (CZ σ) g c (xs++List.replicate (fn.ntmps - xs.length) (.lit undef)) H (fnQ (CZ σ).ti fn.results.toList K)):∃ r H',az Tryz.prog σ f xs H r H'∧K r H' :=
  vZ (CZ σ) mixed g (CW f fn hf).1 hb (CW f fn hf).2 h
theorem lrd {σ:Sig} {g:Nat} {c:Code} {T:List AV} {H:Hp} {Q:Exit→List AV→Hp→Prop} (h:wp (CZ σ) g c T H (nx Q fun T1 H1=>∀ js,a_ (CZ σ) c (de g js 0 T1) H1 Q)):a_ (CZ σ) c T H Q :=
  a_.round (CZ σ) mixed h
end Go.Proofs.YthmaggcfghjmfaaGreat.Ev
namespace Go.Proofs.YthmaggcfghjmfaaGreat.Ev
set_option maxRecDepth 100000
set_option maxHeartbeats 4000000
abbrev fC:Nat:=3
abbrev iQ:Nat:=5
abbrev gL:Nat:=6
abbrev jv:Nat:=7
abbrev ir:Nat:=8
abbrev iY:Nat:=9
abbrev gM:Nat:=10
abbrev dC:Nat:=11
abbrev dL:Nat:=12
abbrev gj:Nat:=13
abbrev jD:Nat:=15
abbrev li:Nat:=16
abbrev gV:Nat:=17
abbrev fi:Nat:=18
abbrev gF:Nat:=19
abbrev gg:Nat:=20
abbrev d_:Nat:=21
abbrev lJ:Nat:=22
abbrev kD:Nat:=23
abbrev gh:Nat:=24
abbrev dS:Nat:=25
abbrev dU:Nat:=26
abbrev dJ:Nat:=27
abbrev j8:Nat:=28
abbrev il:Nat:=29
abbrev f_:Nat:=30
abbrev dB:Nat:=31
abbrev ak:Nat:=32
abbrev eS:Nat:=33
abbrev bG:Nat:=34
abbrev dE:Nat:=35
abbrev cR:Nat:=36
abbrev dD:Nat:=37
abbrev co:Nat:=38
abbrev aA:Nat:=39
abbrev bW:Nat:=40
abbrev bg:Nat:=41
abbrev gK:Nat:=42
abbrev im:Nat:=43
abbrev ff:Nat:=44
abbrev dx:Nat:=45
abbrev da:Nat:=46
abbrev c_:Nat:=47
abbrev gG:Nat:=48
abbrev ef:Nat:=49
abbrev bu:Nat:=50
abbrev ek:Nat:=51
abbrev aN:Nat:=52
abbrev eK:Nat:=53
abbrev fD:Nat:=54
abbrev dq:Nat:=55
abbrev ev:Nat:=56
abbrev ck:Nat:=57
abbrev cp:Nat:=58
abbrev lG:Nat:=59
abbrev jy:Nat:=60
abbrev eA:Nat:=61
abbrev gR:Nat:=62
abbrev ed:Nat:=63
abbrev dr:Nat:=64
abbrev eX:Nat:=65
abbrev fV:Nat:=66
abbrev ju:Nat:=67
abbrev ii:Nat:=68
abbrev eg:Nat:=69
abbrev fF:Nat:=70
abbrev fG:Nat:=71
abbrev iD:Nat:=72
abbrev lu:Nat:=73
abbrev fd:Nat:=74
abbrev eV:Nat:=75
abbrev eT:Nat:=76
abbrev fS:Nat:=77
abbrev j6:Nat:=78
abbrev j9:Nat:=79
abbrev cD:Nat:=80
abbrev dh:Nat:=81
abbrev df:Nat:=82
abbrev bI:Nat:=83
abbrev bU:Nat:=84
abbrev b_:Nat:=85
abbrev dA:Nat:=86
abbrev dk:Nat:=87
abbrev fL:Nat:=88
abbrev kg:Nat:=89
abbrev jx:Nat:=90
abbrev dT:Nat:=91
abbrev du:Nat:=92
abbrev eM:Nat:=93
abbrev fu:Nat:=94
abbrev kz:Nat:=95
abbrev fX:Nat:=96
abbrev gu:Nat:=97
abbrev gJ:Nat:=98
abbrev kv:Nat:=99
abbrev mP:Nat:=100
abbrev dR:Nat:=101
abbrev fp:Nat:=102
abbrev dK:Nat:=103
abbrev lg:Nat:=104
abbrev dX:Nat:=105
abbrev ku:Nat:=106
abbrev fW:Nat:=107
abbrev fc:Nat:=108
abbrev ep:Nat:=109
abbrev lO:Nat:=110
abbrev jB:Nat:=111
abbrev gY:Nat:=112
abbrev jw:Nat:=113
abbrev d5:Nat:=114
abbrev fe:Nat:=115
abbrev jM:Nat:=116
abbrev kA:Nat:=117
abbrev cP:Nat:=118
abbrev cQ:Nat:=119
abbrev ji:Nat:=121
abbrev iS:Nat:=122
abbrev uH:Nat:=3
abbrev J9:Nat:=4
abbrev eN:Nat:=9
abbrev dH:Nat:=22
abbrev oR:Nat:=28
abbrev rY:Nat:=34
abbrev qR:Nat:=36
abbrev t8:Nat:=40
abbrev pX:Nat:=41
abbrev i7:Nat:=42
abbrev rT:Nat:=43
abbrev ry:Nat:=45
abbrev wZ:Nat:=48
abbrev gI:Nat:=54
abbrev lQ:Nat:=56
abbrev lF:Nat:=81
abbrev wL:Nat:=134
theorem Ci:∃ i,tiT.get uH=some i∧i.d=.int .i64∧i.size=1:=⟨_,(by kernel_rfl:tiT.get uH=some ti3),by kernel_rfl,by kernel_rfl⟩
theorem j7:∃ i,tiT.get eN=some i∧i.d=.string∧i.size=1:=⟨_,(by kernel_rfl:tiT.get eN=some ti9),by kernel_rfl,by kernel_rfl⟩
theorem kV:∃ i,tiT.get dH=some i∧i.d=.slice lQ∧i.size=1:=⟨_,(by kernel_rfl:tiT.get dH=some Ff),by kernel_rfl,by kernel_rfl⟩
theorem ru:∃ i,tiT.get i7=some i∧i.d=.slice eN∧i.size=1:=⟨_,(by kernel_rfl:tiT.get i7=some ET),by kernel_rfl,by kernel_rfl⟩
theorem pq:∃ i,tiT.get gI=some i∧i.d=.slice lF∧i.size=1:=⟨_,(by kernel_rfl:tiT.get gI=some Gx),by kernel_rfl,by kernel_rfl⟩
theorem m8:∃ i,tiT.get lQ=some i∧i.d=.struct [(0,uH),(1,eN),(2,eN),(3,i7),(4,gI)]∧i.size=5:=⟨_,(by kernel_rfl:tiT.get lQ=some G_),by kernel_rfl,by kernel_rfl⟩
theorem mX:∃ i,tiT.get lF=some i∧i.d=.struct [(0,eN),(1,eN)]∧i.size=2:=⟨_,(by kernel_rfl:tiT.get lF=some F8),by kernel_rfl,by kernel_rfl⟩
end Go.Proofs.YthmaggcfghjmfaaGreat.Ev
