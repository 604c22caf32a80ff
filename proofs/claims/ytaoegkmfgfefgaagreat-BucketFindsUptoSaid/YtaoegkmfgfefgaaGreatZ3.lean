/- The walks, part 3: the evaluator, the functions, the laws. Conditions: none. -/
import Derived.Lib.Index
import Derived.Lib.Strings
import Derived.Test.YtaoegkmfgfefgaaGreatProg
import Derived.Test.YtaoegkmfgfefgaaGreatZ2
namespace Go.Proofs.YtaoegkmfgfefgaaGreat.Ev
set_option linter.unusedVariables false
set_option linter.unusedSimpArgs false
structure At where
 name:ByteArray
 op:Int
 text:ByteArray
mutual
inductive Pt where
 | mk (comb:Int) (c:Cp)
inductive Cp where
 | mk (tag:ByteArray) (ids classes:List ByteArray) (attrs:List At) (pseudos:List Ps)
inductive Ps where
 | mk (kind a b:Int) (list:List (List Pt))
end
def Pt.comb:Pt→Int | .mk k _=>k
def Pt.c:Pt→Cp | .mk _ c=>c
def Cp.tag:Cp→ByteArray | .mk t _ _ _ _=>t
def Cp.ids:Cp→List ByteArray | .mk _ i _ _ _=>i
def Cp.classes:Cp→List ByteArray | .mk _ _ c _ _=>c
def Cp.attrs:Cp→List At | .mk _ _ _ a _=>a
def Cp.pseudos:Cp→List Ps | .mk _ _ _ _ p=>p
def Ps.kind:Ps→Int | .mk k _ _ _=>k
def Ps.a:Ps→Int | .mk _ a _ _=>a
def Ps.b:Ps→Int | .mk _ _ b _=>b
def Ps.list:Ps→List (List Pt) | .mk _ _ _ l=>l
abbrev Sl:=List Pt
structure ST where
 prop:Int
 kind:Int
 n:Int
 imp:Bool
structure RL where
 sels:List Sl
 sets:List ST
structure Nd where
 parent:Int
 tag:ByteArray
 id:ByteArray
 classes:List ByteArray
 attrs:List (ByteArray × ByteArray)
def encAt (a:At):List AV:=[Sx a.name,I a.op,Sx a.text]
def strs (l:List ByteArray):AV:=.imm 1 (l.map fun s=>[Sx s])
mutual
def encPt:Pt→List AV
 | .mk k c=>I k::encCp c
def encCp:Cp→List AV
 | .mk t i c a p=>[Sx t,strs i,strs c,.imm 3 (a.map encAt),.imm 4 (encPss p)]
def encPs:Ps→List AV
 | .mk k a b l=>[I k,I a,I b,.imm 1 (encSls l)]
def encPts:List Pt→List (List AV)
 | []=>[]
 | p::r=>encPt p::encPts r
def encPss:List Ps→List (List AV)
 | []=>[]
 | p::r=>encPs p::encPss r
def encSls:List (List Pt)→List (List AV)
 | []=>[]
 | s::r=>[.imm 6 (encPts s)]::encSls r
end
theorem encPts_map:∀ (l:List Pt),encPts l=l.map encPt
 | []=>rfl
 | p::r=>by rw [encPts,encPts_map r]; rfl
theorem encPss_map:∀ (l:List Ps),encPss l=l.map encPs
 | []=>rfl
 | p::r=>by rw [encPss,encPss_map r]; rfl
def encSl (s:Sl):List AV:=[.imm 6 (s.map encPt)]
theorem encSls_map:∀ (l:List Sl),encSls l=l.map encSl
 | []=>rfl
 | s::r=>by rw [encSls,encSls_map r,encPts_map]; rfl
theorem encPt_eq (p:Pt):encPt p=I p.comb::encCp p.c:=by cases p; rfl
theorem encCp_eq (c:Cp):encCp c=[Sx c.tag,strs c.ids,strs c.classes,.imm 3 (c.attrs.map encAt),.imm 4 (c.pseudos.map encPs)]:=by
 cases c; rw [encCp,encPss_map]; rfl
theorem encPs_eq (p:Ps):encPs p=[I p.kind,I p.a,I p.b,.imm 1 (p.list.map encSl)]:=by
 cases p; rw [encPs,encSls_map]; rfl
@[simp] theorem len_encPt (p:Pt):(encPt p).length=6:=by rw [encPt_eq,encCp_eq]; rfl
@[simp] theorem len_encCp (p:Cp):(encCp p).length=5:=by rw [encCp_eq]; rfl
@[simp] theorem len_encPs (p:Ps):(encPs p).length=4:=by rw [encPs_eq]; rfl
@[simp] theorem len_encSl (p:Sl):(encSl p).length=1:=rfl
@[simp] theorem len_encAt (p:At):(encAt p).length=3:=rfl
def sls (l:List Sl):AV:=.imm 1 (l.map encSl)
def encST (s:ST):List AV:=[I s.prop,I s.kind,I s.n,Bo s.imp]
def encRL (r:RL):List AV:=[sls r.sels,.imm 4 (r.sets.map encST)]
def rls (l:List RL):AV:=.imm 2 (l.map encRL)
def encPr (p:ByteArray × ByteArray):List AV:=[Sx p.1,Sx p.2]
def encNd (n:Nd):List AV:=[I n.parent,Sx n.tag,Sx n.id,strs n.classes,.imm 2 (n.attrs.map encPr)]
def nds (l:List Nd):AV:=.imm 5 (l.map encNd)
theorem noIds_map {α:Type} (f:α→List AV) (hf:∀ x,noIds (f x)=true):∀ l:List α,noIdss (l.map f)=true
 | []=>rfl
 | x::r=>by simp only [List.map_cons,noIdss,hf,noIds_map f hf r,Bool.and_self]
@[simp] theorem noId_strs (l:List ByteArray):noId (strs l)=true:=by
 unfold strs; simp only [noId]; exact noIds_map _ (fun _=>rfl) l
theorem noId_At (a:At):noIds (encAt a)=true:=rfl
mutual
theorem noId_Pt:∀ (p:Pt),noIds (encPt p)=true
 | .mk k c=>by rw [encPt]; simp only [noIds,noId,noId_Cp c,Bool.and_self]
theorem noId_Cp:∀ (c:Cp),noIds (encCp c)=true
 | .mk t i c a p=>by rw [encCp]; simp only [noIds,noId,noId_strs,noIds_map _ noId_At,noId_Pss p,Bool.and_self]
theorem noId_Ps:∀ (p:Ps),noIds (encPs p)=true
 | .mk k a b l=>by rw [encPs]; simp only [noIds,noId,noId_Sls l,Bool.and_self]
theorem noId_Pts:∀ (l:List Pt),noIdss (encPts l)=true
 | []=>rfl
 | p::r=>by rw [encPts]; simp only [noIdss,noId_Pt p,noId_Pts r,Bool.and_self]
theorem noId_Pss:∀ (l:List Ps),noIdss (encPss l)=true
 | []=>rfl
 | p::r=>by rw [encPss]; simp only [noIdss,noId_Ps p,noId_Pss r,Bool.and_self]
theorem noId_Sls:∀ (l:List (List Pt)),noIdss (encSls l)=true
 | []=>rfl
 | s::r=>by rw [encSls]; simp only [noIdss,noIds,noId,noId_Pts s,noId_Sls r,Bool.and_self]
end
theorem noId_Sl (s:Sl):noIds (encSl s)=true:=by
 unfold encSl; rw [← encPts_map]; simp only [noIds,noId,noId_Pts,Bool.and_self]
@[simp] theorem noId_sls (l:List Sl):noId (sls l)=true:=by unfold sls; simp only [noId]; exact noIds_map _ noId_Sl l
theorem noId_ST (s:ST):noIds (encST s)=true:=rfl
theorem noId_RL (r:RL):noIds (encRL r)=true:=by unfold encRL; simp only [noIds,noId,noId_sls,noIds_map _ noId_ST,Bool.and_self]
@[simp] theorem noId_rls (l:List RL):noId (rls l)=true:=by unfold rls; simp only [noId]; exact noIds_map _ noId_RL l
theorem noId_Nd (n:Nd):noIds (encNd n)=true:=by unfold encNd; simp only [noIds,noId,noId_strs,noIds_map encPr (fun _=>rfl),Bool.and_self]
@[simp] theorem noId_nds (l:List Nd):noId (nds l)=true:=by unfold nds; simp only [noId]; exact noIds_map _ noId_Nd l
end Go.Proofs.YtaoegkmfgfefgaaGreat.Ev
namespace Go.Proofs.YtaoegkmfgfefgaaGreat.Ev
@[simp] theorem one_strs (l:List ByteArray):AV.one (strs l)=true:=rfl
@[simp] theorem one_Cp (c:Cp):(encCp c).all AV.one=true:=by rw [encCp_eq]; rfl
@[simp] theorem one_Pt (p:Pt):(encPt p).all AV.one=true:=by rw [encPt_eq,List.all_cons,one_Cp]; rfl
@[simp] theorem one_Ps (p:Ps):(encPs p).all AV.one=true:=by rw [encPs_eq]; rfl
@[simp] theorem one_Sl (p:Sl):(encSl p).all AV.one=true:=rfl
@[simp] theorem one_At (p:At):(encAt p).all AV.one=true:=rfl
@[simp] theorem one_RL (p:RL):(encRL p).all AV.one=true:=rfl
@[simp] theorem one_Nd (p:Nd):(encNd p).all AV.one=true:=rfl
@[simp] theorem one_ST (p:ST):(encST p).all AV.one=true:=rfl
@[simp] theorem len_encRL (p:RL):(encRL p).length=2:=rfl
@[simp] theorem len_encNd (p:Nd):(encNd p).length=5:=rfl
@[simp] theorem len_encST (p:ST):(encST p).length=4:=rfl
theorem drop_get {α:Type} {l:List α} {k:Nat} {x:α} (h:l[k]?=some x):l.drop k=x::l.drop (k+1):=by
 obtain ⟨hlt,rfl⟩:=List.getElem?_eq_some_iff.1 h
 exact List.drop_eq_getElem_cons hlt
theorem get_lt {α:Type} {l:List α} {k:Nat} (h:k<l.length):∃ x,l[k]?=some x:=⟨l[k],List.getElem?_eq_getElem h⟩
end Go.Proofs.YtaoegkmfgfefgaaGreat.Ev
namespace Go.Proofs.YtaoegkmfgfefgaaGreat.Ev
def i64 (n:Int):Prop:=-9223372036854775808≤n∧n≤9223372036854775807
def strsWf (N:Nat) (l:List ByteArray):Prop:=l.length≤N∧∀ s ∈ l,s.data.size≤N
mutual
def Pt.wf (N:Nat):Pt→Prop
 | .mk k c=>i64 k∧Cp.wf N c
def Cp.wf (N:Nat):Cp→Prop
 | .mk t i c a p=>t.data.size≤N∧strsWf N i∧strsWf N c∧(a.length≤N∧∀ x ∈ a,x.name.data.size≤N∧i64 x.op∧x.text.data.size≤N)∧p.length≤N∧wfPss N p
def Ps.wf (N:Nat):Ps→Prop
 | .mk k a b l=>i64 k∧i64 a∧i64 b∧l.length≤N∧wfSls N l
def wfPts (N:Nat):List Pt→Prop
 | []=>True
 | p::r=>Pt.wf N p∧wfPts N r
def wfPss (N:Nat):List Ps→Prop
 | []=>True
 | p::r=>Ps.wf N p∧wfPss N r
def wfSls (N:Nat):List (List Pt)→Prop
 | []=>True
 | s::r=>(s.length≤N∧wfPts N s)∧wfSls N r
end
theorem wfPts_mem {N:Nat}:∀ {l:List Pt},wfPts N l→∀ p ∈ l,Pt.wf N p
 | p::r,h,q,hq=>by
  rw [wfPts] at h
  rcases List.mem_cons.1 hq with rfl | hq
  ·exact h.1
  ·exact wfPts_mem h.2 q hq
theorem wfPss_mem {N:Nat}:∀ {l:List Ps},wfPss N l→∀ p ∈ l,Ps.wf N p
 | p::r,h,q,hq=>by
  rw [wfPss] at h
  rcases List.mem_cons.1 hq with rfl | hq
  ·exact h.1
  ·exact wfPss_mem h.2 q hq
def slWf (N:Nat) (s:Sl):Prop:=s.length≤N∧∀ p ∈ s,Pt.wf N p
theorem wfSls_mem {N:Nat}:∀ {l:List Sl},wfSls N l→∀ s ∈ l,slWf N s
 | s::r,h,q,hq=>by
  rw [wfSls] at h
  rcases List.mem_cons.1 hq with rfl | hq
  ·exact ⟨h.1.1,wfPts_mem h.1.2⟩
  ·exact wfSls_mem h.2 q hq
theorem wfPts_of {N:Nat}:∀ {l:List Pt},(∀ p ∈ l,Pt.wf N p)→wfPts N l
 | [],_=>by rw [wfPts]; trivial
 | p::r,h=>by rw [wfPts]; exact ⟨h p (by simp),wfPts_of fun q hq=>h q (by simp [hq])⟩
theorem wfPss_of {N:Nat}:∀ {l:List Ps},(∀ p ∈ l,Ps.wf N p)→wfPss N l
 | [],_=>by rw [wfPss]; trivial
 | p::r,h=>by rw [wfPss]; exact ⟨h p (by simp),wfPss_of fun q hq=>h q (by simp [hq])⟩
theorem wfSls_of {N:Nat}:∀ {l:List Sl},(∀ p ∈ l,slWf N p)→wfSls N l
 | [],_=>by rw [wfSls]; trivial
 | p::r,h=>by rw [wfSls]; exact ⟨⟨(h p (by simp)).1,wfPts_of (h p (by simp)).2⟩,wfSls_of fun q hq=>h q (by simp [hq])⟩
def slsWf (N:Nat) (l:List Sl):Prop:=l.length≤N∧∀ s ∈ l,slWf N s
structure CpWf (N:Nat) (c:Cp):Prop where
 tag:c.tag.data.size≤N
 ids:strsWf N c.ids
 classes:strsWf N c.classes
 attrsL:c.attrs.length≤N
 attrs:∀ x ∈ c.attrs,x.name.data.size≤N∧i64 x.op∧x.text.data.size≤N
 psL:c.pseudos.length≤N
 ps:∀ p ∈ c.pseudos,Ps.wf N p
theorem Cp.wf_iff {N:Nat} {c:Cp}:Cp.wf N c ↔ CpWf N c:=by
 cases c
 rw [Cp.wf]
 exact ⟨fun ⟨a,b,c,d,e,f⟩=>⟨a,b,c,d.1,d.2,e,wfPss_mem f⟩,fun ⟨a,b,c,d,d',e,f⟩=>⟨a,b,c,⟨d,d'⟩,e,wfPss_of f⟩⟩
theorem Pt.wf_iff {N:Nat} {p:Pt}:Pt.wf N p ↔ i64 p.comb∧CpWf N p.c:=by
 cases p; rw [Pt.wf,Cp.wf_iff]; rfl
theorem Ps.wf_iff {N:Nat} {p:Ps}:Ps.wf N p ↔ i64 p.kind∧i64 p.a∧i64 p.b∧slsWf N p.list:=by
 cases p; rw [Ps.wf]
 exact ⟨fun ⟨a,b,c,d,e⟩=>⟨a,b,c,d,wfSls_mem e⟩,fun ⟨a,b,c,d⟩=>⟨a,b,c,d.1,wfSls_of d.2⟩⟩
abbrev Lmax:Nat:=9223372036854775807
theorem wr_succL {k n N:Nat} (h:k<n) (hn:n≤N) (hN:N≤Lmax:=by decide):wr .i64 ((k:Int)+1)=((k+1:Nat):Int):=by
 have:Lmax=9223372036854775807:=rfl
 rw [wr64 (by omega) (by omega)]; rfl
end Go.Proofs.YtaoegkmfgfefgaaGreat.Ev
namespace Go.Proofs.YtaoegkmfgfefgaaGreat.Ev
@[simp] theorem len_strs (l:List ByteArray):lenSl (strs l)=some (.lit (.int .i64 l.length)):=by simp [strs]
@[simp] theorem len_sls (l:List Sl):lenSl (sls l)=some (.lit (.int .i64 l.length)):=by simp [sls]
@[simp] theorem len_rls (l:List RL):lenSl (rls l)=some (.lit (.int .i64 l.length)):=by simp [rls]
@[simp] theorem len_nds (l:List Nd):lenSl (nds l)=some (.lit (.int .i64 l.length)):=by simp [nds]
end Go.Proofs.YtaoegkmfgfefgaaGreat.Ev
namespace Go.Proofs.YtaoegkmfgfefgaaGreat.Ev
@[simp] theorem ldL_sl (s:Sl):ldL true 1 (encSl s)=some (.agg (encSl s)):=rfl
@[simp] theorem ldL_pt (s:Pt):ldL true 6 (encPt s)=some (.agg (encPt s)):=ldL_all (len_encPt s)
@[simp] theorem ldL_cp (s:Cp):ldL true 5 (encCp s)=some (.agg (encCp s)):=ldL_all (len_encCp s)
@[simp] theorem ldL_ps (s:Ps):ldL true 4 (encPs s)=some (.agg (encPs s)):=ldL_all (len_encPs s)
@[simp] theorem ldL_at (s:At):ldL true 3 (encAt s)=some (.agg (encAt s)):=rfl
@[simp] theorem ldL_nd (s:Nd):ldL true 5 (encNd s)=some (.agg (encNd s)):=rfl
@[simp] theorem ldL_rl (s:RL):ldL true 2 (encRL s)=some (.agg (encRL s)):=rfl
@[simp] theorem ldL_st (s:ST):ldL true 4 (encST s)=some (.agg (encST s)):=rfl
@[simp] theorem ldL_pr (s:ByteArray × ByteArray):ldL true 2 (encPr s)=some (.agg (encPr s)):=rfl
@[simp] theorem ov_sl (c:AV) (s:Sl):overlay [c] 0 (encSl s)=encSl s:=rfl
end Go.Proofs.YtaoegkmfgfefgaaGreat.Ev
namespace Go.Proofs.YtaoegkmfgfefgaaGreat.Ev
@[simp] theorem tail_encPt (p:Pt):(encPt p).tail=encCp p.c:=by rw [encPt_eq]; rfl
end Go.Proofs.YtaoegkmfgfefgaaGreat.Ev
namespace Go.Proofs.YtaoegkmfgfefgaaGreat.Ev
@[simp] theorem f_encPs0 (x:Ps):ldL false 1 (encPs x)=some (I x.kind):=by rw [encPs_eq]; rfl
@[simp] theorem f_encPs1 (x:Ps):ldL false 1 (encPs x).tail=some (I x.a):=by rw [encPs_eq]; rfl
@[simp] theorem f_encPs2 (x:Ps):ldL false 1 ((encPs x).drop 2)=some (I x.b):=by rw [encPs_eq]; rfl
@[simp] theorem f_encPs3 (x:Ps):ldL false 1 ((encPs x).drop 3)=some (.imm 1 (x.list.map encSl)):=by rw [encPs_eq]; rfl
@[simp] theorem f_encCp0 (x:Cp):ldL false 1 (encCp x)=some (Sx x.tag):=by rw [encCp_eq]; rfl
@[simp] theorem f_encCp1 (x:Cp):ldL false 1 (encCp x).tail=some (strs x.ids):=by rw [encCp_eq]; rfl
theorem f_encCp1' (x:Cp):ldL false 1 ((encCp x).drop 1)=some (strs x.ids):=by rw [encCp_eq]; rfl
@[simp] theorem f_encCp2 (x:Cp):ldL false 1 ((encCp x).drop 2)=some (strs x.classes):=by rw [encCp_eq]; rfl
@[simp] theorem f_encCp3 (x:Cp):ldL false 1 ((encCp x).drop 3)=some (.imm 3 (x.attrs.map encAt)):=by rw [encCp_eq]; rfl
@[simp] theorem f_encCp4 (x:Cp):ldL false 1 ((encCp x).drop 4)=some (.imm 4 (x.pseudos.map encPs)):=by rw [encCp_eq]; rfl
@[simp] theorem f_encPt0 (x:Pt):ldL false 1 (encPt x)=some (I x.comb):=by rw [encPt_eq]; rfl
@[simp] theorem f_encSl0 (x:Sl):ldL false 1 (encSl x)=some (.imm 6 (x.map encPt)):=rfl
@[simp] theorem f_encAt0 (x:At):ldL false 1 (encAt x)=some (Sx x.name):=rfl
@[simp] theorem f_encAt1 (x:At):ldL false 1 (encAt x).tail=some (I x.op):=rfl
@[simp] theorem f_encAt2 (x:At):ldL false 1 ((encAt x).drop 2)=some (Sx x.text):=rfl
@[simp] theorem f_encNd0 (x:Nd):ldL false 1 (encNd x)=some (I x.parent):=rfl
@[simp] theorem f_encNd1 (x:Nd):ldL false 1 (encNd x).tail=some (Sx x.tag):=rfl
theorem f_encNd1' (x:Nd):ldL false 1 ((encNd x).drop 1)=some (Sx x.tag):=rfl
@[simp] theorem f_encNd2 (x:Nd):ldL false 1 ((encNd x).drop 2)=some (Sx x.id):=rfl
@[simp] theorem f_encNd3 (x:Nd):ldL false 1 ((encNd x).drop 3)=some (strs x.classes):=rfl
@[simp] theorem f_encNd4 (x:Nd):ldL false 1 ((encNd x).drop 4)=some (.imm 2 (x.attrs.map encPr)):=rfl
@[simp] theorem f_encRL0 (x:RL):ldL false 1 (encRL x)=some (sls x.sels):=rfl
@[simp] theorem f_encRL1 (x:RL):ldL false 1 (encRL x).tail=some (.imm 4 (x.sets.map encST)):=rfl
@[simp] theorem f_encST0 (x:ST):ldL false 1 (encST x)=some (I x.prop):=rfl
@[simp] theorem f_encST1 (x:ST):ldL false 1 (encST x).tail=some (I x.kind):=rfl
@[simp] theorem f_encST2 (x:ST):ldL false 1 ((encST x).drop 2)=some (I x.n):=rfl
@[simp] theorem f_encST3 (x:ST):ldL false 1 ((encST x).drop 3)=some (Bo x.imp):=rfl
@[simp] theorem f_encPr0 (x:ByteArray × ByteArray):ldL false 1 (encPr x)=some (Sx x.1):=rfl
@[simp] theorem f_encPr1 (x:ByteArray × ByteArray):ldL false 1 (encPr x).tail=some (Sx x.2):=rfl
theorem f_encPr1' (x:ByteArray × ByteArray):ldL false 1 ((encPr x).drop 1)=some (Sx x.2):=rfl
theorem ov_Ps {l:List AV} (x:Ps) (h:l.length=4):overlay l 0 (encPs x)=encPs x:=overlay_all (by rw [len_encPs,h])
end Go.Proofs.YtaoegkmfgfefgaaGreat.Ev
namespace Go.Proofs.YtaoegkmfgfefgaaGreat.Ev
set_option linter.unusedVariables false
set_option linter.unusedSimpArgs false
theorem flat_drop {sz:Nat}:∀ {rows:List (List AV)} {w:Nat} (hs:∀ r ∈ rows,r.length=sz) (h:w<rows.length),rows.flatten.drop (w*sz)=rows[w]++(rows.drop (w+1)).flatten
 | r::rs,0,hs,h=>by simp
 | r::rs,w+1,hs,h=>by
  have hr:r.length=sz:=hs r (by simp)
  have e:(w+1)*sz=sz+w*sz:=by rw [Nat.succ_mul,Nat.add_comm]
  have e1:(r++rs.flatten).drop sz=rs.flatten:=by rw [← hr]; simp
  rw [List.flatten_cons,e,← List.drop_drop,e1]
  exact flat_drop (fun r hr=>hs r (by simp [hr])) (by simpa using h)
end Go.Proofs.YtaoegkmfgfefgaaGreat.Ev
namespace Go.Proofs.YtaoegkmfgfefgaaGreat.Ev
set_option linter.unusedVariables false
set_option linter.unusedSimpArgs false
def Nd.none:Nd:=⟨0,⟨#[]⟩,⟨#[]⟩,[],[]⟩
def ndAt (L:List Nd) (i:Nat):Nd:=L.getD i Nd.none
def par (L:List Nd) (i:Nat):Int:=(ndAt L i).parent
def kids (L:List Nd) (m e:Nat):List Nat:=(List.range m).filter fun j=>decide (0<j)&&decide (par L j=e)
def sibs (L:List Nd) (e:Nat):List Nat:=(List.range e).filter fun j=>decide (0<j)&&decide (par L j=par L e)
def lastI (l:List Nat):Int:=match l.getLast? with | some j=>j | none=>-1
def place (L:List Nd) (e:Nat):Int:=(sibs L e).length+1
def before (L:List Nd) (e:Nat):Int:=lastI (sibs L e)
structure Built (L:List Nd) (m:Nat) (d:List Nat):Prop where
 len:d.length=m
 le:m≤L.length
 root:0<m→par L 0=-1∧d[0]?=some 0
 step:∀ i,0<i→i<m→∃ p x:Nat,par L i=p∧p<i∧d[p]?=some x∧d[i]?=some (x+1)∧x+1≤256
theorem Built.nil (L:List Nd):Built L 0 []:=⟨rfl,Nat.zero_le _,fun h=>absurd h (Nat.lt_irrefl 0),fun i h0 h=>absurd h (Nat.not_lt_zero i)⟩
theorem Built.first {L:List Nd} (hl:0<L.length) (h:par L 0=-1):Built L 1 [0]:=⟨rfl,hl,fun _=>⟨h,rfl⟩,fun i h0 h=>by omega⟩
theorem Built.next {L:List Nd} {m p x:Nat} {d:List Nat} (h:Built L m d) (hm:0<m) (hl:m<L.length) (hp:par L m=p) (hlt:p<m) (hx:d[p]?=some x) (h256:x+1≤256):Built L (m+1) (d++[x+1]):=by
 have hlen:=h.len
 refine ⟨by simp [hlen],hl,fun _=>⟨(h.root hm).1,?_⟩,fun i h0 hi=>?_⟩
 ·rw [List.getElem?_append_left (by omega)]; exact (h.root hm).2
 ·by_cases him:i<m
  ·obtain ⟨p',x',e1,e2,e3,e4,e5⟩:=h.step i h0 him
   exact ⟨p',x',e1,e2,by rw [List.getElem?_append_left (by omega)]; exact e3,by rw [List.getElem?_append_left (by omega)]; exact e4,e5⟩
  ·have:i=m:=by omega
   subst this
   exact ⟨p,x,hp,hlt,by rw [List.getElem?_append_left (by omega)]; exact hx,by rw [List.getElem?_append_right (by omega),hlen]; simp,h256⟩
theorem kids_succ (L:List Nd) (m e:Nat):kids L (m+1) e=kids L m e++if 0<m∧par L m=e then [m] else []:=by
 unfold kids
 rw [List.range_succ,List.filter_append]
 congr 1
 by_cases h:0<m∧par L m=(e:Int)
 ·simp [h]
 ·rw [if_neg h]
  simp only [List.filter_cons,List.filter_nil]
  rw [if_neg (by simpa using h)]
theorem kids_self {L:List Nd} {m p:Nat} (hp:par L m=p):kids L m p=sibs L m:=by unfold kids sibs; rw [hp]
theorem kids_ge {L:List Nd} {N:Nat} {d:List Nat} (hB:Built L N d) {m:Nat} (hm:m≤N) {e:Nat} (he:m≤e+1):kids L m e=[]:=by
 unfold kids
 rw [List.filter_eq_nil_iff]
 intro j hj
 simp only [List.mem_range] at hj
 simp only [Bool.and_eq_true,decide_eq_true_eq,not_and]
 intro h0 h1
 obtain ⟨p,x,e1,e2,_⟩:=hB.step j h0 (by omega)
 rw [e1] at h1
 omega
def rowE (L:List Nd) (d:List Nat) (i:Nat) (c:AV) (low:Nd→Nd):List AV:=encNd (low (ndAt L i))++[c,I (d.getD i 0),I (place L i),I (before L i)]
@[simp] theorem len_rowE (L:List Nd) (d:List Nat) (i:Nat) (c:AV) (low:Nd→Nd):(rowE L d i c low).length=9:=rfl
def rowsE (L:List Nd) (d:List Nat) (ch:List AV) (low:Nd→Nd):List (List AV):=ch.mapIdx fun i c=>rowE L d i c low
end Go.Proofs.YtaoegkmfgfefgaaGreat.Ev
namespace Go.Proofs.YtaoegkmfgfefgaaGreat.Ev
set_option linter.unusedVariables false
set_option linter.unusedSimpArgs false
abbrev tl (s:ByteArray):List UInt8:=s.data.toList
def mk (l:List UInt8):ByteArray:=⟨l.toArray⟩
@[simp] theorem tl_mk (l:List UInt8):tl (mk l)=l:=by simp [tl,mk]
@[simp] theorem mk_tl (s:ByteArray):mk (tl s)=s:=by simp [tl,mk]
theorem mk_inj {a b:List UInt8} (h:mk a=mk b):a=b:=by rw [← tl_mk a,h,tl_mk]
theorem tl_inj {a b:ByteArray} (h:tl a=tl b):a=b:=by rw [← mk_tl a,h,mk_tl]
theorem tl_len (s:ByteArray):(tl s).length=s.data.size:=by simp [tl]
theorem ix_str {s:ByteArray} {k:Nat} {c:UInt8} (h:(tl s)[k]?=some c):ixStr (Sx s) (I (k:Int))=some (.lit (.int .u8 c.toNat)):=by
 simp only [ixStr,intA]
 simp [h]
theorem sl_str {s:ByteArray} {a b:Nat} (h1:a≤b) (h2:b≤s.data.size):slStr (Sx s) (some (I (a:Int))) (some (I (b:Int)))=some (Sx (mk (((tl s).drop a).take (b - a)))):=by
 have h3:b≤s.size:=h2
 simp [slStr,intO,intA,boundsA,boundA,extractS,mk,tl,h1,h3]
theorem sl_str0 {s:ByteArray} {b:Nat} (h2:b≤s.data.size):slStr (Sx s) none (some (I (b:Int)))=some (Sx (mk ((tl s).take b))):=by
 have h3:b≤s.size:=h2
 simp [slStr,intO,intA,boundsA,boundA,extractS,mk,tl,h3]
theorem sl_strE {s:ByteArray} {a:Nat} (h1:a≤s.data.size):slStr (Sx s) (some (I (a:Int))) none=some (Sx (mk ((tl s).drop a))):=by
 have h3:a≤s.size:=h1
 simp [slStr,intO,intA,boundsA,boundA,extractS,mk,tl,h3]
 exact List.take_of_length_le (by simp)
theorem b_sadd {a b:ByteArray} (h:a.data.size+b.data.size≤9223372036854775807):binR .add (Sx a) (Sx b)=some (Sx (mk (tl a++tl b))):=by
 have e:a.data++b.data=(a.data.toList++b.data.toList).toArray:=by
  apply Array.ext'
  simp
 have h3:a.size+b.size≤9223372036854775807:=h
 simp [binR,lit?,sbin,bleN,h3,mk,tl,e]
def preB (s p:List UInt8):Bool:=p.isPrefixOf s
def sufB (s p:List UInt8):Bool:=p.isSuffixOf s
theorem pre_take (s p:List UInt8) (h:p.length≤s.length):decide (mk (s.take p.length)=mk p)=preB s p:=by
 have:=Go.Lib.hasPrefix_of_take s p
 simp only [h,decide_true,Bool.true_and,Go.Lib.hasPrefix] at this
 unfold preB
 rw [← this]
 by_cases e:s.take p.length=p
 ·simp [e]
 ·have:¬ (mk (s.take p.length)=mk p):=fun h=>e (mk_inj h)
  simp [e,this]
theorem suf_drop (s p:List UInt8) (h:p.length≤s.length):decide (mk (s.drop (s.length - p.length))=mk p)=sufB s p:=by
 have:=Go.Lib.hasSuffix_of_drop s p
 simp only [h,decide_true,Bool.true_and,Go.Lib.hasSuffix] at this
 unfold sufB
 rw [← this]
 by_cases e:s.drop (s.length - p.length)=p
 ·simp [e]
 ·have:¬ (mk (s.drop (s.length - p.length))=mk p):=fun h=>e (mk_inj h)
  simp [e,this]
theorem pre_long {s p:List UInt8} (h:s.length<p.length):preB s p=false:=by
 have:=Go.Lib.hasPrefix_of_take s p
 rw [show decide (p.length≤s.length)=false by simp; omega] at this
 simpa [preB,Go.Lib.hasPrefix] using this.symm
theorem suf_long {s p:List UInt8} (h:s.length<p.length):sufB s p=false:=by
 have:=Go.Lib.hasSuffix_of_drop s p
 rw [show decide (p.length≤s.length)=false by simp; omega] at this
 simpa [sufB,Go.Lib.hasSuffix] using this.symm
def wht (c:UInt8):Bool:=c.toNat == 9||(c.toNat == 10||(c.toNat == 12||(c.toNat == 13||c.toNat == 32)))
def nw (c:UInt8):Bool:=!wht c
def wl (l:List UInt8):Nat:=(l.takeWhile nw).length
theorem wl_le:∀ (l:List UInt8),wl l≤l.length
 | []=>Nat.le_refl _
 | c::l=>by
  unfold wl
  rw [List.takeWhile_cons]
  split
  ·have:=wl_le l; unfold wl at this; simp; exact this
  ·simp
theorem wl_lt:∀ {l:List UInt8} {k:Nat},k<wl l→∃ c,l[k]?=some c∧wht c=false
 | [],k,h=>by simp [wl] at h
 | c::l,k,h=>by
  unfold wl at h
  rw [List.takeWhile_cons] at h
  split at h
  ·rename_i hc
   cases k with
   | zero=>exact ⟨c,rfl,by simpa [nw] using hc⟩
   | succ k=>exact wl_lt (l:=l) (by unfold wl; simpa using h)
  ·simp at h
def wordsF:Nat→List UInt8→List (List UInt8)
 | 0,_=>[]
 | f+1,l=>if l=[] then [] else if wl l=0 then wordsF f (l.drop 1) else l.take (wl l)::wordsF f (l.drop (wl l+1))
theorem wordsF_eq:∀ (f g:Nat) (l:List UInt8),l.length<f→l.length<g→wordsF f l=wordsF g l
 | 0,g,l,h,_=>by omega
 | f+1,0,l,_,h=>by omega
 | f+1,g+1,l,h1,h2=>by
  unfold wordsF
  by_cases hl:l=[]
  ·rw [if_pos hl,if_pos hl]
  ·have hpos:0<l.length:=List.length_pos_iff.2 hl
   rw [if_neg hl,if_neg hl,wordsF_eq f g (l.drop 1) (by simp; omega) (by simp; omega),wordsF_eq f g (l.drop (wl l+1)) (by simp; omega) (by simp; omega)]
def wordsB (l:List UInt8):List (List UInt8):=wordsF (l.length+1) l
theorem wordsB_nil:wordsB []=[]:=rfl
theorem wordsB_eq {l:List UInt8} (hl:l≠[]):wordsB l=if wl l=0 then wordsB (l.drop 1) else l.take (wl l)::wordsB (l.drop (wl l+1)):=by
 have hpos:0<l.length:=List.length_pos_iff.2 hl
 show wordsF (l.length+1) l=_
 unfold wordsF
 rw [if_neg hl]
 unfold wordsB
 rw [wordsF_eq l.length ((l.drop 1).length+1) (l.drop 1) (by simp; omega) (by simp),wordsF_eq l.length ((l.drop (wl l+1)).length+1) (l.drop (wl l+1)) (by simp; omega) (by simp)]
end Go.Proofs.YtaoegkmfgfefgaaGreat.Ev
namespace Go.Proofs.YtaoegkmfgfefgaaGreat.Ev
set_option maxRecDepth 100000
set_option maxHeartbeats 4000000
noncomputable def ti1:TI:=⟨.func,1,8,[.nilFunc]⟩
theorem ti1_ok:tiOf Tryz.prog 1=some ti1:=by kernel_rfl
noncomputable def ti2:TI:=⟨.int .i64,1,8,[.int .i64 0]⟩
theorem ti2_ok:tiOf Tryz.prog 2=some ti2:=by kernel_rfl
noncomputable def ti3:TI:=⟨.int .i64,1,8,[.int .i64 0]⟩
theorem ti3_ok:tiOf Tryz.prog 3=some ti3:=by kernel_rfl
noncomputable def ti4:TI:=⟨.bool,1,1,[.bool false]⟩
theorem ti4_ok:tiOf Tryz.prog 4=some ti4:=by kernel_rfl
noncomputable def ti5:TI:=⟨.int .u8,1,1,[.int .u8 0]⟩
theorem ti5_ok:tiOf Tryz.prog 5=some ti5:=by kernel_rfl
noncomputable def ti6:TI:=⟨.int .u8,1,1,[.int .u8 0]⟩
theorem ti6_ok:tiOf Tryz.prog 6=some ti6:=by kernel_rfl
noncomputable def ti7:TI:=⟨.struct [(0,2),(1,3),(2,4),(3,6)],4,24,[.int .i64 0,.int .i64 0,.bool false,.int .u8 0]⟩
theorem ti7_ok:tiOf Tryz.prog 7=some ti7:=by kernel_rfl
noncomputable def ti8:TI:=⟨.struct [(0,2),(1,3),(2,4),(3,6)],4,24,[.int .i64 0,.int .i64 0,.bool false,.int .u8 0]⟩
theorem ti8_ok:tiOf Tryz.prog 8=some ti8:=by kernel_rfl
noncomputable def ti9:TI:=⟨.string,1,16,[.string ⟨#[]⟩]⟩
theorem ti9_ok:tiOf Tryz.prog 9=some ti9:=by kernel_rfl
noncomputable def ti10:TI:=⟨.string,1,16,[.string ⟨#[]⟩]⟩
theorem ti10_ok:tiOf Tryz.prog 10=some ti10:=by kernel_rfl
noncomputable def ti11:TI:=⟨.string,1,16,[.string ⟨#[]⟩]⟩
theorem ti11_ok:tiOf Tryz.prog 11=some ti11:=by kernel_rfl
noncomputable def ti12:TI:=⟨.int .u64,1,8,[.int .u64 0]⟩
theorem ti12_ok:tiOf Tryz.prog 12=some ti12:=by kernel_rfl
noncomputable def ti13:TI:=⟨.struct [(0,9),(1,12)],2,24,[.string ⟨#[]⟩,.int .u64 0]⟩
theorem ti13_ok:tiOf Tryz.prog 13=some ti13:=by kernel_rfl
noncomputable def ti14:TI:=⟨.struct [(0,9),(1,12)],2,24,[.string ⟨#[]⟩,.int .u64 0]⟩
theorem ti14_ok:tiOf Tryz.prog 14=some ti14:=by kernel_rfl
noncomputable def ti15:TI:=⟨.ptr 220,1,8,[.pointer none]⟩
theorem ti15_ok:tiOf Tryz.prog 15=some ti15:=by kernel_rfl
noncomputable def ti16:TI:=⟨.ptr 223,1,8,[.pointer none]⟩
theorem ti16_ok:tiOf Tryz.prog 16=some ti16:=by kernel_rfl
noncomputable def ti17:TI:=⟨.ptr 231,1,8,[.pointer none]⟩
theorem ti17_ok:tiOf Tryz.prog 17=some ti17:=by kernel_rfl
noncomputable def ti18:TI:=⟨.struct [(0,17)],1,8,[.pointer none]⟩
theorem ti18_ok:tiOf Tryz.prog 18=some ti18:=by kernel_rfl
noncomputable def ti19:TI:=⟨.struct [(0,17)],1,8,[.pointer none]⟩
theorem ti19_ok:tiOf Tryz.prog 19=some ti19:=by kernel_rfl
noncomputable def ti21:TI:=⟨.int .i32,1,4,[.int .i32 0]⟩
theorem ti21_ok:tiOf Tryz.prog 21=some ti21:=by kernel_rfl
noncomputable def ti22:TI:=⟨.slice 43,1,24,[.slice none 0 0]⟩
theorem ti22_ok:tiOf Tryz.prog 22=some ti22:=by kernel_rfl
noncomputable def ti23:TI:=⟨.slice 37,1,24,[.slice none 0 0]⟩
theorem ti23_ok:tiOf Tryz.prog 23=some ti23:=by kernel_rfl
noncomputable def ti24:TI:=⟨.func,1,8,[.nilFunc]⟩
theorem ti24_ok:tiOf Tryz.prog 24=some ti24:=by kernel_rfl
noncomputable def ti25:TI:=⟨.func,1,8,[.nilFunc]⟩
theorem ti25_ok:tiOf Tryz.prog 25=some ti25:=by kernel_rfl
noncomputable def ti26:TI:=⟨.func,1,8,[.nilFunc]⟩
theorem ti26_ok:tiOf Tryz.prog 26=some ti26:=by kernel_rfl
noncomputable def ti27:TI:=⟨.ptr 72,1,8,[.pointer none]⟩
theorem ti27_ok:tiOf Tryz.prog 27=some ti27:=by kernel_rfl
noncomputable def ti29:TI:=⟨.func,1,8,[.nilFunc]⟩
theorem ti29_ok:tiOf Tryz.prog 29=some ti29:=by kernel_rfl
noncomputable def ti30:TI:=⟨.ptr 78,1,8,[.pointer none]⟩
theorem ti30_ok:tiOf Tryz.prog 30=some ti30:=by kernel_rfl
noncomputable def ti31:TI:=⟨.func,1,8,[.nilFunc]⟩
theorem ti31_ok:tiOf Tryz.prog 31=some ti31:=by kernel_rfl
noncomputable def ti32:TI:=⟨.slice 3,1,24,[.slice none 0 0]⟩
theorem ti32_ok:tiOf Tryz.prog 32=some ti32:=by kernel_rfl
noncomputable def ti33:TI:=⟨.func,1,8,[.nilFunc]⟩
theorem ti33_ok:tiOf Tryz.prog 33=some ti33:=by kernel_rfl
noncomputable def ti34:TI:=⟨.slice 9,1,24,[.slice none 0 0]⟩
theorem ti34_ok:tiOf Tryz.prog 34=some ti34:=by kernel_rfl
noncomputable def ti35:TI:=⟨.slice 70,1,24,[.slice none 0 0]⟩
theorem ti35_ok:tiOf Tryz.prog 35=some ti35:=by kernel_rfl
noncomputable def ti36:TI:=⟨.struct [(0,3),(1,9),(2,9),(3,34),(4,35)],5,88,[.int .i64 0,.string ⟨#[]⟩,.string ⟨#[]⟩,.slice none 0 0,.slice none 0 0]⟩
theorem ti36_ok:tiOf Tryz.prog 36=some ti36:=by kernel_rfl
noncomputable def ti37:TI:=⟨.struct [(0,3),(1,9),(2,9),(3,34),(4,35)],5,88,[.int .i64 0,.string ⟨#[]⟩,.string ⟨#[]⟩,.slice none 0 0,.slice none 0 0]⟩
theorem ti37_ok:tiOf Tryz.prog 37=some ti37:=by kernel_rfl
noncomputable def ti38:TI:=⟨.func,1,8,[.nilFunc]⟩
theorem ti38_ok:tiOf Tryz.prog 38=some ti38:=by kernel_rfl
noncomputable def ti39:TI:=⟨.func,1,8,[.nilFunc]⟩
theorem ti39_ok:tiOf Tryz.prog 39=some ti39:=by kernel_rfl
noncomputable def ti40:TI:=⟨.slice 54,1,24,[.slice none 0 0]⟩
theorem ti40_ok:tiOf Tryz.prog 40=some ti40:=by kernel_rfl
noncomputable def ti41:TI:=⟨.slice 235,1,24,[.slice none 0 0]⟩
theorem ti41_ok:tiOf Tryz.prog 41=some ti41:=by kernel_rfl
noncomputable def ti42:TI:=⟨.struct [(0,40),(1,41)],2,48,[.slice none 0 0,.slice none 0 0]⟩
theorem ti42_ok:tiOf Tryz.prog 42=some ti42:=by kernel_rfl
noncomputable def ti43:TI:=⟨.struct [(0,40),(1,41)],2,48,[.slice none 0 0,.slice none 0 0]⟩
theorem ti43_ok:tiOf Tryz.prog 43=some ti43:=by kernel_rfl
noncomputable def ti44:TI:=⟨.func,1,8,[.nilFunc]⟩
theorem ti44_ok:tiOf Tryz.prog 44=some ti44:=by kernel_rfl
noncomputable def ti45:TI:=⟨.func,1,8,[.nilFunc]⟩
theorem ti45_ok:tiOf Tryz.prog 45=some ti45:=by kernel_rfl
noncomputable def ti46:TI:=⟨.ptr 97,1,8,[.pointer none]⟩
theorem ti46_ok:tiOf Tryz.prog 46=some ti46:=by kernel_rfl
noncomputable def ti47:TI:=⟨.int .i64,1,8,[.int .i64 0]⟩
theorem ti47_ok:tiOf Tryz.prog 47=some ti47:=by kernel_rfl
noncomputable def ti49:TI:=⟨.func,1,8,[.nilFunc]⟩
theorem ti49_ok:tiOf Tryz.prog 49=some ti49:=by kernel_rfl
noncomputable def ti50:TI:=⟨.func,1,8,[.nilFunc]⟩
theorem ti50_ok:tiOf Tryz.prog 50=some ti50:=by kernel_rfl
noncomputable def ti51:TI:=⟨.func,1,8,[.nilFunc]⟩
theorem ti51_ok:tiOf Tryz.prog 51=some ti51:=by kernel_rfl
noncomputable def ti52:TI:=⟨.slice 88,1,24,[.slice none 0 0]⟩
theorem ti52_ok:tiOf Tryz.prog 52=some ti52:=by kernel_rfl
noncomputable def ti53:TI:=⟨.struct [(0,52)],1,24,[.slice none 0 0]⟩
theorem ti53_ok:tiOf Tryz.prog 53=some ti53:=by kernel_rfl
noncomputable def ti54:TI:=⟨.struct [(0,52)],1,24,[.slice none 0 0]⟩
theorem ti54_ok:tiOf Tryz.prog 54=some ti54:=by kernel_rfl
noncomputable def ti55:TI:=⟨.func,1,8,[.nilFunc]⟩
theorem ti55_ok:tiOf Tryz.prog 55=some ti55:=by kernel_rfl
noncomputable def ti56:TI:=⟨.slice 4,1,24,[.slice none 0 0]⟩
theorem ti56_ok:tiOf Tryz.prog 56=some ti56:=by kernel_rfl
noncomputable def ti57:TI:=⟨.func,1,8,[.nilFunc]⟩
theorem ti57_ok:tiOf Tryz.prog 57=some ti57:=by kernel_rfl
noncomputable def ti58:TI:=⟨.func,1,8,[.nilFunc]⟩
theorem ti58_ok:tiOf Tryz.prog 58=some ti58:=by kernel_rfl
noncomputable def ti59:TI:=⟨.func,1,8,[.nilFunc]⟩
theorem ti59_ok:tiOf Tryz.prog 59=some ti59:=by kernel_rfl
noncomputable def ti61:TI:=⟨.func,1,8,[.nilFunc]⟩
theorem ti61_ok:tiOf Tryz.prog 61=some ti61:=by kernel_rfl
noncomputable def ti62:TI:=⟨.func,1,8,[.nilFunc]⟩
theorem ti62_ok:tiOf Tryz.prog 62=some ti62:=by kernel_rfl
noncomputable def ti64:TI:=⟨.func,1,8,[.nilFunc]⟩
theorem ti64_ok:tiOf Tryz.prog 64=some ti64:=by kernel_rfl
noncomputable def ti65:TI:=⟨.func,1,8,[.nilFunc]⟩
theorem ti65_ok:tiOf Tryz.prog 65=some ti65:=by kernel_rfl
noncomputable def ti66:TI:=⟨.func,1,8,[.nilFunc]⟩
theorem ti66_ok:tiOf Tryz.prog 66=some ti66:=by kernel_rfl
noncomputable def ti67:TI:=⟨.func,1,8,[.nilFunc]⟩
theorem ti67_ok:tiOf Tryz.prog 67=some ti67:=by kernel_rfl
noncomputable def ti68:TI:=⟨.func,1,8,[.nilFunc]⟩
theorem ti68_ok:tiOf Tryz.prog 68=some ti68:=by kernel_rfl
noncomputable def ti69:TI:=⟨.struct [(0,9),(1,9)],2,32,[.string ⟨#[]⟩,.string ⟨#[]⟩]⟩
theorem ti69_ok:tiOf Tryz.prog 69=some ti69:=by kernel_rfl
noncomputable def ti70:TI:=⟨.struct [(0,9),(1,9)],2,32,[.string ⟨#[]⟩,.string ⟨#[]⟩]⟩
theorem ti70_ok:tiOf Tryz.prog 70=some ti70:=by kernel_rfl
noncomputable def ti71:TI:=⟨.struct [(0,23),(1,32)],2,48,[.slice none 0 0,.slice none 0 0]⟩
theorem ti71_ok:tiOf Tryz.prog 71=some ti71:=by kernel_rfl
noncomputable def ti72:TI:=⟨.struct [(0,23),(1,32)],2,48,[.slice none 0 0,.slice none 0 0]⟩
theorem ti72_ok:tiOf Tryz.prog 72=some ti72:=by kernel_rfl
noncomputable def ti73:TI:=⟨.func,1,8,[.nilFunc]⟩
theorem ti73_ok:tiOf Tryz.prog 73=some ti73:=by kernel_rfl
noncomputable def ti74:TI:=⟨.map 81 32,1,8,[.map none]⟩
theorem ti74_ok:tiOf Tryz.prog 74=some ti74:=by kernel_rfl
noncomputable def ti75:TI:=⟨.struct [(0,74)],1,8,[.map none]⟩
theorem ti75_ok:tiOf Tryz.prog 75=some ti75:=by kernel_rfl
noncomputable def ti76:TI:=⟨.struct [(0,74)],1,8,[.map none]⟩
theorem ti76_ok:tiOf Tryz.prog 76=some ti76:=by kernel_rfl
noncomputable def ti77:TI:=⟨.struct [(0,76),(1,3)],2,16,[.map none,.int .i64 0]⟩
theorem ti77_ok:tiOf Tryz.prog 77=some ti77:=by kernel_rfl
noncomputable def ti78:TI:=⟨.struct [(0,76),(1,3)],2,16,[.map none,.int .i64 0]⟩
theorem ti78_ok:tiOf Tryz.prog 78=some ti78:=by kernel_rfl
noncomputable def ti79:TI:=⟨.func,1,8,[.nilFunc]⟩
theorem ti79_ok:tiOf Tryz.prog 79=some ti79:=by kernel_rfl
noncomputable def ti80:TI:=⟨.struct [(0,3),(1,9)],2,24,[.int .i64 0,.string ⟨#[]⟩]⟩
theorem ti80_ok:tiOf Tryz.prog 80=some ti80:=by kernel_rfl
noncomputable def ti81:TI:=⟨.struct [(0,3),(1,9)],2,24,[.int .i64 0,.string ⟨#[]⟩]⟩
theorem ti81_ok:tiOf Tryz.prog 81=some ti81:=by kernel_rfl
noncomputable def ti82:TI:=⟨.func,1,8,[.nilFunc]⟩
theorem ti82_ok:tiOf Tryz.prog 82=some ti82:=by kernel_rfl
noncomputable def ti83:TI:=⟨.slice 123,1,24,[.slice none 0 0]⟩
theorem ti83_ok:tiOf Tryz.prog 83=some ti83:=by kernel_rfl
noncomputable def ti84:TI:=⟨.slice 125,1,24,[.slice none 0 0]⟩
theorem ti84_ok:tiOf Tryz.prog 84=some ti84:=by kernel_rfl
noncomputable def ti85:TI:=⟨.struct [(0,9),(1,34),(2,34),(3,83),(4,84)],5,112,[.string ⟨#[]⟩,.slice none 0 0,.slice none 0 0,.slice none 0 0,.slice none 0 0]⟩
theorem ti85_ok:tiOf Tryz.prog 85=some ti85:=by kernel_rfl
noncomputable def ti86:TI:=⟨.struct [(0,9),(1,34),(2,34),(3,83),(4,84)],5,112,[.string ⟨#[]⟩,.slice none 0 0,.slice none 0 0,.slice none 0 0,.slice none 0 0]⟩
theorem ti86_ok:tiOf Tryz.prog 86=some ti86:=by kernel_rfl
noncomputable def ti87:TI:=⟨.struct [(0,3),(1,86)],6,120,[.int .i64 0,.string ⟨#[]⟩,.slice none 0 0,.slice none 0 0,.slice none 0 0,.slice none 0 0]⟩
theorem ti87_ok:tiOf Tryz.prog 87=some ti87:=by kernel_rfl
noncomputable def ti88:TI:=⟨.struct [(0,3),(1,86)],6,120,[.int .i64 0,.string ⟨#[]⟩,.slice none 0 0,.slice none 0 0,.slice none 0 0,.slice none 0 0]⟩
theorem ti88_ok:tiOf Tryz.prog 88=some ti88:=by kernel_rfl
noncomputable def ti89:TI:=⟨.func,1,8,[.nilFunc]⟩
theorem ti89_ok:tiOf Tryz.prog 89=some ti89:=by kernel_rfl
noncomputable def ti90:TI:=⟨.func,1,8,[.nilFunc]⟩
theorem ti90_ok:tiOf Tryz.prog 90=some ti90:=by kernel_rfl
noncomputable def ti91:TI:=⟨.func,1,8,[.nilFunc]⟩
theorem ti91_ok:tiOf Tryz.prog 91=some ti91:=by kernel_rfl
noncomputable def ti92:TI:=⟨.func,1,8,[.nilFunc]⟩
theorem ti92_ok:tiOf Tryz.prog 92=some ti92:=by kernel_rfl
noncomputable def ti93:TI:=⟨.func,1,8,[.nilFunc]⟩
theorem ti93_ok:tiOf Tryz.prog 93=some ti93:=by kernel_rfl
noncomputable def ti94:TI:=⟨.func,1,8,[.nilFunc]⟩
theorem ti94_ok:tiOf Tryz.prog 94=some ti94:=by kernel_rfl
noncomputable def ti95:TI:=⟨.slice 119,1,24,[.slice none 0 0]⟩
theorem ti95_ok:tiOf Tryz.prog 95=some ti95:=by kernel_rfl
noncomputable def ti96:TI:=⟨.struct [(0,95)],1,24,[.slice none 0 0]⟩
theorem ti96_ok:tiOf Tryz.prog 96=some ti96:=by kernel_rfl
noncomputable def ti97:TI:=⟨.struct [(0,95)],1,24,[.slice none 0 0]⟩
theorem ti97_ok:tiOf Tryz.prog 97=some ti97:=by kernel_rfl
noncomputable def ti98:TI:=⟨.func,1,8,[.nilFunc]⟩
theorem ti98_ok:tiOf Tryz.prog 98=some ti98:=by kernel_rfl
noncomputable def ti99:TI:=⟨.func,1,8,[.nilFunc]⟩
theorem ti99_ok:tiOf Tryz.prog 99=some ti99:=by kernel_rfl
noncomputable def ti100:TI:=⟨.func,1,8,[.nilFunc]⟩
theorem ti100_ok:tiOf Tryz.prog 100=some ti100:=by kernel_rfl
noncomputable def ti101:TI:=⟨.func,1,8,[.nilFunc]⟩
theorem ti101_ok:tiOf Tryz.prog 101=some ti101:=by kernel_rfl
noncomputable def ti102:TI:=⟨.func,1,8,[.nilFunc]⟩
theorem ti102_ok:tiOf Tryz.prog 102=some ti102:=by kernel_rfl
noncomputable def ti104:TI:=⟨.func,1,8,[.nilFunc]⟩
theorem ti104_ok:tiOf Tryz.prog 104=some ti104:=by kernel_rfl
noncomputable def ti105:TI:=⟨.slice 139,1,24,[.slice none 0 0]⟩
theorem ti105_ok:tiOf Tryz.prog 105=some ti105:=by kernel_rfl
noncomputable def ti106:TI:=⟨.func,1,8,[.nilFunc]⟩
theorem ti106_ok:tiOf Tryz.prog 106=some ti106:=by kernel_rfl
noncomputable def ti107:TI:=⟨.func,1,8,[.nilFunc]⟩
theorem ti107_ok:tiOf Tryz.prog 107=some ti107:=by kernel_rfl
noncomputable def ti108:TI:=⟨.slice 5,1,24,[.slice none 0 0]⟩
theorem ti108_ok:tiOf Tryz.prog 108=some ti108:=by kernel_rfl
noncomputable def ti109:TI:=⟨.func,1,8,[.nilFunc]⟩
theorem ti109_ok:tiOf Tryz.prog 109=some ti109:=by kernel_rfl
noncomputable def ti110:TI:=⟨.ptr 76,1,8,[.pointer none]⟩
theorem ti110_ok:tiOf Tryz.prog 110=some ti110:=by kernel_rfl
noncomputable def ti111:TI:=⟨.slice 32,1,24,[.slice none 0 0]⟩
theorem ti111_ok:tiOf Tryz.prog 111=some ti111:=by kernel_rfl
noncomputable def ti112:TI:=⟨.func,1,8,[.nilFunc]⟩
theorem ti112_ok:tiOf Tryz.prog 112=some ti112:=by kernel_rfl
noncomputable def ti113:TI:=⟨.func,1,8,[.nilFunc]⟩
theorem ti113_ok:tiOf Tryz.prog 113=some ti113:=by kernel_rfl
noncomputable def ti114:TI:=⟨.func,1,8,[.nilFunc]⟩
theorem ti114_ok:tiOf Tryz.prog 114=some ti114:=by kernel_rfl
noncomputable def ti115:TI:=⟨.int .u64,1,8,[.int .u64 0]⟩
theorem ti115_ok:tiOf Tryz.prog 115=some ti115:=by kernel_rfl
noncomputable def ti116:TI:=⟨.func,1,8,[.nilFunc]⟩
theorem ti116_ok:tiOf Tryz.prog 116=some ti116:=by kernel_rfl
noncomputable def ti117:TI:=⟨.func,1,8,[.nilFunc]⟩
theorem ti117_ok:tiOf Tryz.prog 117=some ti117:=by kernel_rfl
noncomputable def ti118:TI:=⟨.struct [(0,37),(5,32),(6,3),(7,3),(8,3)],9,136,[.int .i64 0,.string ⟨#[]⟩,.string ⟨#[]⟩,.slice none 0 0,.slice none 0 0,.slice none 0 0,.int .i64 0,.int .i64 0,.int .i64 0]⟩
theorem ti118_ok:tiOf Tryz.prog 118=some ti118:=by kernel_rfl
noncomputable def ti119:TI:=⟨.struct [(0,37),(5,32),(6,3),(7,3),(8,3)],9,136,[.int .i64 0,.string ⟨#[]⟩,.string ⟨#[]⟩,.slice none 0 0,.slice none 0 0,.slice none 0 0,.int .i64 0,.int .i64 0,.int .i64 0]⟩
theorem ti119_ok:tiOf Tryz.prog 119=some ti119:=by kernel_rfl
noncomputable def ti120:TI:=⟨.ptr 119,1,8,[.pointer none]⟩
theorem ti120_ok:tiOf Tryz.prog 120=some ti120:=by kernel_rfl
noncomputable def ti121:TI:=⟨.func,1,8,[.nilFunc]⟩
theorem ti121_ok:tiOf Tryz.prog 121=some ti121:=by kernel_rfl
noncomputable def ti122:TI:=⟨.struct [(0,9),(1,3),(2,9)],3,40,[.string ⟨#[]⟩,.int .i64 0,.string ⟨#[]⟩]⟩
theorem ti122_ok:tiOf Tryz.prog 122=some ti122:=by kernel_rfl
noncomputable def ti123:TI:=⟨.struct [(0,9),(1,3),(2,9)],3,40,[.string ⟨#[]⟩,.int .i64 0,.string ⟨#[]⟩]⟩
theorem ti123_ok:tiOf Tryz.prog 123=some ti123:=by kernel_rfl
noncomputable def ti124:TI:=⟨.struct [(0,3),(1,3),(2,3),(3,40)],4,48,[.int .i64 0,.int .i64 0,.int .i64 0,.slice none 0 0]⟩
theorem ti124_ok:tiOf Tryz.prog 124=some ti124:=by kernel_rfl
noncomputable def ti125:TI:=⟨.struct [(0,3),(1,3),(2,3),(3,40)],4,48,[.int .i64 0,.int .i64 0,.int .i64 0,.slice none 0 0]⟩
theorem ti125_ok:tiOf Tryz.prog 125=some ti125:=by kernel_rfl
noncomputable def ti126:TI:=⟨.func,1,8,[.nilFunc]⟩
theorem ti126_ok:tiOf Tryz.prog 126=some ti126:=by kernel_rfl
noncomputable def ti127:TI:=⟨.array 3 3,3,24,[.int .i64 0,.int .i64 0,.int .i64 0]⟩
theorem ti127_ok:tiOf Tryz.prog 127=some ti127:=by kernel_rfl
noncomputable def ti128:TI:=⟨.array 3 3,3,24,[.int .i64 0,.int .i64 0,.int .i64 0]⟩
theorem ti128_ok:tiOf Tryz.prog 128=some ti128:=by kernel_rfl
noncomputable def ti129:TI:=⟨.func,1,8,[.nilFunc]⟩
theorem ti129_ok:tiOf Tryz.prog 129=some ti129:=by kernel_rfl
noncomputable def ti130:TI:=⟨.func,1,8,[.nilFunc]⟩
theorem ti130_ok:tiOf Tryz.prog 130=some ti130:=by kernel_rfl
noncomputable def ti131:TI:=⟨.ptr 133,1,8,[.pointer none]⟩
theorem ti131_ok:tiOf Tryz.prog 131=some ti131:=by kernel_rfl
noncomputable def ti132:TI:=⟨.struct [(0,105),(1,3),(2,4),(3,3)],4,48,[.slice none 0 0,.int .i64 0,.bool false,.int .i64 0]⟩
theorem ti132_ok:tiOf Tryz.prog 132=some ti132:=by kernel_rfl
noncomputable def ti133:TI:=⟨.struct [(0,105),(1,3),(2,4),(3,3)],4,48,[.slice none 0 0,.int .i64 0,.bool false,.int .i64 0]⟩
theorem ti133_ok:tiOf Tryz.prog 133=some ti133:=by kernel_rfl
noncomputable def ti134:TI:=⟨.func,1,8,[.nilFunc]⟩
theorem ti134_ok:tiOf Tryz.prog 134=some ti134:=by kernel_rfl
noncomputable def ti135:TI:=⟨.ptr 137,1,8,[.pointer none]⟩
theorem ti135_ok:tiOf Tryz.prog 135=some ti135:=by kernel_rfl
noncomputable def ti136:TI:=⟨.struct [(0,32),(1,3)],2,32,[.slice none 0 0,.int .i64 0]⟩
theorem ti136_ok:tiOf Tryz.prog 136=some ti136:=by kernel_rfl
noncomputable def ti137:TI:=⟨.struct [(0,32),(1,3)],2,32,[.slice none 0 0,.int .i64 0]⟩
theorem ti137_ok:tiOf Tryz.prog 137=some ti137:=by kernel_rfl
noncomputable def ti138:TI:=⟨.struct [(0,3),(1,9),(2,3),(3,4),(4,3)],5,48,[.int .i64 0,.string ⟨#[]⟩,.int .i64 0,.bool false,.int .i64 0]⟩
theorem ti138_ok:tiOf Tryz.prog 138=some ti138:=by kernel_rfl
noncomputable def ti139:TI:=⟨.struct [(0,3),(1,9),(2,3),(3,4),(4,3)],5,48,[.int .i64 0,.string ⟨#[]⟩,.int .i64 0,.bool false,.int .i64 0]⟩
theorem ti139_ok:tiOf Tryz.prog 139=some ti139:=by kernel_rfl
noncomputable def ti140:TI:=⟨.func,1,8,[.nilFunc]⟩
theorem ti140_ok:tiOf Tryz.prog 140=some ti140:=by kernel_rfl
noncomputable def ti141:TI:=⟨.func,1,8,[.nilFunc]⟩
theorem ti141_ok:tiOf Tryz.prog 141=some ti141:=by kernel_rfl
noncomputable def ti142:TI:=⟨.func,1,8,[.nilFunc]⟩
theorem ti142_ok:tiOf Tryz.prog 142=some ti142:=by kernel_rfl
noncomputable def ti143:TI:=⟨.int .i64,1,8,[.int .i64 0]⟩
theorem ti143_ok:tiOf Tryz.prog 143=some ti143:=by kernel_rfl
noncomputable def ti145:TI:=⟨.func,1,8,[.nilFunc]⟩
theorem ti145_ok:tiOf Tryz.prog 145=some ti145:=by kernel_rfl
noncomputable def ti146:TI:=⟨.func,1,8,[.nilFunc]⟩
theorem ti146_ok:tiOf Tryz.prog 146=some ti146:=by kernel_rfl
noncomputable def ti147:TI:=⟨.func,1,8,[.nilFunc]⟩
theorem ti147_ok:tiOf Tryz.prog 147=some ti147:=by kernel_rfl
noncomputable def ti148:TI:=⟨.func,1,8,[.nilFunc]⟩
theorem ti148_ok:tiOf Tryz.prog 148=some ti148:=by kernel_rfl
noncomputable def ti149:TI:=⟨.func,1,8,[.nilFunc]⟩
theorem ti149_ok:tiOf Tryz.prog 149=some ti149:=by kernel_rfl
noncomputable def ti150:TI:=⟨.func,1,8,[.nilFunc]⟩
theorem ti150_ok:tiOf Tryz.prog 150=some ti150:=by kernel_rfl
noncomputable def ti151:TI:=⟨.int .u32,1,4,[.int .u32 0]⟩
theorem ti151_ok:tiOf Tryz.prog 151=some ti151:=by kernel_rfl
noncomputable def ti152:TI:=⟨.func,1,8,[.nilFunc]⟩
theorem ti152_ok:tiOf Tryz.prog 152=some ti152:=by kernel_rfl
noncomputable def ti153:TI:=⟨.int .u64,1,8,[.int .u64 0]⟩
theorem ti153_ok:tiOf Tryz.prog 153=some ti153:=by kernel_rfl
noncomputable def ti154:TI:=⟨.func,1,8,[.nilFunc]⟩
theorem ti154_ok:tiOf Tryz.prog 154=some ti154:=by kernel_rfl
noncomputable def ti155:TI:=⟨.func,1,8,[.nilFunc]⟩
theorem ti155_ok:tiOf Tryz.prog 155=some ti155:=by kernel_rfl
noncomputable def ti156:TI:=⟨.func,1,8,[.nilFunc]⟩
theorem ti156_ok:tiOf Tryz.prog 156=some ti156:=by kernel_rfl
noncomputable def ti157:TI:=⟨.ptr 183,1,8,[.pointer none]⟩
theorem ti157_ok:tiOf Tryz.prog 157=some ti157:=by kernel_rfl
noncomputable def ti158:TI:=⟨.func,1,8,[.nilFunc]⟩
theorem ti158_ok:tiOf Tryz.prog 158=some ti158:=by kernel_rfl
noncomputable def ti159:TI:=⟨.func,1,8,[.nilFunc]⟩
theorem ti159_ok:tiOf Tryz.prog 159=some ti159:=by kernel_rfl
noncomputable def ti160:TI:=⟨.func,1,8,[.nilFunc]⟩
theorem ti160_ok:tiOf Tryz.prog 160=some ti160:=by kernel_rfl
noncomputable def ti161:TI:=⟨.func,1,8,[.nilFunc]⟩
theorem ti161_ok:tiOf Tryz.prog 161=some ti161:=by kernel_rfl
noncomputable def ti162:TI:=⟨.ptr 128,1,8,[.pointer none]⟩
theorem ti162_ok:tiOf Tryz.prog 162=some ti162:=by kernel_rfl
noncomputable def ti163:TI:=⟨.func,1,8,[.nilFunc]⟩
theorem ti163_ok:tiOf Tryz.prog 163=some ti163:=by kernel_rfl
noncomputable def ti164:TI:=⟨.func,1,8,[.nilFunc]⟩
theorem ti164_ok:tiOf Tryz.prog 164=some ti164:=by kernel_rfl
noncomputable def ti165:TI:=⟨.func,1,8,[.nilFunc]⟩
theorem ti165_ok:tiOf Tryz.prog 165=some ti165:=by kernel_rfl
noncomputable def ti166:TI:=⟨.func,1,8,[.nilFunc]⟩
theorem ti166_ok:tiOf Tryz.prog 166=some ti166:=by kernel_rfl
noncomputable def ti167:TI:=⟨.func,1,8,[.nilFunc]⟩
theorem ti167_ok:tiOf Tryz.prog 167=some ti167:=by kernel_rfl
noncomputable def ti168:TI:=⟨.func,1,8,[.nilFunc]⟩
theorem ti168_ok:tiOf Tryz.prog 168=some ti168:=by kernel_rfl
noncomputable def ti170:TI:=⟨.func,1,8,[.nilFunc]⟩
theorem ti170_ok:tiOf Tryz.prog 170=some ti170:=by kernel_rfl
noncomputable def ti171:TI:=⟨.int .u64,1,8,[.int .u64 0]⟩
theorem ti171_ok:tiOf Tryz.prog 171=some ti171:=by kernel_rfl
noncomputable def ti172:TI:=⟨.func,1,8,[.nilFunc]⟩
theorem ti172_ok:tiOf Tryz.prog 172=some ti172:=by kernel_rfl
noncomputable def ti173:TI:=⟨.func,1,8,[.nilFunc]⟩
theorem ti173_ok:tiOf Tryz.prog 173=some ti173:=by kernel_rfl
noncomputable def ti174:TI:=⟨.func,1,8,[.nilFunc]⟩
theorem ti174_ok:tiOf Tryz.prog 174=some ti174:=by kernel_rfl
noncomputable def ti175:TI:=⟨.ptr 3,1,8,[.pointer none]⟩
theorem ti175_ok:tiOf Tryz.prog 175=some ti175:=by kernel_rfl
noncomputable def ti176:TI:=⟨.func,1,8,[.nilFunc]⟩
theorem ti176_ok:tiOf Tryz.prog 176=some ti176:=by kernel_rfl
noncomputable def ti177:TI:=⟨.func,1,8,[.nilFunc]⟩
theorem ti177_ok:tiOf Tryz.prog 177=some ti177:=by kernel_rfl
noncomputable def ti178:TI:=⟨.func,1,8,[.nilFunc]⟩
theorem ti178_ok:tiOf Tryz.prog 178=some ti178:=by kernel_rfl
noncomputable def ti179:TI:=⟨.func,1,8,[.nilFunc]⟩
theorem ti179_ok:tiOf Tryz.prog 179=some ti179:=by kernel_rfl
noncomputable def ti180:TI:=⟨.map 196 4,1,8,[.map none]⟩
theorem ti180_ok:tiOf Tryz.prog 180=some ti180:=by kernel_rfl
noncomputable def ti181:TI:=⟨.slice 184,1,24,[.slice none 0 0]⟩
theorem ti181_ok:tiOf Tryz.prog 181=some ti181:=by kernel_rfl
noncomputable def ti182:TI:=⟨.struct [(0,46),(1,181),(2,180)],3,40,[.pointer none,.slice none 0 0,.map none]⟩
theorem ti182_ok:tiOf Tryz.prog 182=some ti182:=by kernel_rfl
noncomputable def ti183:TI:=⟨.struct [(0,46),(1,181),(2,180)],3,40,[.pointer none,.slice none 0 0,.map none]⟩
theorem ti183_ok:tiOf Tryz.prog 183=some ti183:=by kernel_rfl
noncomputable def ti184:TI:=⟨.slice 187,1,24,[.slice none 0 0]⟩
theorem ti184_ok:tiOf Tryz.prog 184=some ti184:=by kernel_rfl
noncomputable def ti185:TI:=⟨.func,1,8,[.nilFunc]⟩
theorem ti185_ok:tiOf Tryz.prog 185=some ti185:=by kernel_rfl
noncomputable def ti186:TI:=⟨.struct [(0,88),(6,111)],7,144,[.int .i64 0,.string ⟨#[]⟩,.slice none 0 0,.slice none 0 0,.slice none 0 0,.slice none 0 0,.slice none 0 0]⟩
theorem ti186_ok:tiOf Tryz.prog 186=some ti186:=by kernel_rfl
noncomputable def ti187:TI:=⟨.struct [(0,88),(6,111)],7,144,[.int .i64 0,.string ⟨#[]⟩,.slice none 0 0,.slice none 0 0,.slice none 0 0,.slice none 0 0,.slice none 0 0]⟩
theorem ti187_ok:tiOf Tryz.prog 187=some ti187:=by kernel_rfl
noncomputable def ti188:TI:=⟨.func,1,8,[.nilFunc]⟩
theorem ti188_ok:tiOf Tryz.prog 188=some ti188:=by kernel_rfl
noncomputable def ti189:TI:=⟨.ptr 171,1,8,[.pointer none]⟩
theorem ti189_ok:tiOf Tryz.prog 189=some ti189:=by kernel_rfl
noncomputable def ti190:TI:=⟨.func,1,8,[.nilFunc]⟩
theorem ti190_ok:tiOf Tryz.prog 190=some ti190:=by kernel_rfl
noncomputable def ti191:TI:=⟨.func,1,8,[.nilFunc]⟩
theorem ti191_ok:tiOf Tryz.prog 191=some ti191:=by kernel_rfl
noncomputable def ti192:TI:=⟨.func,1,8,[.nilFunc]⟩
theorem ti192_ok:tiOf Tryz.prog 192=some ti192:=by kernel_rfl
noncomputable def ti193:TI:=⟨.func,1,8,[.nilFunc]⟩
theorem ti193_ok:tiOf Tryz.prog 193=some ti193:=by kernel_rfl
noncomputable def ti194:TI:=⟨.func,1,8,[.nilFunc]⟩
theorem ti194_ok:tiOf Tryz.prog 194=some ti194:=by kernel_rfl
noncomputable def ti195:TI:=⟨.struct [(0,3),(1,3),(2,3),(3,4)],4,32,[.int .i64 0,.int .i64 0,.int .i64 0,.bool false]⟩
theorem ti195_ok:tiOf Tryz.prog 195=some ti195:=by kernel_rfl
noncomputable def ti196:TI:=⟨.struct [(0,3),(1,3),(2,3),(3,4)],4,32,[.int .i64 0,.int .i64 0,.int .i64 0,.bool false]⟩
theorem ti196_ok:tiOf Tryz.prog 196=some ti196:=by kernel_rfl
noncomputable def ti197:TI:=⟨.func,1,8,[.nilFunc]⟩
theorem ti197_ok:tiOf Tryz.prog 197=some ti197:=by kernel_rfl
noncomputable def ti198:TI:=⟨.func,1,8,[.nilFunc]⟩
theorem ti198_ok:tiOf Tryz.prog 198=some ti198:=by kernel_rfl
noncomputable def ti199:TI:=⟨.func,1,8,[.nilFunc]⟩
theorem ti199_ok:tiOf Tryz.prog 199=some ti199:=by kernel_rfl
noncomputable def ti200:TI:=⟨.func,1,8,[.nilFunc]⟩
theorem ti200_ok:tiOf Tryz.prog 200=some ti200:=by kernel_rfl
noncomputable def ti201:TI:=⟨.func,1,8,[.nilFunc]⟩
theorem ti201_ok:tiOf Tryz.prog 201=some ti201:=by kernel_rfl
noncomputable def ti202:TI:=⟨.func,1,8,[.nilFunc]⟩
theorem ti202_ok:tiOf Tryz.prog 202=some ti202:=by kernel_rfl
noncomputable def ti203:TI:=⟨.func,1,8,[.nilFunc]⟩
theorem ti203_ok:tiOf Tryz.prog 203=some ti203:=by kernel_rfl
noncomputable def ti205:TI:=⟨.func,1,8,[.nilFunc]⟩
theorem ti205_ok:tiOf Tryz.prog 205=some ti205:=by kernel_rfl
noncomputable def ti206:TI:=⟨.func,1,8,[.nilFunc]⟩
theorem ti206_ok:tiOf Tryz.prog 206=some ti206:=by kernel_rfl
noncomputable def ti207:TI:=⟨.func,1,8,[.nilFunc]⟩
theorem ti207_ok:tiOf Tryz.prog 207=some ti207:=by kernel_rfl
noncomputable def ti208:TI:=⟨.func,1,8,[.nilFunc]⟩
theorem ti208_ok:tiOf Tryz.prog 208=some ti208:=by kernel_rfl
noncomputable def ti209:TI:=⟨.func,1,8,[.nilFunc]⟩
theorem ti209_ok:tiOf Tryz.prog 209=some ti209:=by kernel_rfl
noncomputable def ti210:TI:=⟨.func,1,8,[.nilFunc]⟩
theorem ti210_ok:tiOf Tryz.prog 210=some ti210:=by kernel_rfl
noncomputable def ti211:TI:=⟨.func,1,8,[.nilFunc]⟩
theorem ti211_ok:tiOf Tryz.prog 211=some ti211:=by kernel_rfl
noncomputable def ti212:TI:=⟨.func,1,8,[.nilFunc]⟩
theorem ti212_ok:tiOf Tryz.prog 212=some ti212:=by kernel_rfl
noncomputable def ti213:TI:=⟨.func,1,8,[.nilFunc]⟩
theorem ti213_ok:tiOf Tryz.prog 213=some ti213:=by kernel_rfl
noncomputable def ti214:TI:=⟨.func,1,8,[.nilFunc]⟩
theorem ti214_ok:tiOf Tryz.prog 214=some ti214:=by kernel_rfl
noncomputable def ti215:TI:=⟨.func,1,8,[.nilFunc]⟩
theorem ti215_ok:tiOf Tryz.prog 215=some ti215:=by kernel_rfl
noncomputable def ti216:TI:=⟨.func,1,8,[.nilFunc]⟩
theorem ti216_ok:tiOf Tryz.prog 216=some ti216:=by kernel_rfl
noncomputable def ti218:TI:=⟨.func,1,8,[.nilFunc]⟩
theorem ti218_ok:tiOf Tryz.prog 218=some ti218:=by kernel_rfl
noncomputable def ti219:TI:=⟨.struct [(0,17),(1,17),(2,17),(3,9)],4,40,[.pointer none,.pointer none,.pointer none,.string ⟨#[]⟩]⟩
theorem ti219_ok:tiOf Tryz.prog 219=some ti219:=by kernel_rfl
noncomputable def ti220:TI:=⟨.struct [(0,17),(1,17),(2,17),(3,9)],4,40,[.pointer none,.pointer none,.pointer none,.string ⟨#[]⟩]⟩
theorem ti220_ok:tiOf Tryz.prog 220=some ti220:=by kernel_rfl
noncomputable def ti221:TI:=⟨.array 0 16,0,0,[]⟩
theorem ti221_ok:tiOf Tryz.prog 221=some ti221:=by kernel_rfl
noncomputable def ti222:TI:=⟨.struct [(0,221)],0,0,[]⟩
theorem ti222_ok:tiOf Tryz.prog 222=some ti222:=by kernel_rfl
noncomputable def ti223:TI:=⟨.struct [(0,221)],0,0,[]⟩
theorem ti223_ok:tiOf Tryz.prog 223=some ti223:=by kernel_rfl
noncomputable def ti224:TI:=⟨.int .u8,1,1,[.int .u8 0]⟩
theorem ti224_ok:tiOf Tryz.prog 224=some ti224:=by kernel_rfl
noncomputable def ti225:TI:=⟨.int .u8,1,1,[.int .u8 0]⟩
theorem ti225_ok:tiOf Tryz.prog 225=some ti225:=by kernel_rfl
noncomputable def ti226:TI:=⟨.func,1,8,[.nilFunc]⟩
theorem ti226_ok:tiOf Tryz.prog 226=some ti226:=by kernel_rfl
noncomputable def ti227:TI:=⟨.ptr 5,1,8,[.pointer none]⟩
theorem ti227_ok:tiOf Tryz.prog 227=some ti227:=by kernel_rfl
noncomputable def ti228:TI:=⟨.int .i32,1,4,[.int .i32 0]⟩
theorem ti228_ok:tiOf Tryz.prog 228=some ti228:=by kernel_rfl
noncomputable def ti229:TI:=⟨.int .i32,1,4,[.int .i32 0]⟩
theorem ti229_ok:tiOf Tryz.prog 229=some ti229:=by kernel_rfl
noncomputable def ti230:TI:=⟨.struct [(0,12),(1,12),(2,151),(3,224),(4,5),(5,5),(6,225),(7,226),(8,227),(9,228),(10,229)],11,48,[.int .u64 0,.int .u64 0,.int .u32 0,.int .u8 0,.int .u8 0,.int .u8 0,.int .u8 0,.nilFunc,.pointer none,.int .i32 0,.int .i32 0]⟩
theorem ti230_ok:tiOf Tryz.prog 230=some ti230:=by kernel_rfl
noncomputable def ti231:TI:=⟨.struct [(0,12),(1,12),(2,151),(3,224),(4,5),(5,5),(6,225),(7,226),(8,227),(9,228),(10,229)],11,48,[.int .u64 0,.int .u64 0,.int .u32 0,.int .u8 0,.int .u8 0,.int .u8 0,.int .u8 0,.nilFunc,.pointer none,.int .i32 0,.int .i32 0]⟩
theorem ti231_ok:tiOf Tryz.prog 231=some ti231:=by kernel_rfl
noncomputable def ti232:TI:=⟨.struct [(0,3),(1,3)],2,16,[.int .i64 0,.int .i64 0]⟩
theorem ti232_ok:tiOf Tryz.prog 232=some ti232:=by kernel_rfl
noncomputable def ti233:TI:=⟨.struct [(0,3),(1,3)],2,16,[.int .i64 0,.int .i64 0]⟩
theorem ti233_ok:tiOf Tryz.prog 233=some ti233:=by kernel_rfl
noncomputable def ti234:TI:=⟨.struct [(0,3),(1,233),(3,4)],4,32,[.int .i64 0,.int .i64 0,.int .i64 0,.bool false]⟩
theorem ti234_ok:tiOf Tryz.prog 234=some ti234:=by kernel_rfl
noncomputable def ti235:TI:=⟨.struct [(0,3),(1,233),(3,4)],4,32,[.int .i64 0,.int .i64 0,.int .i64 0,.bool false]⟩
theorem ti235_ok:tiOf Tryz.prog 235=some ti235:=by kernel_rfl
noncomputable def tiT:Tr TI:=.node none (.node (some ti1) (.node (some ti3) (.node (some ti7) (.node (some ti15) (.node (some ti31) (.node none (.node (some ti127) .leaf .leaf) (.node (some ti191) .leaf .leaf)) (.node (some ti95) (.node (some ti159) .leaf .leaf) (.node (some ti223) .leaf .leaf))) (.node (some ti47) (.node (some ti79) (.node (some ti143) .leaf .leaf) (.node (some ti207) .leaf .leaf)) (.node (some ti111) (.node (some ti175) .leaf .leaf) .leaf))) (.node (some ti23) (.node (some ti39) (.node (some ti71) (.node (some ti135) .leaf .leaf) (.node (some ti199) .leaf .leaf)) (.node none (.node (some ti167) .leaf .leaf) (.node (some ti231) .leaf .leaf))) (.node (some ti55) (.node (some ti87) (.node (some ti151) .leaf .leaf) (.node (some ti215) .leaf .leaf)) (.node (some ti119) (.node (some ti183) .leaf .leaf) .leaf)))) (.node (some ti11) (.node (some ti19) (.node (some ti35) (.node (some ti67) (.node (some ti131) .leaf .leaf) (.node (some ti195) .leaf .leaf)) (.node (some ti99) (.node (some ti163) .leaf .leaf) (.node (some ti227) .leaf .leaf))) (.node (some ti51) (.node (some ti83) (.node (some ti147) .leaf .leaf) (.node (some ti211) .leaf .leaf)) (.node (some ti115) (.node (some ti179) .leaf .leaf) .leaf))) (.node (some ti27) (.node (some ti43) (.node (some ti75) (.node (some ti139) .leaf .leaf) (.node (some ti203) .leaf .leaf)) (.node (some ti107) (.node (some ti171) .leaf .leaf) (.node (some ti235) .leaf .leaf))) (.node (some ti59) (.node (some ti91) (.node (some ti155) .leaf .leaf) (.node (some ti219) .leaf .leaf)) (.node (some ti123) (.node (some ti187) .leaf .leaf) .leaf))))) (.node (some ti5) (.node (some ti9) (.node (some ti17) (.node (some ti33) (.node (some ti65) (.node (some ti129) .leaf .leaf) (.node (some ti193) .leaf .leaf)) (.node (some ti97) (.node (some ti161) .leaf .leaf) (.node (some ti225) .leaf .leaf))) (.node (some ti49) (.node (some ti81) (.node (some ti145) .leaf .leaf) (.node (some ti209) .leaf .leaf)) (.node (some ti113) (.node (some ti177) .leaf .leaf) .leaf))) (.node (some ti25) (.node (some ti41) (.node (some ti73) (.node (some ti137) .leaf .leaf) (.node (some ti201) .leaf .leaf)) (.node (some ti105) .leaf (.node (some ti233) .leaf .leaf))) (.node (some ti57) (.node (some ti89) (.node (some ti153) .leaf .leaf) .leaf) (.node (some ti121) (.node (some ti185) .leaf .leaf) .leaf)))) (.node (some ti13) (.node (some ti21) (.node (some ti37) (.node (some ti69) (.node (some ti133) .leaf .leaf) (.node (some ti197) .leaf .leaf)) (.node (some ti101) (.node (some ti165) .leaf .leaf) (.node (some ti229) .leaf .leaf))) (.node (some ti53) (.node (some ti85) (.node (some ti149) .leaf .leaf) (.node (some ti213) .leaf .leaf)) (.node (some ti117) (.node (some ti181) .leaf .leaf) .leaf))) (.node (some ti29) (.node (some ti45) (.node (some ti77) (.node (some ti141) .leaf .leaf) (.node (some ti205) .leaf .leaf)) (.node (some ti109) (.node (some ti173) .leaf .leaf) .leaf)) (.node (some ti61) (.node (some ti93) (.node (some ti157) .leaf .leaf) (.node (some ti221) .leaf .leaf)) (.node (some ti125) (.node (some ti189) .leaf .leaf) .leaf)))))) (.node (some ti2) (.node (some ti4) (.node (some ti8) (.node (some ti16) (.node (some ti32) (.node (some ti64) (.node (some ti128) .leaf .leaf) (.node (some ti192) .leaf .leaf)) (.node (some ti96) (.node (some ti160) .leaf .leaf) (.node (some ti224) .leaf .leaf))) (.node none (.node (some ti80) .leaf (.node (some ti208) .leaf .leaf)) (.node (some ti112) (.node (some ti176) .leaf .leaf) .leaf))) (.node (some ti24) (.node (some ti40) (.node (some ti72) (.node (some ti136) .leaf .leaf) (.node (some ti200) .leaf .leaf)) (.node (some ti104) (.node (some ti168) .leaf .leaf) (.node (some ti232) .leaf .leaf))) (.node (some ti56) (.node (some ti88) (.node (some ti152) .leaf .leaf) (.node (some ti216) .leaf .leaf)) (.node (some ti120) (.node (some ti184) .leaf .leaf) .leaf)))) (.node (some ti12) (.node none (.node (some ti36) (.node (some ti68) (.node (some ti132) .leaf .leaf) (.node (some ti196) .leaf .leaf)) (.node (some ti100) (.node (some ti164) .leaf .leaf) (.node (some ti228) .leaf .leaf))) (.node (some ti52) (.node (some ti84) (.node (some ti148) .leaf .leaf) (.node (some ti212) .leaf .leaf)) (.node (some ti116) (.node (some ti180) .leaf .leaf) .leaf))) (.node none (.node (some ti44) (.node (some ti76) (.node (some ti140) .leaf .leaf) .leaf) (.node (some ti108) (.node (some ti172) .leaf .leaf) .leaf)) (.node none (.node (some ti92) (.node (some ti156) .leaf .leaf) (.node (some ti220) .leaf .leaf)) (.node (some ti124) (.node (some ti188) .leaf .leaf) .leaf))))) (.node (some ti6) (.node (some ti10) (.node (some ti18) (.node (some ti34) (.node (some ti66) (.node (some ti130) .leaf .leaf) (.node (some ti194) .leaf .leaf)) (.node (some ti98) (.node (some ti162) .leaf .leaf) (.node (some ti226) .leaf .leaf))) (.node (some ti50) (.node (some ti82) (.node (some ti146) .leaf .leaf) (.node (some ti210) .leaf .leaf)) (.node (some ti114) (.node (some ti178) .leaf .leaf) .leaf))) (.node (some ti26) (.node (some ti42) (.node (some ti74) (.node (some ti138) .leaf .leaf) (.node (some ti202) .leaf .leaf)) (.node (some ti106) (.node (some ti170) .leaf .leaf) (.node (some ti234) .leaf .leaf))) (.node (some ti58) (.node (some ti90) (.node (some ti154) .leaf .leaf) (.node (some ti218) .leaf .leaf)) (.node (some ti122) (.node (some ti186) .leaf .leaf) .leaf)))) (.node (some ti14) (.node (some ti22) (.node (some ti38) (.node (some ti70) (.node (some ti134) .leaf .leaf) (.node (some ti198) .leaf .leaf)) (.node (some ti102) (.node (some ti166) .leaf .leaf) (.node (some ti230) .leaf .leaf))) (.node (some ti54) (.node (some ti86) (.node (some ti150) .leaf .leaf) (.node (some ti214) .leaf .leaf)) (.node (some ti118) (.node (some ti182) .leaf .leaf) .leaf))) (.node (some ti30) (.node (some ti46) (.node (some ti78) (.node (some ti142) .leaf .leaf) (.node (some ti206) .leaf .leaf)) (.node (some ti110) (.node (some ti174) .leaf .leaf) .leaf)) (.node (some ti62) (.node (some ti94) (.node (some ti158) .leaf .leaf) (.node (some ti222) .leaf .leaf)) (.node (some ti126) (.node (some ti190) .leaf .leaf) .leaf))))))
theorem tiT_list:tiT.toL=[(1,ti1),(3,ti3),(7,ti7),(15,ti15),(31,ti31),(127,ti127),(191,ti191),(95,ti95),(159,ti159),(223,ti223),(47,ti47),(79,ti79),(143,ti143),(207,ti207),(111,ti111),(175,ti175),(23,ti23),(39,ti39),(71,ti71),(135,ti135),(199,ti199),(167,ti167),(231,ti231),(55,ti55),(87,ti87),(151,ti151),(215,ti215),(119,ti119),(183,ti183),(11,ti11),(19,ti19),(35,ti35),(67,ti67),(131,ti131),(195,ti195),(99,ti99),(163,ti163),(227,ti227),(51,ti51),(83,ti83),(147,ti147),(211,ti211),(115,ti115),(179,ti179),(27,ti27),(43,ti43),(75,ti75),(139,ti139),(203,ti203),(107,ti107),(171,ti171),(235,ti235),(59,ti59),(91,ti91),(155,ti155),(219,ti219),(123,ti123),(187,ti187),(5,ti5),(9,ti9),(17,ti17),(33,ti33),(65,ti65),(129,ti129),(193,ti193),(97,ti97),(161,ti161),(225,ti225),(49,ti49),(81,ti81),(145,ti145),(209,ti209),(113,ti113),(177,ti177),(25,ti25),(41,ti41),(73,ti73),(137,ti137),(201,ti201),(105,ti105),(233,ti233),(57,ti57),(89,ti89),(153,ti153),(121,ti121),(185,ti185),(13,ti13),(21,ti21),(37,ti37),(69,ti69),(133,ti133),(197,ti197),(101,ti101),(165,ti165),(229,ti229),(53,ti53),(85,ti85),(149,ti149),(213,ti213),(117,ti117),(181,ti181),(29,ti29),(45,ti45),(77,ti77),(141,ti141),(205,ti205),(109,ti109),(173,ti173),(61,ti61),(93,ti93),(157,ti157),(221,ti221),(125,ti125),(189,ti189),(2,ti2),(4,ti4),(8,ti8),(16,ti16),(32,ti32),(64,ti64),(128,ti128),(192,ti192),(96,ti96),(160,ti160),(224,ti224),(80,ti80),(208,ti208),(112,ti112),(176,ti176),(24,ti24),(40,ti40),(72,ti72),(136,ti136),(200,ti200),(104,ti104),(168,ti168),(232,ti232),(56,ti56),(88,ti88),(152,ti152),(216,ti216),(120,ti120),(184,ti184),(12,ti12),(36,ti36),(68,ti68),(132,ti132),(196,ti196),(100,ti100),(164,ti164),(228,ti228),(52,ti52),(84,ti84),(148,ti148),(212,ti212),(116,ti116),(180,ti180),(44,ti44),(76,ti76),(140,ti140),(108,ti108),(172,ti172),(92,ti92),(156,ti156),(220,ti220),(124,ti124),(188,ti188),(6,ti6),(10,ti10),(18,ti18),(34,ti34),(66,ti66),(130,ti130),(194,ti194),(98,ti98),(162,ti162),(226,ti226),(50,ti50),(82,ti82),(146,ti146),(210,ti210),(114,ti114),(178,ti178),(26,ti26),(42,ti42),(74,ti74),(138,ti138),(202,ti202),(106,ti106),(170,ti170),(234,ti234),(58,ti58),(90,ti90),(154,ti154),(218,ti218),(122,ti122),(186,ti186),(14,ti14),(22,ti22),(38,ti38),(70,ti70),(134,ti134),(198,ti198),(102,ti102),(166,ti166),(230,ti230),(54,ti54),(86,ti86),(150,ti150),(214,ti214),(118,ti118),(182,ti182),(30,ti30),(46,ti46),(78,ti78),(142,ti142),(206,ti206),(110,ti110),(174,ti174),(62,ti62),(94,ti94),(158,ti158),(222,ti222),(126,ti126),(190,ti190)]:=by kernel_rfl
theorem tiT_ok:∀ t i,tiT.get t=some i→tiOf Tryz.prog t=some i:=by
 refine Tr.all_get (p:=fun t i=>tiOf Tryz.prog t=some i) ?_
 rw [tiT_list]
 exact .cons ti1_ok (.cons ti3_ok (.cons ti7_ok (.cons ti15_ok (.cons ti31_ok (.cons ti127_ok (.cons ti191_ok (.cons ti95_ok (.cons ti159_ok (.cons ti223_ok (.cons ti47_ok (.cons ti79_ok (.cons ti143_ok (.cons ti207_ok (.cons ti111_ok (.cons ti175_ok (.cons ti23_ok (.cons ti39_ok (.cons ti71_ok (.cons ti135_ok (.cons ti199_ok (.cons ti167_ok (.cons ti231_ok (.cons ti55_ok (.cons ti87_ok (.cons ti151_ok (.cons ti215_ok (.cons ti119_ok (.cons ti183_ok (.cons ti11_ok (.cons ti19_ok (.cons ti35_ok (.cons ti67_ok (.cons ti131_ok (.cons ti195_ok (.cons ti99_ok (.cons ti163_ok (.cons ti227_ok (.cons ti51_ok (.cons ti83_ok (.cons ti147_ok (.cons ti211_ok (.cons ti115_ok (.cons ti179_ok (.cons ti27_ok (.cons ti43_ok (.cons ti75_ok (.cons ti139_ok (.cons ti203_ok (.cons ti107_ok (.cons ti171_ok (.cons ti235_ok (.cons ti59_ok (.cons ti91_ok (.cons ti155_ok (.cons ti219_ok (.cons ti123_ok (.cons ti187_ok (.cons ti5_ok (.cons ti9_ok (.cons ti17_ok (.cons ti33_ok (.cons ti65_ok (.cons ti129_ok (.cons ti193_ok (.cons ti97_ok (.cons ti161_ok (.cons ti225_ok (.cons ti49_ok (.cons ti81_ok (.cons ti145_ok (.cons ti209_ok (.cons ti113_ok (.cons ti177_ok (.cons ti25_ok (.cons ti41_ok (.cons ti73_ok (.cons ti137_ok (.cons ti201_ok (.cons ti105_ok (.cons ti233_ok (.cons ti57_ok (.cons ti89_ok (.cons ti153_ok (.cons ti121_ok (.cons ti185_ok (.cons ti13_ok (.cons ti21_ok (.cons ti37_ok (.cons ti69_ok (.cons ti133_ok (.cons ti197_ok (.cons ti101_ok (.cons ti165_ok (.cons ti229_ok (.cons ti53_ok (.cons ti85_ok (.cons ti149_ok (.cons ti213_ok (.cons ti117_ok (.cons ti181_ok (.cons ti29_ok (.cons ti45_ok (.cons ti77_ok (.cons ti141_ok (.cons ti205_ok (.cons ti109_ok (.cons ti173_ok (.cons ti61_ok (.cons ti93_ok (.cons ti157_ok (.cons ti221_ok (.cons ti125_ok (.cons ti189_ok (.cons ti2_ok (.cons ti4_ok (.cons ti8_ok (.cons ti16_ok (.cons ti32_ok (.cons ti64_ok (.cons ti128_ok (.cons ti192_ok (.cons ti96_ok (.cons ti160_ok (.cons ti224_ok (.cons ti80_ok (.cons ti208_ok (.cons ti112_ok (.cons ti176_ok (.cons ti24_ok (.cons ti40_ok (.cons ti72_ok (.cons ti136_ok (.cons ti200_ok (.cons ti104_ok (.cons ti168_ok (.cons ti232_ok (.cons ti56_ok (.cons ti88_ok (.cons ti152_ok (.cons ti216_ok (.cons ti120_ok (.cons ti184_ok (.cons ti12_ok (.cons ti36_ok (.cons ti68_ok (.cons ti132_ok (.cons ti196_ok (.cons ti100_ok (.cons ti164_ok (.cons ti228_ok (.cons ti52_ok (.cons ti84_ok (.cons ti148_ok (.cons ti212_ok (.cons ti116_ok (.cons ti180_ok (.cons ti44_ok (.cons ti76_ok (.cons ti140_ok (.cons ti108_ok (.cons ti172_ok (.cons ti92_ok (.cons ti156_ok (.cons ti220_ok (.cons ti124_ok (.cons ti188_ok (.cons ti6_ok (.cons ti10_ok (.cons ti18_ok (.cons ti34_ok (.cons ti66_ok (.cons ti130_ok (.cons ti194_ok (.cons ti98_ok (.cons ti162_ok (.cons ti226_ok (.cons ti50_ok (.cons ti82_ok (.cons ti146_ok (.cons ti210_ok (.cons ti114_ok (.cons ti178_ok (.cons ti26_ok (.cons ti42_ok (.cons ti74_ok (.cons ti138_ok (.cons ti202_ok (.cons ti106_ok (.cons ti170_ok (.cons ti234_ok (.cons ti58_ok (.cons ti90_ok (.cons ti154_ok (.cons ti218_ok (.cons ti122_ok (.cons ti186_ok (.cons ti14_ok (.cons ti22_ok (.cons ti38_ok (.cons ti70_ok (.cons ti134_ok (.cons ti198_ok (.cons ti102_ok (.cons ti166_ok (.cons ti230_ok (.cons ti54_ok (.cons ti86_ok (.cons ti150_ok (.cons ti214_ok (.cons ti118_ok (.cons ti182_ok (.cons ti30_ok (.cons ti46_ok (.cons ti78_ok (.cons ti142_ok (.cons ti206_ok (.cons ti110_ok (.cons ti174_ok (.cons ti62_ok (.cons ti94_ok (.cons ti158_ok (.cons ti222_ok (.cons ti126_ok (.cons ti190_ok (.nil)))))))))))))))))))))))))))))))))))))))))))))))))))))))))))))))))))))))))))))))))))))))))))))))))))))))))))))))))))))))))))))))))))))))))))))))))))))))))))))))))))))))))))))))))))))))))))))))))))))))))))))))))))))))))))))))))
noncomputable def fnT:Tr Func:=.node none (.node none (.node (some Tryz.f3) (.node (some Tryz.f7) (.node (some Tryz.f15) (.node (some Tryz.f31) (.node (some Tryz.f63) (.node (some Tryz.f127) .leaf .leaf) (.node (some Tryz.f191) .leaf .leaf)) (.node (some Tryz.f95) (.node (some Tryz.f159) .leaf .leaf) .leaf)) (.node (some Tryz.f47) (.node (some Tryz.f79) (.node (some Tryz.f143) .leaf .leaf) .leaf) (.node (some Tryz.f111) (.node (some Tryz.f175) .leaf .leaf) .leaf))) (.node (some Tryz.f23) (.node (some Tryz.f39) (.node (some Tryz.f71) (.node (some Tryz.f135) .leaf .leaf) (.node (some Tryz.f199) .leaf .leaf)) (.node (some Tryz.f103) (.node (some Tryz.f167) .leaf .leaf) .leaf)) (.node (some Tryz.f55) (.node (some Tryz.f87) (.node (some Tryz.f151) .leaf .leaf) .leaf) (.node (some Tryz.f119) (.node (some Tryz.f183) .leaf .leaf) .leaf)))) (.node (some Tryz.f11) (.node (some Tryz.f19) (.node (some Tryz.f35) (.node (some Tryz.f67) (.node (some Tryz.f131) .leaf .leaf) (.node (some Tryz.f195) .leaf .leaf)) (.node (some Tryz.f99) (.node (some Tryz.f163) .leaf .leaf) .leaf)) (.node (some Tryz.f51) (.node (some Tryz.f83) (.node (some Tryz.f147) .leaf .leaf) .leaf) (.node (some Tryz.f115) (.node (some Tryz.f179) .leaf .leaf) .leaf))) (.node (some Tryz.f27) (.node (some Tryz.f43) (.node (some Tryz.f75) (.node (some Tryz.f139) .leaf .leaf) .leaf) (.node (some Tryz.f107) (.node (some Tryz.f171) .leaf .leaf) .leaf)) (.node (some Tryz.f59) (.node (some Tryz.f91) (.node (some Tryz.f155) .leaf .leaf) .leaf) (.node (some Tryz.f123) (.node (some Tryz.f187) .leaf .leaf) .leaf))))) (.node (some Tryz.f5) (.node (some Tryz.f9) (.node (some Tryz.f17) (.node (some Tryz.f33) (.node (some Tryz.f65) (.node (some Tryz.f129) .leaf .leaf) (.node (some Tryz.f193) .leaf .leaf)) (.node (some Tryz.f97) (.node (some Tryz.f161) .leaf .leaf) .leaf)) (.node (some Tryz.f49) (.node (some Tryz.f81) (.node (some Tryz.f145) .leaf .leaf) .leaf) (.node (some Tryz.f113) (.node (some Tryz.f177) .leaf .leaf) .leaf))) (.node (some Tryz.f25) (.node (some Tryz.f41) (.node (some Tryz.f73) (.node (some Tryz.f137) .leaf .leaf) .leaf) (.node (some Tryz.f105) (.node (some Tryz.f169) .leaf .leaf) .leaf)) (.node (some Tryz.f57) (.node (some Tryz.f89) (.node (some Tryz.f153) .leaf .leaf) .leaf) (.node (some Tryz.f121) (.node (some Tryz.f185) .leaf .leaf) .leaf)))) (.node (some Tryz.f13) (.node (some Tryz.f21) (.node (some Tryz.f37) (.node (some Tryz.f69) (.node (some Tryz.f133) .leaf .leaf) (.node (some Tryz.f197) .leaf .leaf)) (.node (some Tryz.f101) (.node (some Tryz.f165) .leaf .leaf) .leaf)) (.node (some Tryz.f53) (.node (some Tryz.f85) (.node (some Tryz.f149) .leaf .leaf) .leaf) (.node (some Tryz.f117) (.node (some Tryz.f181) .leaf .leaf) .leaf))) (.node (some Tryz.f29) (.node (some Tryz.f45) (.node (some Tryz.f77) (.node (some Tryz.f141) .leaf .leaf) .leaf) (.node (some Tryz.f109) (.node (some Tryz.f173) .leaf .leaf) .leaf)) (.node (some Tryz.f61) (.node (some Tryz.f93) (.node (some Tryz.f157) .leaf .leaf) .leaf) (.node (some Tryz.f125) (.node (some Tryz.f189) .leaf .leaf) .leaf)))))) (.node none (.node (some Tryz.f4) (.node (some Tryz.f8) (.node (some Tryz.f16) (.node (some Tryz.f32) (.node (some Tryz.f64) (.node (some Tryz.f128) .leaf .leaf) (.node (some Tryz.f192) .leaf .leaf)) (.node (some Tryz.f96) (.node (some Tryz.f160) .leaf .leaf) .leaf)) (.node (some Tryz.f48) (.node (some Tryz.f80) (.node (some Tryz.f144) .leaf .leaf) .leaf) (.node (some Tryz.f112) (.node (some Tryz.f176) .leaf .leaf) .leaf))) (.node (some Tryz.f24) (.node (some Tryz.f40) (.node (some Tryz.f72) (.node (some Tryz.f136) .leaf .leaf) (.node (some Tryz.f200) .leaf .leaf)) (.node (some Tryz.f104) (.node (some Tryz.f168) .leaf .leaf) .leaf)) (.node (some Tryz.f56) (.node (some Tryz.f88) (.node (some Tryz.f152) .leaf .leaf) .leaf) (.node (some Tryz.f120) (.node (some Tryz.f184) .leaf .leaf) .leaf)))) (.node (some Tryz.f12) (.node (some Tryz.f20) (.node (some Tryz.f36) (.node (some Tryz.f68) (.node (some Tryz.f132) .leaf .leaf) (.node (some Tryz.f196) .leaf .leaf)) (.node (some Tryz.f100) (.node (some Tryz.f164) .leaf .leaf) .leaf)) (.node (some Tryz.f52) (.node (some Tryz.f84) (.node (some Tryz.f148) .leaf .leaf) .leaf) (.node (some Tryz.f116) (.node (some Tryz.f180) .leaf .leaf) .leaf))) (.node (some Tryz.f28) (.node (some Tryz.f44) (.node (some Tryz.f76) (.node (some Tryz.f140) .leaf .leaf) .leaf) (.node (some Tryz.f108) (.node (some Tryz.f172) .leaf .leaf) .leaf)) (.node (some Tryz.f60) (.node (some Tryz.f92) (.node (some Tryz.f156) .leaf .leaf) .leaf) (.node (some Tryz.f124) (.node (some Tryz.f188) .leaf .leaf) .leaf))))) (.node (some Tryz.f6) (.node (some Tryz.f10) (.node (some Tryz.f18) (.node (some Tryz.f34) (.node (some Tryz.f66) (.node (some Tryz.f130) .leaf .leaf) (.node (some Tryz.f194) .leaf .leaf)) (.node (some Tryz.f98) (.node (some Tryz.f162) .leaf .leaf) .leaf)) (.node (some Tryz.f50) (.node (some Tryz.f82) (.node (some Tryz.f146) .leaf .leaf) .leaf) (.node (some Tryz.f114) (.node (some Tryz.f178) .leaf .leaf) .leaf))) (.node (some Tryz.f26) (.node (some Tryz.f42) (.node (some Tryz.f74) (.node (some Tryz.f138) .leaf .leaf) .leaf) (.node (some Tryz.f106) (.node (some Tryz.f170) .leaf .leaf) .leaf)) (.node (some Tryz.f58) (.node (some Tryz.f90) (.node (some Tryz.f154) .leaf .leaf) .leaf) (.node (some Tryz.f122) (.node (some Tryz.f186) .leaf .leaf) .leaf)))) (.node (some Tryz.f14) (.node (some Tryz.f22) (.node (some Tryz.f38) (.node (some Tryz.f70) (.node (some Tryz.f134) .leaf .leaf) (.node (some Tryz.f198) .leaf .leaf)) (.node (some Tryz.f102) (.node (some Tryz.f166) .leaf .leaf) .leaf)) (.node (some Tryz.f54) (.node (some Tryz.f86) (.node (some Tryz.f150) .leaf .leaf) .leaf) (.node (some Tryz.f118) (.node (some Tryz.f182) .leaf .leaf) .leaf))) (.node (some Tryz.f30) (.node (some Tryz.f46) (.node (some Tryz.f78) (.node (some Tryz.f142) .leaf .leaf) .leaf) (.node (some Tryz.f110) (.node (some Tryz.f174) .leaf .leaf) .leaf)) (.node (some Tryz.f62) (.node (some Tryz.f94) (.node (some Tryz.f158) .leaf .leaf) .leaf) (.node (some Tryz.f126) (.node (some Tryz.f190) .leaf .leaf) .leaf))))))
theorem fnT_list:fnT.toL=[(3,Tryz.f3),(7,Tryz.f7),(15,Tryz.f15),(31,Tryz.f31),(63,Tryz.f63),(127,Tryz.f127),(191,Tryz.f191),(95,Tryz.f95),(159,Tryz.f159),(47,Tryz.f47),(79,Tryz.f79),(143,Tryz.f143),(111,Tryz.f111),(175,Tryz.f175),(23,Tryz.f23),(39,Tryz.f39),(71,Tryz.f71),(135,Tryz.f135),(199,Tryz.f199),(103,Tryz.f103),(167,Tryz.f167),(55,Tryz.f55),(87,Tryz.f87),(151,Tryz.f151),(119,Tryz.f119),(183,Tryz.f183),(11,Tryz.f11),(19,Tryz.f19),(35,Tryz.f35),(67,Tryz.f67),(131,Tryz.f131),(195,Tryz.f195),(99,Tryz.f99),(163,Tryz.f163),(51,Tryz.f51),(83,Tryz.f83),(147,Tryz.f147),(115,Tryz.f115),(179,Tryz.f179),(27,Tryz.f27),(43,Tryz.f43),(75,Tryz.f75),(139,Tryz.f139),(107,Tryz.f107),(171,Tryz.f171),(59,Tryz.f59),(91,Tryz.f91),(155,Tryz.f155),(123,Tryz.f123),(187,Tryz.f187),(5,Tryz.f5),(9,Tryz.f9),(17,Tryz.f17),(33,Tryz.f33),(65,Tryz.f65),(129,Tryz.f129),(193,Tryz.f193),(97,Tryz.f97),(161,Tryz.f161),(49,Tryz.f49),(81,Tryz.f81),(145,Tryz.f145),(113,Tryz.f113),(177,Tryz.f177),(25,Tryz.f25),(41,Tryz.f41),(73,Tryz.f73),(137,Tryz.f137),(105,Tryz.f105),(169,Tryz.f169),(57,Tryz.f57),(89,Tryz.f89),(153,Tryz.f153),(121,Tryz.f121),(185,Tryz.f185),(13,Tryz.f13),(21,Tryz.f21),(37,Tryz.f37),(69,Tryz.f69),(133,Tryz.f133),(197,Tryz.f197),(101,Tryz.f101),(165,Tryz.f165),(53,Tryz.f53),(85,Tryz.f85),(149,Tryz.f149),(117,Tryz.f117),(181,Tryz.f181),(29,Tryz.f29),(45,Tryz.f45),(77,Tryz.f77),(141,Tryz.f141),(109,Tryz.f109),(173,Tryz.f173),(61,Tryz.f61),(93,Tryz.f93),(157,Tryz.f157),(125,Tryz.f125),(189,Tryz.f189),(4,Tryz.f4),(8,Tryz.f8),(16,Tryz.f16),(32,Tryz.f32),(64,Tryz.f64),(128,Tryz.f128),(192,Tryz.f192),(96,Tryz.f96),(160,Tryz.f160),(48,Tryz.f48),(80,Tryz.f80),(144,Tryz.f144),(112,Tryz.f112),(176,Tryz.f176),(24,Tryz.f24),(40,Tryz.f40),(72,Tryz.f72),(136,Tryz.f136),(200,Tryz.f200),(104,Tryz.f104),(168,Tryz.f168),(56,Tryz.f56),(88,Tryz.f88),(152,Tryz.f152),(120,Tryz.f120),(184,Tryz.f184),(12,Tryz.f12),(20,Tryz.f20),(36,Tryz.f36),(68,Tryz.f68),(132,Tryz.f132),(196,Tryz.f196),(100,Tryz.f100),(164,Tryz.f164),(52,Tryz.f52),(84,Tryz.f84),(148,Tryz.f148),(116,Tryz.f116),(180,Tryz.f180),(28,Tryz.f28),(44,Tryz.f44),(76,Tryz.f76),(140,Tryz.f140),(108,Tryz.f108),(172,Tryz.f172),(60,Tryz.f60),(92,Tryz.f92),(156,Tryz.f156),(124,Tryz.f124),(188,Tryz.f188),(6,Tryz.f6),(10,Tryz.f10),(18,Tryz.f18),(34,Tryz.f34),(66,Tryz.f66),(130,Tryz.f130),(194,Tryz.f194),(98,Tryz.f98),(162,Tryz.f162),(50,Tryz.f50),(82,Tryz.f82),(146,Tryz.f146),(114,Tryz.f114),(178,Tryz.f178),(26,Tryz.f26),(42,Tryz.f42),(74,Tryz.f74),(138,Tryz.f138),(106,Tryz.f106),(170,Tryz.f170),(58,Tryz.f58),(90,Tryz.f90),(154,Tryz.f154),(122,Tryz.f122),(186,Tryz.f186),(14,Tryz.f14),(22,Tryz.f22),(38,Tryz.f38),(70,Tryz.f70),(134,Tryz.f134),(198,Tryz.f198),(102,Tryz.f102),(166,Tryz.f166),(54,Tryz.f54),(86,Tryz.f86),(150,Tryz.f150),(118,Tryz.f118),(182,Tryz.f182),(30,Tryz.f30),(46,Tryz.f46),(78,Tryz.f78),(142,Tryz.f142),(110,Tryz.f110),(174,Tryz.f174),(62,Tryz.f62),(94,Tryz.f94),(158,Tryz.f158),(126,Tryz.f126),(190,Tryz.f190)]:=by kernel_rfl
def fnP (k : Nat) (f : Func) : Prop := Tryz.prog.funcs[k]? = some f ∧ (f.name == "runtime.NumGoroutine") = false
theorem fnT_ok : ∀ k f, fnT.get k = some f → Tryz.prog.funcs[k]? = some f ∧ (f.name == "runtime.NumGoroutine") = false := by
 refine Tr.all_get (p:=fnP) ?_
 rw [fnT_list]
 exact .cons ⟨Tryz.func3,by kernel_rfl⟩ (.cons ⟨Tryz.func7,by kernel_rfl⟩ (.cons ⟨Tryz.func15,by kernel_rfl⟩ (.cons ⟨Tryz.func31,by kernel_rfl⟩ (.cons ⟨Tryz.func63,by kernel_rfl⟩ (.cons ⟨Tryz.func127,by kernel_rfl⟩ (.cons ⟨Tryz.func191,by kernel_rfl⟩ (.cons ⟨Tryz.func95,by kernel_rfl⟩ (.cons ⟨Tryz.func159,by kernel_rfl⟩ (.cons ⟨Tryz.func47,by kernel_rfl⟩ (.cons ⟨Tryz.func79,by kernel_rfl⟩ (.cons ⟨Tryz.func143,by kernel_rfl⟩ (.cons ⟨Tryz.func111,by kernel_rfl⟩ (.cons ⟨Tryz.func175,by kernel_rfl⟩ (.cons ⟨Tryz.func23,by kernel_rfl⟩ (.cons ⟨Tryz.func39,by kernel_rfl⟩ (.cons ⟨Tryz.func71,by kernel_rfl⟩ (.cons ⟨Tryz.func135,by kernel_rfl⟩ (.cons ⟨Tryz.func199,by kernel_rfl⟩ (.cons ⟨Tryz.func103,by kernel_rfl⟩ (.cons ⟨Tryz.func167,by kernel_rfl⟩ (.cons ⟨Tryz.func55,by kernel_rfl⟩ (.cons ⟨Tryz.func87,by kernel_rfl⟩ (.cons ⟨Tryz.func151,by kernel_rfl⟩ (.cons ⟨Tryz.func119,by kernel_rfl⟩ (.cons ⟨Tryz.func183,by kernel_rfl⟩ (.cons ⟨Tryz.func11,by kernel_rfl⟩ (.cons ⟨Tryz.func19,by kernel_rfl⟩ (.cons ⟨Tryz.func35,by kernel_rfl⟩ (.cons ⟨Tryz.func67,by kernel_rfl⟩ (.cons ⟨Tryz.func131,by kernel_rfl⟩ (.cons ⟨Tryz.func195,by kernel_rfl⟩ (.cons ⟨Tryz.func99,by kernel_rfl⟩ (.cons ⟨Tryz.func163,by kernel_rfl⟩ (.cons ⟨Tryz.func51,by kernel_rfl⟩ (.cons ⟨Tryz.func83,by kernel_rfl⟩ (.cons ⟨Tryz.func147,by kernel_rfl⟩ (.cons ⟨Tryz.func115,by kernel_rfl⟩ (.cons ⟨Tryz.func179,by kernel_rfl⟩ (.cons ⟨Tryz.func27,by kernel_rfl⟩ (.cons ⟨Tryz.func43,by kernel_rfl⟩ (.cons ⟨Tryz.func75,by kernel_rfl⟩ (.cons ⟨Tryz.func139,by kernel_rfl⟩ (.cons ⟨Tryz.func107,by kernel_rfl⟩ (.cons ⟨Tryz.func171,by kernel_rfl⟩ (.cons ⟨Tryz.func59,by kernel_rfl⟩ (.cons ⟨Tryz.func91,by kernel_rfl⟩ (.cons ⟨Tryz.func155,by kernel_rfl⟩ (.cons ⟨Tryz.func123,by kernel_rfl⟩ (.cons ⟨Tryz.func187,by kernel_rfl⟩ (.cons ⟨Tryz.func5,by kernel_rfl⟩ (.cons ⟨Tryz.func9,by kernel_rfl⟩ (.cons ⟨Tryz.func17,by kernel_rfl⟩ (.cons ⟨Tryz.func33,by kernel_rfl⟩ (.cons ⟨Tryz.func65,by kernel_rfl⟩ (.cons ⟨Tryz.func129,by kernel_rfl⟩ (.cons ⟨Tryz.func193,by kernel_rfl⟩ (.cons ⟨Tryz.func97,by kernel_rfl⟩ (.cons ⟨Tryz.func161,by kernel_rfl⟩ (.cons ⟨Tryz.func49,by kernel_rfl⟩ (.cons ⟨Tryz.func81,by kernel_rfl⟩ (.cons ⟨Tryz.func145,by kernel_rfl⟩ (.cons ⟨Tryz.func113,by kernel_rfl⟩ (.cons ⟨Tryz.func177,by kernel_rfl⟩ (.cons ⟨Tryz.func25,by kernel_rfl⟩ (.cons ⟨Tryz.func41,by kernel_rfl⟩ (.cons ⟨Tryz.func73,by kernel_rfl⟩ (.cons ⟨Tryz.func137,by kernel_rfl⟩ (.cons ⟨Tryz.func105,by kernel_rfl⟩ (.cons ⟨Tryz.func169,by kernel_rfl⟩ (.cons ⟨Tryz.func57,by kernel_rfl⟩ (.cons ⟨Tryz.func89,by kernel_rfl⟩ (.cons ⟨Tryz.func153,by kernel_rfl⟩ (.cons ⟨Tryz.func121,by kernel_rfl⟩ (.cons ⟨Tryz.func185,by kernel_rfl⟩ (.cons ⟨Tryz.func13,by kernel_rfl⟩ (.cons ⟨Tryz.func21,by kernel_rfl⟩ (.cons ⟨Tryz.func37,by kernel_rfl⟩ (.cons ⟨Tryz.func69,by kernel_rfl⟩ (.cons ⟨Tryz.func133,by kernel_rfl⟩ (.cons ⟨Tryz.func197,by kernel_rfl⟩ (.cons ⟨Tryz.func101,by kernel_rfl⟩ (.cons ⟨Tryz.func165,by kernel_rfl⟩ (.cons ⟨Tryz.func53,by kernel_rfl⟩ (.cons ⟨Tryz.func85,by kernel_rfl⟩ (.cons ⟨Tryz.func149,by kernel_rfl⟩ (.cons ⟨Tryz.func117,by kernel_rfl⟩ (.cons ⟨Tryz.func181,by kernel_rfl⟩ (.cons ⟨Tryz.func29,by kernel_rfl⟩ (.cons ⟨Tryz.func45,by kernel_rfl⟩ (.cons ⟨Tryz.func77,by kernel_rfl⟩ (.cons ⟨Tryz.func141,by kernel_rfl⟩ (.cons ⟨Tryz.func109,by kernel_rfl⟩ (.cons ⟨Tryz.func173,by kernel_rfl⟩ (.cons ⟨Tryz.func61,by kernel_rfl⟩ (.cons ⟨Tryz.func93,by kernel_rfl⟩ (.cons ⟨Tryz.func157,by kernel_rfl⟩ (.cons ⟨Tryz.func125,by kernel_rfl⟩ (.cons ⟨Tryz.func189,by kernel_rfl⟩ (.cons ⟨Tryz.func4,by kernel_rfl⟩ (.cons ⟨Tryz.func8,by kernel_rfl⟩ (.cons ⟨Tryz.func16,by kernel_rfl⟩ (.cons ⟨Tryz.func32,by kernel_rfl⟩ (.cons ⟨Tryz.func64,by kernel_rfl⟩ (.cons ⟨Tryz.func128,by kernel_rfl⟩ (.cons ⟨Tryz.func192,by kernel_rfl⟩ (.cons ⟨Tryz.func96,by kernel_rfl⟩ (.cons ⟨Tryz.func160,by kernel_rfl⟩ (.cons ⟨Tryz.func48,by kernel_rfl⟩ (.cons ⟨Tryz.func80,by kernel_rfl⟩ (.cons ⟨Tryz.func144,by kernel_rfl⟩ (.cons ⟨Tryz.func112,by kernel_rfl⟩ (.cons ⟨Tryz.func176,by kernel_rfl⟩ (.cons ⟨Tryz.func24,by kernel_rfl⟩ (.cons ⟨Tryz.func40,by kernel_rfl⟩ (.cons ⟨Tryz.func72,by kernel_rfl⟩ (.cons ⟨Tryz.func136,by kernel_rfl⟩ (.cons ⟨Tryz.func200,by kernel_rfl⟩ (.cons ⟨Tryz.func104,by kernel_rfl⟩ (.cons ⟨Tryz.func168,by kernel_rfl⟩ (.cons ⟨Tryz.func56,by kernel_rfl⟩ (.cons ⟨Tryz.func88,by kernel_rfl⟩ (.cons ⟨Tryz.func152,by kernel_rfl⟩ (.cons ⟨Tryz.func120,by kernel_rfl⟩ (.cons ⟨Tryz.func184,by kernel_rfl⟩ (.cons ⟨Tryz.func12,by kernel_rfl⟩ (.cons ⟨Tryz.func20,by kernel_rfl⟩ (.cons ⟨Tryz.func36,by kernel_rfl⟩ (.cons ⟨Tryz.func68,by kernel_rfl⟩ (.cons ⟨Tryz.func132,by kernel_rfl⟩ (.cons ⟨Tryz.func196,by kernel_rfl⟩ (.cons ⟨Tryz.func100,by kernel_rfl⟩ (.cons ⟨Tryz.func164,by kernel_rfl⟩ (.cons ⟨Tryz.func52,by kernel_rfl⟩ (.cons ⟨Tryz.func84,by kernel_rfl⟩ (.cons ⟨Tryz.func148,by kernel_rfl⟩ (.cons ⟨Tryz.func116,by kernel_rfl⟩ (.cons ⟨Tryz.func180,by kernel_rfl⟩ (.cons ⟨Tryz.func28,by kernel_rfl⟩ (.cons ⟨Tryz.func44,by kernel_rfl⟩ (.cons ⟨Tryz.func76,by kernel_rfl⟩ (.cons ⟨Tryz.func140,by kernel_rfl⟩ (.cons ⟨Tryz.func108,by kernel_rfl⟩ (.cons ⟨Tryz.func172,by kernel_rfl⟩ (.cons ⟨Tryz.func60,by kernel_rfl⟩ (.cons ⟨Tryz.func92,by kernel_rfl⟩ (.cons ⟨Tryz.func156,by kernel_rfl⟩ (.cons ⟨Tryz.func124,by kernel_rfl⟩ (.cons ⟨Tryz.func188,by kernel_rfl⟩ (.cons ⟨Tryz.func6,by kernel_rfl⟩ (.cons ⟨Tryz.func10,by kernel_rfl⟩ (.cons ⟨Tryz.func18,by kernel_rfl⟩ (.cons ⟨Tryz.func34,by kernel_rfl⟩ (.cons ⟨Tryz.func66,by kernel_rfl⟩ (.cons ⟨Tryz.func130,by kernel_rfl⟩ (.cons ⟨Tryz.func194,by kernel_rfl⟩ (.cons ⟨Tryz.func98,by kernel_rfl⟩ (.cons ⟨Tryz.func162,by kernel_rfl⟩ (.cons ⟨Tryz.func50,by kernel_rfl⟩ (.cons ⟨Tryz.func82,by kernel_rfl⟩ (.cons ⟨Tryz.func146,by kernel_rfl⟩ (.cons ⟨Tryz.func114,by kernel_rfl⟩ (.cons ⟨Tryz.func178,by kernel_rfl⟩ (.cons ⟨Tryz.func26,by kernel_rfl⟩ (.cons ⟨Tryz.func42,by kernel_rfl⟩ (.cons ⟨Tryz.func74,by kernel_rfl⟩ (.cons ⟨Tryz.func138,by kernel_rfl⟩ (.cons ⟨Tryz.func106,by kernel_rfl⟩ (.cons ⟨Tryz.func170,by kernel_rfl⟩ (.cons ⟨Tryz.func58,by kernel_rfl⟩ (.cons ⟨Tryz.func90,by kernel_rfl⟩ (.cons ⟨Tryz.func154,by kernel_rfl⟩ (.cons ⟨Tryz.func122,by kernel_rfl⟩ (.cons ⟨Tryz.func186,by kernel_rfl⟩ (.cons ⟨Tryz.func14,by kernel_rfl⟩ (.cons ⟨Tryz.func22,by kernel_rfl⟩ (.cons ⟨Tryz.func38,by kernel_rfl⟩ (.cons ⟨Tryz.func70,by kernel_rfl⟩ (.cons ⟨Tryz.func134,by kernel_rfl⟩ (.cons ⟨Tryz.func198,by kernel_rfl⟩ (.cons ⟨Tryz.func102,by kernel_rfl⟩ (.cons ⟨Tryz.func166,by kernel_rfl⟩ (.cons ⟨Tryz.func54,by kernel_rfl⟩ (.cons ⟨Tryz.func86,by kernel_rfl⟩ (.cons ⟨Tryz.func150,by kernel_rfl⟩ (.cons ⟨Tryz.func118,by kernel_rfl⟩ (.cons ⟨Tryz.func182,by kernel_rfl⟩ (.cons ⟨Tryz.func30,by kernel_rfl⟩ (.cons ⟨Tryz.func46,by kernel_rfl⟩ (.cons ⟨Tryz.func78,by kernel_rfl⟩ (.cons ⟨Tryz.func142,by kernel_rfl⟩ (.cons ⟨Tryz.func110,by kernel_rfl⟩ (.cons ⟨Tryz.func174,by kernel_rfl⟩ (.cons ⟨Tryz.func62,by kernel_rfl⟩ (.cons ⟨Tryz.func94,by kernel_rfl⟩ (.cons ⟨Tryz.func158,by kernel_rfl⟩ (.cons ⟨Tryz.func126,by kernel_rfl⟩ (.cons ⟨Tryz.func190,by kernel_rfl⟩ (.nil))))))))))))))))))))))))))))))))))))))))))))))))))))))))))))))))))))))))))))))))))))))))))))))))))))))))))))))))))))))))))))))))))))))))))))))))))))))))))))))))))))))))))))))))))))))))))))))))))))))
noncomputable def ky7:List KK:=[.int .i64,.int .i64,.bool,.int .u8]
theorem ky7_ok:keysOf Tryz.prog 7=some ky7:=by kernel_rfl
noncomputable def ky8:List KK:=[.int .i64,.int .i64,.bool,.int .u8]
theorem ky8_ok:keysOf Tryz.prog 8=some ky8:=by kernel_rfl
noncomputable def ky69:List KK:=[.string,.string]
theorem ky69_ok:keysOf Tryz.prog 69=some ky69:=by kernel_rfl
noncomputable def ky70:List KK:=[.string,.string]
theorem ky70_ok:keysOf Tryz.prog 70=some ky70:=by kernel_rfl
noncomputable def ky80:List KK:=[.int .i64,.string]
theorem ky80_ok:keysOf Tryz.prog 80=some ky80:=by kernel_rfl
noncomputable def ky81:List KK:=[.int .i64,.string]
theorem ky81_ok:keysOf Tryz.prog 81=some ky81:=by kernel_rfl
noncomputable def ky122:List KK:=[.string,.int .i64,.string]
theorem ky122_ok:keysOf Tryz.prog 122=some ky122:=by kernel_rfl
noncomputable def ky123:List KK:=[.string,.int .i64,.string]
theorem ky123_ok:keysOf Tryz.prog 123=some ky123:=by kernel_rfl
noncomputable def ky127:List KK:=[.int .i64,.int .i64,.int .i64]
theorem ky127_ok:keysOf Tryz.prog 127=some ky127:=by kernel_rfl
noncomputable def ky128:List KK:=[.int .i64,.int .i64,.int .i64]
theorem ky128_ok:keysOf Tryz.prog 128=some ky128:=by kernel_rfl
noncomputable def ky138:List KK:=[.int .i64,.string,.int .i64,.bool,.int .i64]
theorem ky138_ok:keysOf Tryz.prog 138=some ky138:=by kernel_rfl
noncomputable def ky139:List KK:=[.int .i64,.string,.int .i64,.bool,.int .i64]
theorem ky139_ok:keysOf Tryz.prog 139=some ky139:=by kernel_rfl
noncomputable def ky195:List KK:=[.int .i64,.int .i64,.int .i64,.bool]
theorem ky195_ok:keysOf Tryz.prog 195=some ky195:=by kernel_rfl
noncomputable def ky196:List KK:=[.int .i64,.int .i64,.int .i64,.bool]
theorem ky196_ok:keysOf Tryz.prog 196=some ky196:=by kernel_rfl
noncomputable def ky232:List KK:=[.int .i64,.int .i64]
theorem ky232_ok:keysOf Tryz.prog 232=some ky232:=by kernel_rfl
noncomputable def ky233:List KK:=[.int .i64,.int .i64]
theorem ky233_ok:keysOf Tryz.prog 233=some ky233:=by kernel_rfl
noncomputable def ky234:List KK:=[.int .i64,.int .i64,.int .i64,.bool]
theorem ky234_ok:keysOf Tryz.prog 234=some ky234:=by kernel_rfl
noncomputable def ky235:List KK:=[.int .i64,.int .i64,.int .i64,.bool]
theorem ky235_ok:keysOf Tryz.prog 235=some ky235:=by kernel_rfl
noncomputable def kyT:Tr (List KK):=.node none (.node none (.node none (.node (some ky7) (.node none (.node none (.node none (.node (some ky127) .leaf .leaf) .leaf) .leaf) .leaf) .leaf) (.node none (.node none (.node none (.node none .leaf (.node (some ky195) .leaf .leaf)) .leaf) .leaf) (.node none (.node none (.node none (.node (some ky139) .leaf .leaf) .leaf) (.node none .leaf (.node (some ky235) .leaf .leaf))) (.node none .leaf (.node (some ky123) .leaf .leaf))))) (.node none (.node none (.node none .leaf (.node none (.node (some ky81) .leaf .leaf) .leaf)) (.node none (.node none .leaf (.node none .leaf (.node (some ky233) .leaf .leaf))) .leaf)) (.node none (.node none (.node none (.node (some ky69) .leaf .leaf) .leaf) .leaf) .leaf))) (.node none (.node none (.node (some ky8) (.node none (.node none (.node none (.node (some ky128) .leaf .leaf) .leaf) .leaf) (.node none (.node (some ky80) .leaf .leaf) .leaf)) (.node none (.node none .leaf (.node none .leaf (.node (some ky232) .leaf .leaf))) .leaf)) (.node none (.node none (.node none (.node none .leaf (.node (some ky196) .leaf .leaf)) .leaf) .leaf) .leaf)) (.node none (.node none .leaf (.node none (.node none (.node none (.node (some ky138) .leaf .leaf) .leaf) (.node none .leaf (.node (some ky234) .leaf .leaf))) (.node none .leaf (.node (some ky122) .leaf .leaf)))) (.node none (.node none (.node none (.node (some ky70) .leaf .leaf) .leaf) .leaf) .leaf)))
theorem kyT_list:kyT.toL=[(7,ky7),(127,ky127),(195,ky195),(139,ky139),(235,ky235),(123,ky123),(81,ky81),(233,ky233),(69,ky69),(8,ky8),(128,ky128),(80,ky80),(232,ky232),(196,ky196),(138,ky138),(234,ky234),(122,ky122),(70,ky70)]:=by kernel_rfl
theorem kyT_ok:∀ t ks,kyT.get t=some ks→KeyOk Tryz.prog t ks:=by
 refine Tr.all_get (p:=fun t ks=>KeyOk Tryz.prog t ks) ?_
 rw [kyT_list]
 exact .cons (keysOf_ok ky7_ok) (.cons (keysOf_ok ky127_ok) (.cons (keysOf_ok ky195_ok) (.cons (keysOf_ok ky139_ok) (.cons (keysOf_ok ky235_ok) (.cons (keysOf_ok ky123_ok) (.cons (keysOf_ok ky81_ok) (.cons (keysOf_ok ky233_ok) (.cons (keysOf_ok ky69_ok) (.cons (keysOf_ok ky8_ok) (.cons (keysOf_ok ky128_ok) (.cons (keysOf_ok ky80_ok) (.cons (keysOf_ok ky232_ok) (.cons (keysOf_ok ky196_ok) (.cons (keysOf_ok ky138_ok) (.cons (keysOf_ok ky234_ok) (.cons (keysOf_ok ky122_ok) (.cons (keysOf_ok ky70_ok) (.nil))))))))))))))))))
noncomputable def CX (σ:Sig) (kn:List (BExp × Bool)) (hkn:Known σ kn):Ctx Tryz.prog:=⟨tiT.get,tiT_ok,kyT.get,kyT_ok,σ,kn,hkn⟩
theorem mixed:Tryz.prog.follows .mixedOrders=true:=by kernel_rfl
noncomputable abbrev CZ (σ:Sig):Ctx Tryz.prog:=CX σ [] known_nil
def jr (j:Nat→AV):Nat→Nat→List AV
  | _,0=>[]
  | a,n+1=>j a::jr j (a+1) n
noncomputable abbrev fQ (f:Func) (σ:Sig) (K:AV→Hp→Prop):=fnQ (CZ σ).ti f.results.toList K
theorem gwp {σ:Sig} (g:Nat) {f:Nat} {fn:Func} {c:Code} {xs:List AV} {H:Hp} {K:AV→Hp→Prop} (hf:fnT.get f=some fn) (hb:fn.body=some c) (h:wp (CZ σ) g c (xs++List.replicate (fn.ntmps - xs.length) (.lit undef)) H (fnQ (CZ σ).ti fn.results.toList K)):∃ r H',Good Tryz.prog σ f xs H r H'∧K r H' :=
  good_of_wp (CZ σ) mixed g (fnT_ok f fn hf).1 hb (fnT_ok f fn hf).2 h
theorem lrd {σ:Sig} {g:Nat} {c:Code} {T:List AV} {H:Hp} {Q:Exit→List AV→Hp→Prop} (h:wp (CZ σ) g c T H (nx Q fun T1 H1=>∀ js,LoopP (CZ σ) c (maskA g js 0 T1) H1 Q)):LoopP (CZ σ) c T H Q :=
  LoopP.round (CZ σ) mixed h
end Go.Proofs.YtaoegkmfgfefgaaGreat.Ev
namespace Go.Proofs.YtaoegkmfgfefgaaGreat.Ev
set_option maxRecDepth 100000
set_option maxHeartbeats 4000000
abbrev n_law12_BucketFinds:Nat:=3
abbrev n_law12_alive:Nat:=6
abbrev n_law12_Dear:Nat:=7
abbrev n_law9_Big:Nat:=8
abbrev n_ref9_New:Nat:=9
abbrev n_bucket_New:Nat:=10
abbrev n_bucket_Map_For:Nat:=11
abbrev n_ref9_Tree_Node:Nat:=12
abbrev n_ref9_Tree_Any:Nat:=13
abbrev n_law10_Dear:Nat:=25
abbrev n_law10_Sels:Nat:=31
abbrev n_bucket_Map_Len:Nat:=32
abbrev n_ref9_lowered:Nat:=33
abbrev n_bucket_lists_bucket_key_int_put:Nat:=34
abbrev n_bucket_of:Nat:=35
abbrev n_slices_Concat_int_int:Nat:=36
abbrev n_slices_Sort_int_int:Nat:=37
abbrev n_slices_Compact_int_int:Nat:=38
abbrev n_ref9_Tree_is:Nat:=39
abbrev n_ref9_Tree_Selector:Nat:=40
abbrev n_law10_dear:Nat:=45
abbrev n_ref1_Lower:Nat:=51
abbrev n_slices_Grow_int_int:Nat:=52
abbrev n_ref9_DeepSel:Nat:=55
abbrev n_ref9_Tree_selector:Nat:=56
abbrev n_ref9_Deep:Nat:=86
abbrev n_ref9_Tree_front:Nat:=87
abbrev n_ref9_Tree_compound:Nat:=114
abbrev n_ref9_Tree_hangs:Nat:=115
abbrev n_ref9_has:Nat:=127
abbrev n_ref9_attr:Nat:=128
abbrev n_ref9_Tree_pseudo:Nat:=129
abbrev n_ref9_Tree_Parent:Nat:=130
abbrev n_ref9_Tree_Before:Nat:=131
abbrev n_ref9_words:Nat:=139
abbrev n_ref9_begins:Nat:=140
abbrev n_ref9_ends:Nat:=141
abbrev n_ref9_in:Nat:=142
abbrev n_ref9_Tree_Place:Nat:=143
abbrev n_ref9_Tree_last:Nat:=144
abbrev n_ref9_Tree_Children:Nat:=145
abbrev n_ref9_nth:Nat:=146
abbrev n_ref9_Tree_any:Nat:=147
abbrev n_ref9_blank:Nat:=155
abbrev n_ref9_far:Nat:=156
abbrev n_strings_Contains:Nat:=171
abbrev T_int:Nat:=3
abbrev T_bool:Nat:=4
abbrev T_string:Nat:=9
abbrev T_sl_api_Rule:Nat:=22
abbrev T_sl_api_Node:Nat:=23
abbrev T_sl_string:Nat:=34
abbrev T_sl_api_Pair:Nat:=35
abbrev T_api_Node:Nat:=37
abbrev T_sl_api_Selector:Nat:=40
abbrev T_sl_api_Set:Nat:=41
abbrev T_api_Rule:Nat:=43
abbrev T_sl_api_Part:Nat:=52
abbrev T_api_Selector:Nat:=54
abbrev T_api_Pair:Nat:=70
abbrev T_sl_api_Attr:Nat:=83
abbrev T_sl_api_Pseudo:Nat:=84
abbrev T_api_Compound:Nat:=86
abbrev T_api_Part:Nat:=88
abbrev T_api_Attr:Nat:=123
abbrev T_api_Pseudo:Nat:=125
abbrev T_api_Value:Nat:=233
abbrev T_api_Set:Nat:=235
theorem T_int_is:∃ i,tiT.get T_int=some i∧i.d=.int .i64∧i.size=1:=⟨_,(by kernel_rfl:tiT.get T_int=some ti3),by kernel_rfl,by kernel_rfl⟩
theorem T_bool_is:∃ i,tiT.get T_bool=some i∧i.d=.bool∧i.size=1:=⟨_,(by kernel_rfl:tiT.get T_bool=some ti4),by kernel_rfl,by kernel_rfl⟩
theorem T_string_is:∃ i,tiT.get T_string=some i∧i.d=.string∧i.size=1:=⟨_,(by kernel_rfl:tiT.get T_string=some ti9),by kernel_rfl,by kernel_rfl⟩
theorem T_sl_api_Rule_is:∃ i,tiT.get T_sl_api_Rule=some i∧i.d=.slice T_api_Rule∧i.size=1:=⟨_,(by kernel_rfl:tiT.get T_sl_api_Rule=some ti22),by kernel_rfl,by kernel_rfl⟩
theorem T_sl_api_Node_is:∃ i,tiT.get T_sl_api_Node=some i∧i.d=.slice T_api_Node∧i.size=1:=⟨_,(by kernel_rfl:tiT.get T_sl_api_Node=some ti23),by kernel_rfl,by kernel_rfl⟩
theorem T_sl_string_is:∃ i,tiT.get T_sl_string=some i∧i.d=.slice T_string∧i.size=1:=⟨_,(by kernel_rfl:tiT.get T_sl_string=some ti34),by kernel_rfl,by kernel_rfl⟩
theorem T_sl_api_Pair_is:∃ i,tiT.get T_sl_api_Pair=some i∧i.d=.slice T_api_Pair∧i.size=1:=⟨_,(by kernel_rfl:tiT.get T_sl_api_Pair=some ti35),by kernel_rfl,by kernel_rfl⟩
theorem T_api_Node_is:∃ i,tiT.get T_api_Node=some i∧i.d=.struct [(0,T_int),(1,T_string),(2,T_string),(3,T_sl_string),(4,T_sl_api_Pair)]∧i.size=5:=⟨_,(by kernel_rfl:tiT.get T_api_Node=some ti37),by kernel_rfl,by kernel_rfl⟩
theorem T_sl_api_Selector_is:∃ i,tiT.get T_sl_api_Selector=some i∧i.d=.slice T_api_Selector∧i.size=1:=⟨_,(by kernel_rfl:tiT.get T_sl_api_Selector=some ti40),by kernel_rfl,by kernel_rfl⟩
theorem T_sl_api_Set_is:∃ i,tiT.get T_sl_api_Set=some i∧i.d=.slice T_api_Set∧i.size=1:=⟨_,(by kernel_rfl:tiT.get T_sl_api_Set=some ti41),by kernel_rfl,by kernel_rfl⟩
theorem T_api_Rule_is:∃ i,tiT.get T_api_Rule=some i∧i.d=.struct [(0,T_sl_api_Selector),(1,T_sl_api_Set)]∧i.size=2:=⟨_,(by kernel_rfl:tiT.get T_api_Rule=some ti43),by kernel_rfl,by kernel_rfl⟩
theorem T_sl_api_Part_is:∃ i,tiT.get T_sl_api_Part=some i∧i.d=.slice T_api_Part∧i.size=1:=⟨_,(by kernel_rfl:tiT.get T_sl_api_Part=some ti52),by kernel_rfl,by kernel_rfl⟩
theorem T_api_Selector_is:∃ i,tiT.get T_api_Selector=some i∧i.d=.struct [(0,T_sl_api_Part)]∧i.size=1:=⟨_,(by kernel_rfl:tiT.get T_api_Selector=some ti54),by kernel_rfl,by kernel_rfl⟩
theorem T_api_Pair_is:∃ i,tiT.get T_api_Pair=some i∧i.d=.struct [(0,T_string),(1,T_string)]∧i.size=2:=⟨_,(by kernel_rfl:tiT.get T_api_Pair=some ti70),by kernel_rfl,by kernel_rfl⟩
theorem T_sl_api_Attr_is:∃ i,tiT.get T_sl_api_Attr=some i∧i.d=.slice T_api_Attr∧i.size=1:=⟨_,(by kernel_rfl:tiT.get T_sl_api_Attr=some ti83),by kernel_rfl,by kernel_rfl⟩
theorem T_sl_api_Pseudo_is:∃ i,tiT.get T_sl_api_Pseudo=some i∧i.d=.slice T_api_Pseudo∧i.size=1:=⟨_,(by kernel_rfl:tiT.get T_sl_api_Pseudo=some ti84),by kernel_rfl,by kernel_rfl⟩
theorem T_api_Compound_is:∃ i,tiT.get T_api_Compound=some i∧i.d=.struct [(0,T_string),(1,T_sl_string),(2,T_sl_string),(3,T_sl_api_Attr),(4,T_sl_api_Pseudo)]∧i.size=5:=⟨_,(by kernel_rfl:tiT.get T_api_Compound=some ti86),by kernel_rfl,by kernel_rfl⟩
theorem T_api_Part_is:∃ i,tiT.get T_api_Part=some i∧i.d=.struct [(0,T_int),(1,T_api_Compound)]∧i.size=6:=⟨_,(by kernel_rfl:tiT.get T_api_Part=some ti88),by kernel_rfl,by kernel_rfl⟩
theorem T_api_Attr_is:∃ i,tiT.get T_api_Attr=some i∧i.d=.struct [(0,T_string),(1,T_int),(2,T_string)]∧i.size=3:=⟨_,(by kernel_rfl:tiT.get T_api_Attr=some ti123),by kernel_rfl,by kernel_rfl⟩
theorem T_api_Pseudo_is:∃ i,tiT.get T_api_Pseudo=some i∧i.d=.struct [(0,T_int),(1,T_int),(2,T_int),(3,T_sl_api_Selector)]∧i.size=4:=⟨_,(by kernel_rfl:tiT.get T_api_Pseudo=some ti125),by kernel_rfl,by kernel_rfl⟩
theorem T_api_Value_is:∃ i,tiT.get T_api_Value=some i∧i.d=.struct [(0,T_int),(1,T_int)]∧i.size=2:=⟨_,(by kernel_rfl:tiT.get T_api_Value=some ti233),by kernel_rfl,by kernel_rfl⟩
theorem T_api_Set_is:∃ i,tiT.get T_api_Set=some i∧i.d=.struct [(0,T_int),(1,T_api_Value),(3,T_bool)]∧i.size=4:=⟨_,(by kernel_rfl:tiT.get T_api_Set=some ti235),by kernel_rfl,by kernel_rfl⟩
end Go.Proofs.YtaoegkmfgfefgaaGreat.Ev
namespace Go.Proofs.YtaoegkmfgfefgaaGreat.Ev
set_option maxRecDepth 100000
set_option maxHeartbeats 4000000
set_option linter.unusedVariables false
variable {σ:Sig} {K:AV→Hp→Prop} {H:Hp}
noncomputable def law12_BucketFinds.code:Code:=bodyOf Tryz.f3
noncomputable def law12_BucketFinds.Q0 (σ:Sig) (K:AV→Hp→Prop):Exit→List AV→Hp→Prop:=(nx (fQ Tryz.f3 σ K) fun T G=>wp (CZ σ) 65155 (sR (sR (sR (sR (sR (sR (sR law12_BucketFinds.code))))))) T G (fQ Tryz.f3 σ K))
noncomputable def law12_BucketFinds.Q1 (σ:Sig) (K:AV→Hp→Prop):Exit→List AV→Hp→Prop:=(nx (fun e T G=>(law12_BucketFinds.Q0 σ K) (unblock 0 e) T G) fun T G=>∀ j,LoopP (CZ σ) (lB (bB (sR (sL (sR (sR (sR (sR (sR (sR law12_BucketFinds.code)))))))))) (maskA 65155 j 0 T) G (fun e T G=>(law12_BucketFinds.Q0 σ K) (unblock 0 e) T G))
noncomputable def law12_BucketFinds.Q2 (σ:Sig) (K:AV→Hp→Prop):Exit→List AV→Hp→Prop:=(nx (law12_BucketFinds.Q1 σ K) fun T G=>wp (CZ σ) 65155 (sR (sR (lB (bB (sR (sL (sR (sR (sR (sR (sR (sR law12_BucketFinds.code)))))))))))) T G (law12_BucketFinds.Q1 σ K))
noncomputable def law12_BucketFinds.Q3 (σ:Sig) (K:AV→Hp→Prop):Exit→List AV→Hp→Prop:=(nx (fun e T G=>(fun e T G=>(law12_BucketFinds.Q2 σ K) (unblock 1 e) T G) (unblock 2 e) T G) fun T G=>∀ j,LoopP (CZ σ) (lB (bB (sR (sR (bB (sL (sR (lB (bB (sR (sL (sR (sR (sR (sR (sR (sR law12_BucketFinds.code))))))))))))))))) (maskA 65155 j 0 T) G (fun e T G=>(fun e T G=>(law12_BucketFinds.Q2 σ K) (unblock 1 e) T G) (unblock 2 e) T G))
noncomputable def law12_BucketFinds.L0 (σ:Sig) (K:AV→Hp→Prop) (y0 y1 y7 y9 y10 y11 y12 y13 y14 y15:AV) (H:Hp):Prop:=∀ j:Nat→AV,LoopP (CZ σ) (lB (bB (sR (sL (sR (sR (sR (sR (sR (sR law12_BucketFinds.code)))))))))) ([y0,y1,j 2,j 3,j 4,j 5,j 6,y7,j 8,y9,y10,y11,y12,y13,y14,y15]++jr j 16 69) H (fun e T G=>(law12_BucketFinds.Q0 σ K) (unblock 0 e) T G)
noncomputable def law12_BucketFinds.L1 (σ:Sig) (K:AV→Hp→Prop) (y0 y1 y7 y9 y10 y11 y12 y13 y14 y15:AV) (H:Hp):Prop:=∀ j:Nat→AV,LoopP (CZ σ) (lB (bB (sR (sR (bB (sL (sR (lB (bB (sR (sL (sR (sR (sR (sR (sR (sR law12_BucketFinds.code))))))))))))))))) ([y0,y1,j 2,j 3,j 4,j 5,j 6,y7,j 8,y9,y10,y11,y12,y13,y14,y15]++jr j 16 69) H (fun e T G=>(fun e T G=>(law12_BucketFinds.Q2 σ K) (unblock 1 e) T G) (unblock 2 e) T G)
noncomputable def law12_BucketFinds.L2 (σ:Sig) (K:AV→Hp→Prop) (y0 y1 y7 y9 y10 y11 y12 y13 y14 y15:AV) (H:Hp):Prop:=∀ j:Nat→AV,LoopP (CZ σ) (lB (bB (sR (sL (sR (sR (bB (sL (sR (lB (bB (sR (sR (bB (sL (sR (lB (bB (sR (sL (sR (sR (sR (sR (sR (sR law12_BucketFinds.code)))))))))))))))))))))))))) ([y0,y1,j 2,j 3,j 4,j 5,j 6,y7,j 8,y9,y10,y11,y12,y13,y14,y15]++jr j 16 69) H (fun e T G=>(nx (fun e T G=>(nx (law12_BucketFinds.Q3 σ K) fun T G=>wp (CZ σ) 65155 (sR (sR (lB (bB (sR (sR (bB (sL (sR (lB (bB (sR (sL (sR (sR (sR (sR (sR (sR law12_BucketFinds.code))))))))))))))))))) T G (law12_BucketFinds.Q3 σ K)) (unblock 3 e) T G) fun T G=>wp (CZ σ) 65155 (sR (sR (sR (bB (sL (sR (lB (bB (sR (sR (bB (sL (sR (lB (bB (sR (sL (sR (sR (sR (sR (sR (sR law12_BucketFinds.code))))))))))))))))))))))) T G (fun e T G=>(nx (law12_BucketFinds.Q3 σ K) fun T G=>wp (CZ σ) 65155 (sR (sR (lB (bB (sR (sR (bB (sL (sR (lB (bB (sR (sL (sR (sR (sR (sR (sR (sR law12_BucketFinds.code))))))))))))))))))) T G (law12_BucketFinds.Q3 σ K)) (unblock 3 e) T G)) (unblock 4 e) T G)
theorem law12_BucketFinds.L0_step {y0 y1 y7 y9 y10 y11 y12 y13 y14 y15:AV} (h:bnd (lenSl y1) fun x1=>bnd (binR .lss y10 x1) fun x2=>ifB x2 (callK Tryz.prog σ n_ref9_Tree_Node [y7,y10] H fun x3 H4=>callK Tryz.prog σ n_bucket_Map_For [y9,x3] H4 fun x5 H6=>law12_BucketFinds.L1 σ K y0 y1 y7 y9 y10 x5 (I 0) y13 y14 y15 H6) (K (Bo true) H)):law12_BucketFinds.L0 σ K y0 y1 y7 y9 y10 y11 y12 y13 y14 y15 H :=
 fun j=>lrd (g:=65155) (Eq.mpr (by kernel_rfl) h)
theorem law12_BucketFinds.L1_step {y0 y1 y7 y9 y10 y11 y12 y13 y14 y15:AV} (h:bnd (lenSl y0) fun x1=>bnd (binR .lss y12 x1) fun x2=>ifB x2 (bnd (ixaSl 2 y0 y12) fun x3=>bnd (shiftA x3 0) fun x4=>bnd (ldA false 1 H x4) fun x5=>callK Tryz.prog σ n_ref9_Tree_Any [y7,y10,x5] H fun x6 H7=>law12_BucketFinds.L2 σ K y0 y1 y7 y9 y10 y11 y12 x6 (Bo false) (I 0) H7) (bnd (binR .add y10 (I 1)) fun x8=>law12_BucketFinds.L0 σ K y0 y1 y7 y9 x8 y11 y12 y13 y14 y15 H)):law12_BucketFinds.L1 σ K y0 y1 y7 y9 y10 y11 y12 y13 y14 y15 H :=
 fun j=>lrd (g:=65155) (Eq.mpr (by kernel_rfl) h)
theorem law12_BucketFinds.L2_step {y0 y1 y7 y9 y10 y11 y12 y13 y14 y15:AV} (h:bnd (lenSl y11) fun x1=>bnd (binR .lss y15 x1) fun x2=>ifB x2 (ifB y14 (bnd (binR .add y15 (I 1)) fun x3=>law12_BucketFinds.L2 σ K y0 y1 y7 y9 y10 y11 y12 y13 (Bo true) x3 H) (bnd (ixaSl 1 y11 y15) fun x4=>bnd (ldA false 1 H x4) fun x5=>bnd (binR .eql x5 y12) fun x6=>bnd (binR .add y15 (I 1)) fun x7=>law12_BucketFinds.L2 σ K y0 y1 y7 y9 y10 y11 y12 y13 x6 x7 H)) (ifB y13 (bnd (unR .not y14) fun x8=>ifB x8 (K (Bo false) H) (bnd (binR .add y12 (I 1)) fun x9=>law12_BucketFinds.L1 σ K y0 y1 y7 y9 y10 y11 x9 y13 y14 y15 H)) (bnd (binR .add y12 (I 1)) fun x10=>law12_BucketFinds.L1 σ K y0 y1 y7 y9 y10 y11 x10 y13 y14 y15 H))):law12_BucketFinds.L2 σ K y0 y1 y7 y9 y10 y11 y12 y13 y14 y15 H :=
 fun j=>lrd (g:=65155) (Eq.mpr (by kernel_rfl) h)
theorem law12_BucketFinds.run {a0 a1:AV} (h:callK Tryz.prog σ n_law12_alive [] H fun x1 H2=>callK Tryz.prog σ n_law12_Dear [a0] H2 fun x3 H4=>ifB x3 (callK Tryz.prog σ n_ref9_New [a1] H4 fun x5 H6=>bnd (exR x5 0) fun x7=>bnd (exR x5 1) fun x8=>bnd (unR .not x1) fun x9=>ifB x9 (K x1 H6) (K x1 H6)) (callK Tryz.prog σ n_law9_Big [a1] H4 fun x10 H11=>callK Tryz.prog σ n_ref9_New [a1] H11 fun x12 H13=>bnd (exR x12 0) fun x14=>bnd (exR x12 1) fun x15=>bnd (unR .not x1) fun x16=>ifB x16 (K x1 H13) (ifB x10 (K x1 H13) (bnd (binR .neq x15 (I 0)) fun x17=>ifB x17 (K x1 H13) (callK Tryz.prog σ n_bucket_New [a0] H13 fun x18 H19=>law12_BucketFinds.L0 σ K a0 a1 x14 x18 (I 0) (.lit undef) (.lit undef) (.lit undef) (.lit undef) (.lit undef) H19))))):∃ r H1,Good Tryz.prog σ n_law12_BucketFinds [a0,a1] H r H1∧K r H1 :=
 gwp 65155 (fn:=Tryz.f3) (f:=n_law12_BucketFinds) (c:=law12_BucketFinds.code) (by kernel_rfl) (by kernel_rfl) (Eq.mpr (by kernel_rfl) h)
noncomputable def law12_alive.code:Code:=bodyOf Tryz.f6
theorem law12_alive.run (h:callK Tryz.prog σ n_law10_Sels [(.lit (.string ⟨#[46,98]⟩))] H fun x1 H2=>bnd (bldR [.lit (.slice none 0 0),.lit (.slice none 0 0)] [(0,1,x1)]) fun l3=>callK Tryz.prog σ n_law10_Sels [(.lit (.string ⟨#[97,32,62,32,98]⟩))] H2 fun x4 H5=>bnd (bldR [.lit (.slice none 0 0),.lit (.slice none 0 0)] [(0,1,x4)]) fun l6=>bnd (bldSlR [.slice none 0 0,.slice none 0 0] 2 2 H5 [(0,2,(.agg l3)),(2,2,(.agg l6))]) fun p7=>callK Tryz.prog σ n_bucket_New [p7.1] p7.2 fun x8 H9=>bnd (eqPtrR .neq x8 (.lit (.pointer none))) fun x10=>ifB x10 (callK Tryz.prog σ n_bucket_Map_Len [x8] H9 fun x11 H12=>bnd (binR .eql x11 (I 2)) fun x13=>ifB x13 (bnd (bldSlR [.string ⟨#[]⟩] 1 1 H12 [(0,1,(.lit (.string ⟨#[98]⟩)))]) fun p14=>bnd (bldR [I 0,.lit (.string ⟨#[]⟩),.lit (.string ⟨#[]⟩),.lit (.slice none 0 0),.lit (.slice none 0 0)] [(3,1,p14.1)]) fun l15=>callK Tryz.prog σ n_bucket_Map_For [x8,(.agg l15)] p14.2 fun x16 H17=>bnd (lenSl x16) fun x18=>bnd (binR .eql x18 (I 1)) fun x19=>K x19 H17) (K (Bo false) H12)) (K (Bo false) H9)):∃ r H1,Good Tryz.prog σ n_law12_alive [] H r H1∧K r H1 :=
 gwp 0 (fn:=Tryz.f6) (f:=n_law12_alive) (c:=law12_alive.code) (by kernel_rfl) (by kernel_rfl) (Eq.mpr (by kernel_rfl) h)
noncomputable def law12_Dear.code:Code:=bodyOf Tryz.f7
noncomputable def law12_Dear.L0 (σ:Sig) (K:AV→Hp→Prop) (y0 y3 y4 y5 y6:AV) (H:Hp):Prop:=∀ j:Nat→AV,LoopP (CZ σ) (lB (bB (sR (sL (sR (sR (sR law12_Dear.code))))))) ([y0,j 1,j 2,y3,y4,y5,y6]++jr j 7 56) H (fun e T G=>(nx (fQ Tryz.f7 σ K) fun T G=>wp (CZ σ) 121 (sR (sR (sR (sR law12_Dear.code)))) T G (fQ Tryz.f7 σ K)) (unblock 0 e) T G)
noncomputable def law12_Dear.L1 (σ:Sig) (K:AV→Hp→Prop) (y0 y3 y4 y5 y6:AV) (H:Hp):Prop:=∀ j:Nat→AV,LoopP (CZ σ) (lB (bB (sR (sL (sR (sR (sR (sR (sR law12_Dear.code))))))))) ([y0,j 1,j 2,y3,y4,y5,y6]++jr j 7 56) H (fun e T G=>(nx (fQ Tryz.f7 σ K) fun T G=>wp (CZ σ) 121 (sR (sR (sR (sR (sR (sR law12_Dear.code)))))) T G (fQ Tryz.f7 σ K)) (unblock 2 e) T G)
theorem law12_Dear.L0_step {y0 y3 y4 y5 y6:AV} (h:bnd (lenSl y0) fun x1=>bnd (binR .lss y4 x1) fun x2=>ifB x2 (bnd (ixaSl 2 y0 y4) fun x3=>bnd (shiftA x3 0) fun x4=>bnd (ldA false 1 H x4) fun x5=>bnd (lenSl x5) fun x6=>bnd (binR .gtr x6 (I 8)) fun x7=>ifB x7 (K (Bo true) H) (bnd (ixaSl 2 y0 y4) fun x8=>bnd (shiftA x8 1) fun x9=>bnd (ldA false 1 H x9) fun x10=>bnd (lenSl x10) fun x11=>bnd (binR .gtr x11 (I 30)) fun x12=>ifB x12 (K (Bo true) H) (bnd (ixaSl 2 y0 y4) fun x13=>bnd (shiftA x13 0) fun x14=>bnd (ldA false 1 H x14) fun x15=>bnd (appR false 1 24 H y3 x15) fun p16=>bnd (binR .add y4 (I 1)) fun x17=>law12_Dear.L0 σ K y0 p16.1 x17 y5 y6 p16.2))) (law12_Dear.L1 σ K y0 y3 y4 (I 0) (I 0) H)):law12_Dear.L0 σ K y0 y3 y4 y5 y6 H :=
 fun j=>lrd (g:=121) (Eq.mpr (by kernel_rfl) h)
theorem law12_Dear.L1_step {y0 y3 y4 y5 y6:AV} (h:bnd (lenSl y3) fun x1=>bnd (binR .lss y6 x1) fun x2=>ifB x2 (bnd (binR .add y6 (I 1)) fun x3=>bnd (slSl 1 y3 (some y6) (some x3) none) fun x4=>callK Tryz.prog σ n_law10_Dear [x4] H fun x5 H6=>ifB x5 (K (Bo true) H6) (bnd (ixaSl 1 y3 y6) fun x7=>bnd (shiftA x7 0) fun x8=>bnd (ldA false 1 H6 x8) fun x9=>bnd (lenSl x9) fun x10=>bnd (binR .add y5 x10) fun x11=>bnd (binR .add y6 (I 1)) fun x12=>law12_Dear.L1 σ K y0 y3 y4 x11 x12 H6)) (bnd (binR .gtr y5 (I 120)) fun x13=>K x13 H)):law12_Dear.L1 σ K y0 y3 y4 y5 y6 H :=
 fun j=>lrd (g:=121) (Eq.mpr (by kernel_rfl) h)
theorem law12_Dear.run {a0:AV} (h:bnd (lenSl a0) fun x1=>bnd (binR .gtr x1 (I 30)) fun x2=>ifB x2 (K (Bo true) H) (law12_Dear.L0 σ K a0 (.lit (.slice none 0 0)) (I 0) (.lit undef) (.lit undef) H)):∃ r H1,Good Tryz.prog σ n_law12_Dear [a0] H r H1∧K r H1 :=
 gwp 121 (fn:=Tryz.f7) (f:=n_law12_Dear) (c:=law12_Dear.code) (by kernel_rfl) (by kernel_rfl) (Eq.mpr (by kernel_rfl) h)
noncomputable def law9_Big.code:Code:=bodyOf Tryz.f8
noncomputable def law9_Big.Q0 (σ:Sig) (K:AV→Hp→Prop):Exit→List AV→Hp→Prop:=(nx (fQ Tryz.f8 σ K) fun T G=>wp (CZ σ) 57 (sR (sR law9_Big.code)) T G (fQ Tryz.f8 σ K))
noncomputable def law9_Big.Q1 (σ:Sig) (K:AV→Hp→Prop):Exit→List AV→Hp→Prop:=(nx (fun e T G=>(law9_Big.Q0 σ K) (unblock 0 e) T G) fun T G=>∀ j,LoopP (CZ σ) (lB (bB (sR (sL (sR law9_Big.code))))) (maskA 57 j 0 T) G (fun e T G=>(law9_Big.Q0 σ K) (unblock 0 e) T G))
noncomputable def law9_Big.Q2 (σ:Sig) (K:AV→Hp→Prop):Exit→List AV→Hp→Prop:=(fun e T G=>(nx (law9_Big.Q1 σ K) fun T G=>wp (CZ σ) 57 (sR (sR (lB (bB (sR (sL (sR law9_Big.code))))))) T G (law9_Big.Q1 σ K)) (unblock 1 e) T G)
noncomputable def law9_Big.L0 (σ:Sig) (K:AV→Hp→Prop) (y0 y3 y4 y5:AV) (H:Hp):Prop:=∀ j:Nat→AV,LoopP (CZ σ) (lB (bB (sR (sL (sR law9_Big.code))))) ([y0,j 1,j 2,y3,y4,y5]++jr j 6 111) H (fun e T G=>(law9_Big.Q0 σ K) (unblock 0 e) T G)
noncomputable def law9_Big.L1 (σ:Sig) (K:AV→Hp→Prop) (y0 y3 y4 y5:AV) (H:Hp):Prop:=∀ j:Nat→AV,LoopP (CZ σ) (lB (bB (sR (sL (sR (bB (sL (sR (lB (bB (sR (sL (sR law9_Big.code))))))))))))) ([y0,j 1,j 2,y3,y4,y5]++jr j 6 111) H (fun e T G=>(nx (law9_Big.Q2 σ K) fun T G=>wp (CZ σ) 57 (sR (sR (bB (sL (sR (lB (bB (sR (sL (sR law9_Big.code)))))))))) T G (law9_Big.Q2 σ K)) (unblock 2 e) T G)
noncomputable def law9_Big.L2 (σ:Sig) (K:AV→Hp→Prop) (y0 y3 y4 y5:AV) (H:Hp):Prop:=∀ j:Nat→AV,LoopP (CZ σ) (lB (bB (sR (sR (sR (bB (sL (sR (lB (bB (sR (sL (sR law9_Big.code))))))))))))) ([y0,j 1,j 2,y3,y4,y5]++jr j 6 111) H (fun e T G=>(law9_Big.Q2 σ K) (unblock 4 e) T G)
theorem law9_Big.L0_step {y0 y3 y4 y5:AV} (h:bnd (lenSl y0) fun x1=>bnd (binR .lss y3 x1) fun x2=>ifB x2 (bnd (binR .lss y3 (I 100)) fun x3=>ifB x3 (bnd (ixaSl 5 y0 y3) fun x4=>bnd (shiftA x4 3) fun x5=>bnd (ldA false 1 H x5) fun x6=>bnd (lenSl x6) fun x7=>bnd (binR .gtr x7 (I 8)) fun x8=>ifB x8 (K (Bo true) H) (bnd (ixaSl 5 y0 y3) fun x9=>bnd (shiftA x9 4) fun x10=>bnd (ldA false 1 H x10) fun x11=>bnd (lenSl x11) fun x12=>bnd (binR .gtr x12 (I 8)) fun x13=>ifB x13 (K (Bo true) H) (bnd (ixaSl 5 y0 y3) fun x14=>bnd (shiftA x14 1) fun x15=>bnd (ldA false 1 H x15) fun x16=>bnd (lenStr x16) fun x17=>bnd (binR .gtr x17 (I 60)) fun x18=>ifB x18 (K (Bo true) H) (bnd (ixaSl 5 y0 y3) fun x19=>bnd (shiftA x19 2) fun x20=>bnd (ldA false 1 H x20) fun x21=>bnd (lenStr x21) fun x22=>bnd (binR .gtr x22 (I 60)) fun x23=>ifB x23 (K (Bo true) H) (law9_Big.L1 σ K y0 y3 (I 0) y5 H))))) (bnd (lenSl y0) fun x24=>bnd (binR .gtr x24 (I 40)) fun x25=>ifB x25 (bnd (lenSl y0) fun x26=>bnd (binR .leq x26 (I 4096)) fun x27=>ifB x27 (K (Bo true) H) (bnd (lenSl y0) fun x28=>bnd (binR .gtr x28 (I 4100)) fun x29=>K x29 H)) (bnd (lenSl y0) fun x30=>bnd (binR .gtr x30 (I 4100)) fun x31=>K x31 H))) (bnd (lenSl y0) fun x32=>bnd (binR .gtr x32 (I 40)) fun x33=>ifB x33 (bnd (lenSl y0) fun x34=>bnd (binR .leq x34 (I 4096)) fun x35=>ifB x35 (K (Bo true) H) (bnd (lenSl y0) fun x36=>bnd (binR .gtr x36 (I 4100)) fun x37=>K x37 H)) (bnd (lenSl y0) fun x38=>bnd (binR .gtr x38 (I 4100)) fun x39=>K x39 H))):law9_Big.L0 σ K y0 y3 y4 y5 H :=
 fun j=>lrd (g:=57) (Eq.mpr (by kernel_rfl) h)
theorem law9_Big.L1_step {y0 y3 y4 y5:AV} (h:bnd (ixaSl 5 y0 y3) fun x1=>bnd (shiftA x1 3) fun x2=>bnd (ldA false 1 H x2) fun x3=>bnd (lenSl x3) fun x4=>bnd (binR .lss y4 x4) fun x5=>ifB x5 (bnd (ixaSl 5 y0 y3) fun x6=>bnd (shiftA x6 3) fun x7=>bnd (ldA false 1 H x7) fun x8=>bnd (ixaSl 1 x8 y4) fun x9=>bnd (ldA false 1 H x9) fun x10=>bnd (lenStr x10) fun x11=>bnd (binR .gtr x11 (I 60)) fun x12=>ifB x12 (K (Bo true) H) (bnd (binR .add y4 (I 1)) fun x13=>law9_Big.L1 σ K y0 y3 x13 y5 H)) (law9_Big.L2 σ K y0 y3 y4 (I 0) H)):law9_Big.L1 σ K y0 y3 y4 y5 H :=
 fun j=>lrd (g:=57) (Eq.mpr (by kernel_rfl) h)
theorem law9_Big.L2_step {y0 y3 y4 y5:AV} (h:bnd (ixaSl 5 y0 y3) fun x1=>bnd (shiftA x1 4) fun x2=>bnd (ldA false 1 H x2) fun x3=>bnd (lenSl x3) fun x4=>bnd (binR .lss y5 x4) fun x5=>ifB x5 (bnd (ixaSl 5 y0 y3) fun x6=>bnd (shiftA x6 4) fun x7=>bnd (ldA false 1 H x7) fun x8=>bnd (ixaSl 2 x8 y5) fun x9=>bnd (shiftA x9 0) fun x10=>bnd (ldA false 1 H x10) fun x11=>bnd (lenStr x11) fun x12=>bnd (binR .gtr x12 (I 60)) fun x13=>ifB x13 (K (Bo true) H) (bnd (ixaSl 5 y0 y3) fun x14=>bnd (shiftA x14 4) fun x15=>bnd (ldA false 1 H x15) fun x16=>bnd (ixaSl 2 x16 y5) fun x17=>bnd (shiftA x17 1) fun x18=>bnd (ldA false 1 H x18) fun x19=>bnd (lenStr x19) fun x20=>bnd (binR .gtr x20 (I 100)) fun x21=>ifB x21 (K (Bo true) H) (bnd (binR .add y5 (I 1)) fun x22=>law9_Big.L2 σ K y0 y3 y4 x22 H))) (bnd (binR .add y3 (I 1)) fun x23=>law9_Big.L0 σ K y0 x23 y4 y5 H)):law9_Big.L2 σ K y0 y3 y4 y5 H :=
 fun j=>lrd (g:=57) (Eq.mpr (by kernel_rfl) h)
theorem law9_Big.run {a0:AV} (h:law9_Big.L0 σ K a0 (I 0) (.lit undef) (.lit undef) H):∃ r H1,Good Tryz.prog σ n_law9_Big [a0] H r H1∧K r H1 :=
 gwp 57 (fn:=Tryz.f8) (f:=n_law9_Big) (c:=law9_Big.code) (by kernel_rfl) (by kernel_rfl) (Eq.mpr (by kernel_rfl) h)
noncomputable def ref9_New.code:Code:=bodyOf Tryz.f9
noncomputable def ref9_New.Q0 (σ:Sig) (K:AV→Hp→Prop):Exit→List AV→Hp→Prop:=(nx (fQ Tryz.f9 σ K) fun T G=>wp (CZ σ) 177 (sR (sR (sR (sR ref9_New.code)))) T G (fQ Tryz.f9 σ K))
noncomputable def ref9_New.L0 (σ:Sig) (K:AV→Hp→Prop) (y0 y4 y5 y7:AV) (H:Hp):Prop:=∀ j:Nat→AV,LoopP (CZ σ) (lB (bB (sR (sL (sR (sR (sR ref9_New.code))))))) ([y0,j 1,j 2,j 3,y4,y5,j 6,y7]++jr j 8 72) H (fun e T G=>(ref9_New.Q0 σ K) (unblock 0 e) T G)
noncomputable def ref9_New.J1 (σ:Sig) (K:AV→Hp→Prop) (y0 y4 y5 y7:AV) (H:Hp):Prop:=∀ j:Nat→AV,wp (CZ σ) 177 (sR (sR (sR (sR (bB (sL (sR (lB (bB (sR (sL (sR (sR (sR ref9_New.code)))))))))))))) ([y0,j 1,j 2,j 3,y4,y5,j 6,y7]++jr j 8 72) H (fun e T G=>(nx (nx (fun e T G=>(ref9_New.Q0 σ K) (unblock 0 e) T G) fun T G=>∀ j,LoopP (CZ σ) (lB (bB (sR (sL (sR (sR (sR ref9_New.code))))))) (maskA 177 j 0 T) G (fun e T G=>(ref9_New.Q0 σ K) (unblock 0 e) T G)) fun T G=>wp (CZ σ) 177 (sR (sR (lB (bB (sR (sL (sR (sR (sR ref9_New.code))))))))) T G (nx (fun e T G=>(ref9_New.Q0 σ K) (unblock 0 e) T G) fun T G=>∀ j,LoopP (CZ σ) (lB (bB (sR (sL (sR (sR (sR ref9_New.code))))))) (maskA 177 j 0 T) G (fun e T G=>(ref9_New.Q0 σ K) (unblock 0 e) T G))) (unblock 1 e) T G)
theorem ref9_New.L0_step {y0 y4 y5 y7:AV} (h:bnd (lenSl y0) fun x1=>bnd (binR .lss y5 x1) fun x2=>ifB x2 (bnd (ixaSl 5 y0 y5) fun x3=>bnd (shiftA x3 0) fun x4=>bnd (ldA false 1 H x4) fun x5=>bnd (binR .eql y5 (I 0)) fun x6=>ifB x6 (bnd (binR .neq x5 (I (-1))) fun x7=>ifB x7 (K (.tup [(.lit (.pointer none)),(I 10)]) H) (bnd (binR .gtr y5 (I 0)) fun x8=>ifB x8 (bnd (binR .lss x5 (I 0)) fun x9=>ifB x9 (K (.tup [(.lit (.pointer none)),(I 10)]) H) (bnd (binR .geq x5 y5) fun x10=>ifB x10 (K (.tup [(.lit (.pointer none)),(I 10)]) H) (bnd (binR .gtr y5 (I 0)) fun x11=>ifB x11 (bnd (nilR y4) fun x12=>bnd (shiftA x12 1) fun x13=>bnd (ldA false 1 H x13) fun x14=>bnd (ixaSl 1 x14 x5) fun x15=>bnd (ldA false 1 H x15) fun x16=>bnd (binR .add x16 (I 1)) fun x17=>ref9_New.J1 σ K y0 y4 y5 x17 H) (ref9_New.J1 σ K y0 y4 y5 (I 0) H)))) (bnd (binR .gtr y5 (I 0)) fun x18=>ifB x18 (bnd (nilR y4) fun x19=>bnd (shiftA x19 1) fun x20=>bnd (ldA false 1 H x20) fun x21=>bnd (ixaSl 1 x21 x5) fun x22=>bnd (ldA false 1 H x22) fun x23=>bnd (binR .add x23 (I 1)) fun x24=>ref9_New.J1 σ K y0 y4 y5 x24 H) (ref9_New.J1 σ K y0 y4 y5 (I 0) H)))) (bnd (binR .gtr y5 (I 0)) fun x25=>ifB x25 (bnd (binR .lss x5 (I 0)) fun x26=>ifB x26 (K (.tup [(.lit (.pointer none)),(I 10)]) H) (bnd (binR .geq x5 y5) fun x27=>ifB x27 (K (.tup [(.lit (.pointer none)),(I 10)]) H) (bnd (binR .gtr y5 (I 0)) fun x28=>ifB x28 (bnd (nilR y4) fun x29=>bnd (shiftA x29 1) fun x30=>bnd (ldA false 1 H x30) fun x31=>bnd (ixaSl 1 x31 x5) fun x32=>bnd (ldA false 1 H x32) fun x33=>bnd (binR .add x33 (I 1)) fun x34=>ref9_New.J1 σ K y0 y4 y5 x34 H) (ref9_New.J1 σ K y0 y4 y5 (I 0) H)))) (bnd (binR .gtr y5 (I 0)) fun x35=>ifB x35 (bnd (nilR y4) fun x36=>bnd (shiftA x36 1) fun x37=>bnd (ldA false 1 H x37) fun x38=>bnd (ixaSl 1 x38 x5) fun x39=>bnd (ldA false 1 H x39) fun x40=>bnd (binR .add x40 (I 1)) fun x41=>ref9_New.J1 σ K y0 y4 y5 x41 H) (ref9_New.J1 σ K y0 y4 y5 (I 0) H)))) (K (.tup [y4,(I 0)]) H)):ref9_New.L0 σ K y0 y4 y5 y7 H :=
 fun j=>lrd (g:=177) (Eq.mpr (by kernel_rfl) h)
theorem ref9_New.J1_step {y0 y4 y5 y7:AV} (h:bnd (binR .gtr y7 (I 256)) fun x1=>ifB x1 (K (.tup [(.lit (.pointer none)),(I 11)]) H) (bnd (nilR y4) fun x2=>bnd (shiftA x2 0) fun x3=>bnd (ldA false 1 H x3) fun x4=>bnd (ixaSl 5 y0 y5) fun x5=>bnd (ldA true 5 H x5) fun x6=>callK Tryz.prog σ n_ref9_lowered [x6] H fun x7 H8=>kpK (x3,some 1) H H8 (bnd (bldSlR [.int .i64 0,.string ⟨#[]⟩,.string ⟨#[]⟩,.slice none 0 0,.slice none 0 0] 5 1 H8 [(0,5,x7)]) fun p9=>kpK (x3,some 1) H8 p9.2 (bnd (appR false 5 88 p9.2 x4 p9.1) fun p10=>bnd (nilR y4) fun x11=>bnd (shiftA x11 0) fun x12=>bnd (stA 1 p10.2 x12 p10.1) fun H13=>bnd (nilR y4) fun x14=>bnd (shiftA x14 1) fun x15=>bnd (ldA false 1 H13 x15) fun x16=>bnd (bldSlR [.int .i64 0] 1 1 H13 [(0,1,y7)]) fun p17=>bnd (appR false 1 8 p17.2 x16 p17.1) fun p18=>bnd (nilR y4) fun x19=>bnd (shiftA x19 1) fun x20=>bnd (stA 1 p18.2 x20 p18.1) fun H21=>bnd (binR .add y5 (I 1)) fun x22=>ref9_New.L0 σ K y0 y4 x22 y7 H21)))):ref9_New.J1 σ K y0 y4 y5 y7 H :=
 fun j=>Eq.mpr (by kernel_rfl) h
theorem ref9_New.run {a0:AV} (h:bnd (lenSl a0) fun x1=>bnd (binR .gtr x1 (I 4096)) fun x2=>ifB x2 (K (.tup [(.lit (.pointer none)),(I 3)]) H) (bnd (bldR [.lit (.slice none 0 0),.lit (.slice none 0 0)] []) fun l3=>boxK (.agg l3) H fun x4 H5=>ref9_New.L0 σ K a0 x4 (I 0) (.lit undef) H5)):∃ r H1,Good Tryz.prog σ n_ref9_New [a0] H r H1∧K r H1 :=
 gwp 177 (fn:=Tryz.f9) (f:=n_ref9_New) (c:=ref9_New.code) (by kernel_rfl) (by kernel_rfl) (Eq.mpr (by kernel_rfl) h)
noncomputable def bucket_New.code:Code:=bodyOf Tryz.f10
noncomputable def bucket_New.Q0 (σ:Sig) (K:AV→Hp→Prop):Exit→List AV→Hp→Prop:=(nx (fQ Tryz.f10 σ K) fun T G=>wp (CZ σ) 3684376 (sR (sR (sR bucket_New.code))) T G (fQ Tryz.f10 σ K))
noncomputable def bucket_New.Q1 (σ:Sig) (K:AV→Hp→Prop):Exit→List AV→Hp→Prop:=(nx (fun e T G=>(bucket_New.Q0 σ K) (unblock 0 e) T G) fun T G=>∀ j,LoopP (CZ σ) (lB (bB (sR (sL (sR (sR bucket_New.code)))))) (maskA 3684376 j 0 T) G (fun e T G=>(bucket_New.Q0 σ K) (unblock 0 e) T G))
noncomputable def bucket_New.Q2 (σ:Sig) (K:AV→Hp→Prop):Exit→List AV→Hp→Prop:=(fun e T G=>(nx (bucket_New.Q1 σ K) fun T G=>wp (CZ σ) 3684376 (sR (sR (sR (lB (bB (sR (sL (sR (sR bucket_New.code))))))))) T G (bucket_New.Q1 σ K)) (unblock 1 e) T G)
noncomputable def bucket_New.L0 (σ:Sig) (K:AV→Hp→Prop) (y3 y4 y11 y12 y13 y19 y20 y21:AV) (H:Hp):Prop:=∀ j:Nat→AV,LoopP (CZ σ) (lB (bB (sR (sL (sR (sR bucket_New.code)))))) ([j 0,j 1,j 2,y3,y4,j 5,j 6,j 7,j 8,j 9,j 10,y11,y12,y13,j 14,j 15,j 16,j 17,j 18,y19,y20,y21]++jr j 22 31) H (fun e T G=>(bucket_New.Q0 σ K) (unblock 0 e) T G)
noncomputable def bucket_New.L1 (σ:Sig) (K:AV→Hp→Prop) (y3 y4 y11 y12 y13 y19 y20 y21:AV) (H:Hp):Prop:=∀ j:Nat→AV,LoopP (CZ σ) (lB (bB (sR (sR (bB (sL (sR (sR (lB (bB (sR (sL (sR (sR bucket_New.code)))))))))))))) ([j 0,j 1,j 2,y3,y4,j 5,j 6,j 7,j 8,j 9,j 10,y11,y12,y13,j 14,j 15,j 16,j 17,j 18,y19,y20,y21]++jr j 22 31) H (fun e T G=>(bucket_New.Q2 σ K) (unblock 2 e) T G)
noncomputable def bucket_New.J2 (σ:Sig) (K:AV→Hp→Prop) (y3 y4 y11 y12 y13 y19 y20 y21:AV) (H:Hp):Prop:=∀ j:Nat→AV,wp (CZ σ) 3684376 (sR (sR (sR (lB (bB (sR (sR (bB (sL (sR (sR (lB (bB (sR (sL (sR (sR bucket_New.code))))))))))))))))) ([j 0,j 1,j 2,y3,y4,j 5,j 6,j 7,j 8,j 9,j 10,y11,y12,y13,j 14,j 15,j 16,j 17,j 18,y19,y20,y21]++jr j 22 31) H (nx (fun e T G=>(bucket_New.Q2 σ K) (unblock 2 e) T G) fun T G=>∀ j,LoopP (CZ σ) (lB (bB (sR (sR (bB (sL (sR (sR (lB (bB (sR (sL (sR (sR bucket_New.code)))))))))))))) (maskA 3684376 j 0 T) G (fun e T G=>(bucket_New.Q2 σ K) (unblock 2 e) T G))
theorem bucket_New.L0_step {y3 y4 y11 y12 y13 y19 y20 y21:AV} (h:bnd (binR .lss y13 y12) fun x1=>ifB x1 (bnd (ixaSl 2 y11 y13) fun x2=>bnd (ldA true 2 H x2) fun x3=>allocK [.lit (.slice none 0 0),.lit (.slice none 0 0)] H fun x4 H5=>bnd (stA 2 H5 x4 x3) fun H6=>bnd (shiftA x4 0) fun x7=>bnd (ldA false 1 H6 x7) fun x8=>bnd (lenSl x8) fun x9=>bucket_New.L1 σ K y3 y13 y11 y12 y13 x8 x9 (I 0) H6) (K y3 H)):bucket_New.L0 σ K y3 y4 y11 y12 y13 y19 y20 y21 H :=
 fun j=>lrd (g:=3684376) (Eq.mpr (by kernel_rfl) h)
theorem bucket_New.L1_step {y3 y4 y11 y12 y13 y19 y20 y21:AV} (h:bnd (binR .lss y21 y20) fun x1=>ifB x1 (bnd (ixaSl 1 y19 y21) fun x2=>bnd (ldA true 1 H x2) fun x3=>allocK [.lit (.slice none 0 0)] H fun x4 H5=>bnd (stA 1 H5 x4 x3) fun H6=>bnd (shiftA x4 0) fun x7=>bnd (ldA false 1 H6 x7) fun x8=>bnd (lenSl x8) fun x9=>bnd (binR .gtr x9 (I 0)) fun x10=>ifB x10 (bnd (nilR y3) fun x11=>bnd (shiftA x11 0) fun x12=>bnd (shiftA x4 0) fun x13=>bnd (ldA false 1 H6 x13) fun x14=>bnd (binR .sub x9 (I 1)) fun x15=>bnd (ixaSl 6 x14 x15) fun x16=>bnd (shiftA x16 1) fun x17=>bnd (ldA true 5 H6 x17) fun x18=>callK Tryz.prog σ n_bucket_of [x18] H6 fun x19 H20=>callK Tryz.prog σ n_bucket_lists_bucket_key_int_put [x12,x19,y4] H20 fun x21 H22=>bnd (nilR y3) fun x23=>bnd (shiftA x23 1) fun x24=>bnd (ldA false 1 H22 x24) fun x25=>bnd (binR .add x25 (I 1)) fun x26=>bnd (nilR y3) fun x27=>bnd (shiftA x27 1) fun x28=>bnd (stA 1 H22 x28 x26) fun H29=>bucket_New.J2 σ K y3 y4 y11 y12 y13 y19 y20 y21 H29) (bucket_New.J2 σ K y3 y4 y11 y12 y13 y19 y20 y21 H6)) (bnd (binR .add y13 (I 1)) fun x30=>bucket_New.L0 σ K y3 y4 y11 y12 x30 y19 y20 y21 H)):bucket_New.L1 σ K y3 y4 y11 y12 y13 y19 y20 y21 H :=
 fun j=>lrd (g:=3684376) (Eq.mpr (by kernel_rfl) h)
theorem bucket_New.J2_step {y3 y4 y11 y12 y13 y19 y20 y21:AV} (h:bnd (binR .add y21 (I 1)) fun x1=>bucket_New.L1 σ K y3 y4 y11 y12 y13 y19 y20 x1 H):bucket_New.J2 σ K y3 y4 y11 y12 y13 y19 y20 y21 H :=
 fun j=>Eq.mpr (by kernel_rfl) h
theorem bucket_New.run {a0:AV} (h:bnd (bldR [.lit (.map none),I 0] []) fun l1=>boxK (.agg l1) H fun x2 H3=>bnd (lenSl a0) fun x4=>bucket_New.L0 σ K x2 (.lit undef) a0 x4 (I 0) (.lit undef) (.lit undef) (.lit undef) H3):∃ r H1,Good Tryz.prog σ n_bucket_New [a0] H r H1∧K r H1 :=
 gwp 3684376 (fn:=Tryz.f10) (f:=n_bucket_New) (c:=bucket_New.code) (by kernel_rfl) (by kernel_rfl) (Eq.mpr (by kernel_rfl) h)
noncomputable def bucket_Map_For.code:Code:=bodyOf Tryz.f11
noncomputable def bucket_Map_For.J0 (σ:Sig) (K:AV→Hp→Prop) (y0 y3 y5 y41 y42 y43:AV) (H:Hp):Prop:=∀ j:Nat→AV,wp (CZ σ) 15393162788905 (sR (sR (sR bucket_Map_For.code))) ([y0,j 1,j 2,y3,j 4,y5,j 6,j 7,j 8,j 9,j 10,j 11,j 12,j 13,j 14,j 15,j 16,j 17,j 18,j 19,j 20,j 21,j 22,j 23,j 24,j 25,j 26,j 27,j 28,j 29,j 30,j 31,j 32,j 33,j 34,j 35,j 36,j 37,j 38,j 39,j 40,y41,y42,y43]++jr j 44 18) H (fQ Tryz.f11 σ K)
noncomputable def bucket_Map_For.L1 (σ:Sig) (K:AV→Hp→Prop) (y0 y3 y5 y41 y42 y43:AV) (H:Hp):Prop:=∀ j:Nat→AV,LoopP (CZ σ) (lB (bB (sR (sL (sR (sR (sR bucket_Map_For.code))))))) ([y0,j 1,j 2,y3,j 4,y5,j 6,j 7,j 8,j 9,j 10,j 11,j 12,j 13,j 14,j 15,j 16,j 17,j 18,j 19,j 20,j 21,j 22,j 23,j 24,j 25,j 26,j 27,j 28,j 29,j 30,j 31,j 32,j 33,j 34,j 35,j 36,j 37,j 38,j 39,j 40,y41,y42,y43]++jr j 44 18) H (fun e T G=>(nx (fQ Tryz.f11 σ K) fun T G=>wp (CZ σ) 15393162788905 (sR (sR (sR (sR bucket_Map_For.code)))) T G (fQ Tryz.f11 σ K)) (unblock 0 e) T G)
theorem bucket_Map_For.J0_step {y0 y3 y5 y41 y42 y43:AV} (h:bnd (shiftA y3 3) fun x1=>bnd (ldA false 1 H x1) fun x2=>bnd (lenSl x2) fun x3=>bucket_Map_For.L1 σ K y0 y3 y5 x2 x3 (I 0) H):bucket_Map_For.J0 σ K y0 y3 y5 y41 y42 y43 H :=
 fun j=>Eq.mpr (by kernel_rfl) h
theorem bucket_Map_For.L1_step {y0 y3 y5 y41 y42 y43:AV} (h:bnd (binR .lss y43 y42) fun x1=>ifB x1 (bnd (ixaSl 1 y41 y43) fun x2=>bnd (ldA false 1 H x2) fun x3=>bnd (nilR y0) fun x4=>bnd (shiftA x4 0) fun x5=>bnd (shiftA x5 0) fun x6=>bnd (ldA false 1 H x6) fun x7=>bnd (bldR [I 0,.lit (.string ⟨#[]⟩)] [(0,1,(I 2)),(1,1,x3)]) fun l8=>bnd (lookR (.lit (.slice none 0 0)) true [.int .i64,.string] false H x7 (.agg l8)) fun x9=>bnd (appR false 1 8 H y5 x9) fun p10=>bnd (binR .add y43 (I 1)) fun x11=>bucket_Map_For.L1 σ K y0 y3 p10.1 y41 y42 x11 p10.2) (callK Tryz.prog σ n_slices_Sort_int_int [y5] H fun x12 H13=>callK Tryz.prog σ n_slices_Compact_int_int [y5] H13 fun x14 H15=>K x14 H15)):bucket_Map_For.L1 σ K y0 y3 y5 y41 y42 y43 H :=
 fun j=>lrd (g:=15393162788905) (Eq.mpr (by kernel_rfl) h)
theorem bucket_Map_For.run {a0 a1:AV} (h:boxK a1 H fun x1 H2=>bnd (nilR a0) fun x3=>bnd (shiftA x3 0) fun x4=>bnd (shiftA x4 0) fun x5=>bnd (ldA false 1 H2 x5) fun x6=>bnd (bldR [I 0,.lit (.string ⟨#[]⟩)] [(0,1,(I 0))]) fun l7=>bnd (lookR (.lit (.slice none 0 0)) true [.int .i64,.string] false H2 x6 (.agg l7)) fun x8=>bnd (nilR a0) fun x9=>bnd (shiftA x9 0) fun x10=>bnd (shiftA x10 0) fun x11=>bnd (ldA false 1 H2 x11) fun x12=>bnd (shiftA x1 1) fun x13=>bnd (ldA false 1 H2 x13) fun x14=>bnd (bldR [I 0,.lit (.string ⟨#[]⟩)] [(0,1,(I 3)),(1,1,x14)]) fun l15=>bnd (lookR (.lit (.slice none 0 0)) true [.int .i64,.string] false H2 x12 (.agg l15)) fun x16=>bnd (bldSlR [.slice none 0 0] 1 2 H2 [(0,1,x8),(1,1,x16)]) fun p17=>callK Tryz.prog σ n_slices_Concat_int_int [p17.1] p17.2 fun x18 H19=>bnd (shiftA x1 2) fun x20=>bnd (ldA false 1 H19 x20) fun x21=>bnd (binR .neq x21 (.lit (.string ⟨#[]⟩))) fun x22=>ifB x22 (bnd (nilR a0) fun x23=>bnd (shiftA x23 0) fun x24=>bnd (shiftA x24 0) fun x25=>bnd (ldA false 1 H19 x25) fun x26=>bnd (shiftA x1 2) fun x27=>bnd (ldA false 1 H19 x27) fun x28=>bnd (bldR [I 0,.lit (.string ⟨#[]⟩)] [(0,1,(I 1)),(1,1,x28)]) fun l29=>bnd (lookR (.lit (.slice none 0 0)) true [.int .i64,.string] false H19 x26 (.agg l29)) fun x30=>bnd (appR false 1 8 H19 x18 x30) fun p31=>bucket_Map_For.J0 σ K a0 x1 p31.1 (.lit undef) (.lit undef) (.lit undef) p31.2) (bucket_Map_For.J0 σ K a0 x1 x18 (.lit undef) (.lit undef) (.lit undef) H19)):∃ r H1,Good Tryz.prog σ n_bucket_Map_For [a0,a1] H r H1∧K r H1 :=
 gwp 15393162788905 (fn:=Tryz.f11) (f:=n_bucket_Map_For) (c:=bucket_Map_For.code) (by kernel_rfl) (by kernel_rfl) (Eq.mpr (by kernel_rfl) h)
noncomputable def ref9_Tree_Node.code:Code:=bodyOf Tryz.f12
theorem ref9_Tree_Node.run {a0 a1:AV} (h:allocK [I 0,.lit (.string ⟨#[]⟩),.lit (.string ⟨#[]⟩),.lit (.slice none 0 0),.lit (.slice none 0 0)] H fun x1 H2=>callK Tryz.prog σ n_ref9_Tree_is [a0,a1] H2 fun x3 H4=>bnd (unR .not x3) fun x5=>ifB x5 (bnd (bldR [I 0,.lit (.string ⟨#[]⟩),.lit (.string ⟨#[]⟩),.lit (.slice none 0 0),.lit (.slice none 0 0)] []) fun l6=>bnd (stA 5 H4 x1 (.agg l6)) fun H7=>bnd (ldA true 5 H7 x1) fun r8=>K r8 H7) (bnd (nilR a0) fun x9=>bnd (shiftA x9 0) fun x10=>bnd (ldA false 1 H4 x10) fun x11=>bnd (ixaSl 5 x11 a1) fun x12=>bnd (ldA true 5 H4 x12) fun x13=>bnd (stA 5 H4 x1 x13) fun H14=>bnd (ldA true 5 H14 x1) fun r15=>K r15 H14)):∃ r H1,Good Tryz.prog σ n_ref9_Tree_Node [a0,a1] H r H1∧K r H1 :=
 gwp 0 (fn:=Tryz.f12) (f:=n_ref9_Tree_Node) (c:=ref9_Tree_Node.code) (by kernel_rfl) (by kernel_rfl) (Eq.mpr (by kernel_rfl) h)
noncomputable def ref9_Tree_Any.code:Code:=bodyOf Tryz.f13
noncomputable def ref9_Tree_Any.L0 (σ:Sig) (K:AV→Hp→Prop) (y0 y1 y2 y7:AV) (H:Hp):Prop:=∀ j:Nat→AV,LoopP (CZ σ) (lB (bB (sR (sL (sR ref9_Tree_Any.code))))) ([y0,y1,y2,j 3,j 4,j 5,j 6,y7]++jr j 8 15) H (fun e T G=>(nx (fQ Tryz.f13 σ K) fun T G=>wp (CZ σ) 135 (sR (sR ref9_Tree_Any.code)) T G (fQ Tryz.f13 σ K)) (unblock 0 e) T G)
theorem ref9_Tree_Any.L0_step {y0 y1 y2 y7:AV} (h:bnd (lenSl y2) fun x1=>bnd (binR .lss y7 x1) fun x2=>ifB x2 (bnd (ixaSl 1 y2 y7) fun x3=>bnd (ldA true 1 H x3) fun x4=>callK Tryz.prog σ n_ref9_Tree_Selector [y0,y1,x4] H fun x5 H6=>ifB x5 (K (Bo true) H6) (bnd (binR .add y7 (I 1)) fun x7=>ref9_Tree_Any.L0 σ K y0 y1 y2 x7 H6)) (K (Bo false) H)):ref9_Tree_Any.L0 σ K y0 y1 y2 y7 H :=
 fun j=>lrd (g:=135) (Eq.mpr (by kernel_rfl) h)
theorem ref9_Tree_Any.run {a0 a1 a2:AV} (h:ref9_Tree_Any.L0 σ K a0 a1 a2 (I 0) H):∃ r H1,Good Tryz.prog σ n_ref9_Tree_Any [a0,a1,a2] H r H1∧K r H1 :=
 gwp 135 (fn:=Tryz.f13) (f:=n_ref9_Tree_Any) (c:=ref9_Tree_Any.code) (by kernel_rfl) (by kernel_rfl) (Eq.mpr (by kernel_rfl) h)
noncomputable def law10_Dear.code:Code:=bodyOf Tryz.f25
theorem law10_Dear.run {a0:AV} (h:callK Tryz.prog σ n_law10_dear [a0,(I 0)] H fun x1 H2=>bnd (binR .gtr x1 (I 40)) fun x3=>K x3 H2):∃ r H1,Good Tryz.prog σ n_law10_Dear [a0] H r H1∧K r H1 :=
 gwp 0 (fn:=Tryz.f25) (f:=n_law10_Dear) (c:=law10_Dear.code) (by kernel_rfl) (by kernel_rfl) (Eq.mpr (by kernel_rfl) h)
noncomputable def bucket_Map_Len.code:Code:=bodyOf Tryz.f32
theorem bucket_Map_Len.run {a0:AV} (h:bnd (nilR a0) fun x1=>bnd (shiftA x1 1) fun x2=>bnd (ldA false 1 H x2) fun x3=>K x3 H):∃ r H1,Good Tryz.prog σ n_bucket_Map_Len [a0] H r H1∧K r H1 :=
 gwp 0 (fn:=Tryz.f32) (f:=n_bucket_Map_Len) (c:=bucket_Map_Len.code) (by kernel_rfl) (by kernel_rfl) (Eq.mpr (by kernel_rfl) h)
noncomputable def ref9_lowered.code:Code:=bodyOf Tryz.f33
noncomputable def ref9_lowered.L0 (σ:Sig) (K:AV→Hp→Prop) (y1 y2 y3 y4:AV) (H:Hp):Prop:=∀ j:Nat→AV,LoopP (CZ σ) (lB (bB (sR (sL (sR (sR (sR (sR ref9_lowered.code)))))))) ([j 0,y1,y2,y3,y4]++jr j 5 35) H (fun e T G=>(nx (fQ Tryz.f33 σ K) fun T G=>wp (CZ σ) 30 (sR (sR (sR (sR (sR ref9_lowered.code))))) T G (fQ Tryz.f33 σ K)) (unblock 0 e) T G)
theorem ref9_lowered.L0_step {y1 y2 y3 y4:AV} (h:bnd (shiftA y1 4) fun x1=>bnd (ldA false 1 H x1) fun x2=>bnd (lenSl x2) fun x3=>bnd (binR .lss y4 x3) fun x4=>ifB x4 (bnd (shiftA y1 4) fun x5=>bnd (ldA false 1 H x5) fun x6=>bnd (ixaSl 2 x6 y4) fun x7=>bnd (shiftA x7 0) fun x8=>bnd (ldA false 1 H x8) fun x9=>callK Tryz.prog σ n_ref1_Lower [x9] H fun x10 H11=>bnd (shiftA y1 4) fun x12=>kpK (x12,some 1) H H11 (bnd (ldA false 1 H11 x12) fun x13=>bnd (ixaSl 2 x13 y4) fun x14=>bnd (shiftA x14 1) fun x15=>kpK (x15,some 1) H H11 (bnd (ldA false 1 H11 x15) fun x16=>bnd (bldR [.lit (.string ⟨#[]⟩),.lit (.string ⟨#[]⟩)] [(0,1,x10),(1,1,x16)]) fun l17=>bnd (bldSlR [.string ⟨#[]⟩,.string ⟨#[]⟩] 2 1 H11 [(0,2,(.agg l17))]) fun p18=>bnd (appR false 2 32 p18.2 y3 p18.1) fun p19=>bnd (binR .add y4 (I 1)) fun x20=>ref9_lowered.L0 σ K y1 y2 p19.1 x20 p19.2))) (bnd (shiftA y1 4) fun x21=>bnd (stA 1 H x21 y3) fun H22=>bnd (ldA true 5 H22 y1) fun x23=>bnd (stA 5 H22 y2 x23) fun H24=>bnd (ldA true 5 H24 y2) fun r25=>K r25 H24)):ref9_lowered.L0 σ K y1 y2 y3 y4 H :=
 fun j=>lrd (g:=30) (Eq.mpr (by kernel_rfl) h)
theorem ref9_lowered.run {a0:AV} (h:boxK a0 H fun x1 H2=>allocK [I 0,.lit (.string ⟨#[]⟩),.lit (.string ⟨#[]⟩),.lit (.slice none 0 0),.lit (.slice none 0 0)] H2 fun x3 H4=>bnd (shiftA x1 1) fun x5=>bnd (ldA false 1 H4 x5) fun x6=>callK Tryz.prog σ n_ref1_Lower [x6] H4 fun x7 H8=>bnd (shiftA x1 1) fun x9=>bnd (stA 1 H8 x9 x7) fun H10=>bnd (shiftA x1 3) fun x11=>bnd (ldA false 1 H10 x11) fun x12=>bnd (appR false 1 16 H10 (.lit (.slice none 0 0)) x12) fun p13=>bnd (shiftA x1 3) fun x14=>bnd (stA 1 p13.2 x14 p13.1) fun H15=>ref9_lowered.L0 σ K x1 x3 (.lit (.slice none 0 0)) (I 0) H15):∃ r H1,Good Tryz.prog σ n_ref9_lowered [a0] H r H1∧K r H1 :=
 gwp 30 (fn:=Tryz.f33) (f:=n_ref9_lowered) (c:=ref9_lowered.code) (by kernel_rfl) (by kernel_rfl) (Eq.mpr (by kernel_rfl) h)
noncomputable def bucket_lists_bucket_key_int_put.code:Code:=bodyOf Tryz.f34
noncomputable def bucket_lists_bucket_key_int_put.J0 (σ:Sig) (K:AV→Hp→Prop) (y0 y2 y4:AV) (H:Hp):Prop:=∀ j:Nat→AV,wp (CZ σ) 21 (sR (sR bucket_lists_bucket_key_int_put.code)) ([y0,j 1,y2,j 3,y4]++jr j 5 24) H (fQ Tryz.f34 σ K)
theorem bucket_lists_bucket_key_int_put.J0_step {y0 y2 y4:AV} (h:bnd (nilR y0) fun x1=>bnd (shiftA x1 0) fun x2=>bnd (ldA false 1 H x2) fun x3=>bnd (ldA true 2 H y4) fun x4=>bnd (nilR y0) fun x5=>bnd (shiftA x5 0) fun x6=>bnd (ldA false 1 H x6) fun x7=>bnd (ldA true 2 H y4) fun x8=>bnd (lookR (.lit (.slice none 0 0)) true [.int .i64,.string] false H x7 x8) fun x9=>bnd (bldSlR [.int .i64 0] 1 1 H [(0,1,y2)]) fun p10=>kpK (x7,none) H p10.2 (kpK (y4,some 2) H p10.2 (kpK (x6,some 1) H p10.2 (kpK (y4,some 2) H p10.2 (kpK (x2,some 1) H p10.2 (bnd (appR false 1 8 p10.2 x9 p10.1) fun p11=>kpK (y4,some 2) p10.2 p11.2 (kpK (x2,some 1) p10.2 p11.2 (bnd (putR true [.int .i64,.string] p11.2 x3 x4 p11.1) fun H12=>K (.tup []) H12)))))))):bucket_lists_bucket_key_int_put.J0 σ K y0 y2 y4 H :=
 fun j=>Eq.mpr (by kernel_rfl) h
theorem bucket_lists_bucket_key_int_put.run {a0 a1 a2:AV} (h:boxK a1 H fun x1 H2=>bnd (nilR a0) fun x3=>bnd (shiftA x3 0) fun x4=>bnd (ldA false 1 H2 x4) fun x5=>bnd (eqMpR .eql x5 (.lit (.map none))) fun x6=>ifB x6 (bnd (nilR a0) fun x7=>bnd (shiftA x7 0) fun x8=>bnd (stA 1 (H2.new (.map [])) x8 (.mp H2.n)) fun H9=>bucket_lists_bucket_key_int_put.J0 σ K a0 a2 x1 H9) (bucket_lists_bucket_key_int_put.J0 σ K a0 a2 x1 H2)):∃ r H1,Good Tryz.prog σ n_bucket_lists_bucket_key_int_put [a0,a1,a2] H r H1∧K r H1 :=
 gwp 21 (fn:=Tryz.f34) (f:=n_bucket_lists_bucket_key_int_put) (c:=bucket_lists_bucket_key_int_put.code) (by kernel_rfl) (by kernel_rfl) (Eq.mpr (by kernel_rfl) h)
noncomputable def bucket_of.code:Code:=bodyOf Tryz.f35
theorem bucket_of.run {a0:AV} (h:boxK a0 H fun x1 H2=>allocK [I 0,.lit (.string ⟨#[]⟩)] H2 fun x3 H4=>bnd (shiftA x1 1) fun x5=>bnd (ldA false 1 H4 x5) fun x6=>bnd (lenSl x6) fun x7=>bnd (binR .gtr x7 (I 0)) fun x8=>ifB x8 (bnd (shiftA x1 1) fun x9=>bnd (ldA false 1 H4 x9) fun x10=>bnd (ixaSl 1 x10 (I 0)) fun x11=>bnd (ldA false 1 H4 x11) fun x12=>bnd (bldR [I 0,.lit (.string ⟨#[]⟩)] [(0,1,(I 1)),(1,1,x12)]) fun l13=>bnd (stA 2 H4 x3 (.agg l13)) fun H14=>bnd (ldA true 2 H14 x3) fun r15=>K r15 H14) (bnd (shiftA x1 2) fun x16=>bnd (ldA false 1 H4 x16) fun x17=>bnd (lenSl x17) fun x18=>bnd (binR .gtr x18 (I 0)) fun x19=>ifB x19 (bnd (shiftA x1 2) fun x20=>bnd (ldA false 1 H4 x20) fun x21=>bnd (ixaSl 1 x21 (I 0)) fun x22=>bnd (ldA false 1 H4 x22) fun x23=>bnd (bldR [I 0,.lit (.string ⟨#[]⟩)] [(0,1,(I 2)),(1,1,x23)]) fun l24=>bnd (stA 2 H4 x3 (.agg l24)) fun H25=>bnd (ldA true 2 H25 x3) fun r26=>K r26 H25) (bnd (shiftA x1 0) fun x27=>bnd (ldA false 1 H4 x27) fun x28=>bnd (binR .neq x28 (.lit (.string ⟨#[]⟩))) fun x29=>ifB x29 (bnd (shiftA x1 0) fun x30=>bnd (ldA false 1 H4 x30) fun x31=>bnd (bldR [I 0,.lit (.string ⟨#[]⟩)] [(0,1,(I 3)),(1,1,x31)]) fun l32=>bnd (stA 2 H4 x3 (.agg l32)) fun H33=>bnd (ldA true 2 H33 x3) fun r34=>K r34 H33) (bnd (bldR [I 0,.lit (.string ⟨#[]⟩)] [(0,1,(I 0))]) fun l35=>bnd (stA 2 H4 x3 (.agg l35)) fun H36=>bnd (ldA true 2 H36 x3) fun r37=>K r37 H36)))):∃ r H1,Good Tryz.prog σ n_bucket_of [a0] H r H1∧K r H1 :=
 gwp 0 (fn:=Tryz.f35) (f:=n_bucket_of) (c:=bucket_of.code) (by kernel_rfl) (by kernel_rfl) (Eq.mpr (by kernel_rfl) h)
noncomputable def slices_Concat_int_int.code:Code:=bodyOf Tryz.f36
noncomputable def slices_Concat_int_int.Q0 (σ:Sig) (K:AV→Hp→Prop):Exit→List AV→Hp→Prop:=(nx (fQ Tryz.f36 σ K) fun T G=>wp (CZ σ) 234884681 (sR (sR (sR slices_Concat_int_int.code))) T G (fQ Tryz.f36 σ K))
noncomputable def slices_Concat_int_int.L0 (σ:Sig) (K:AV→Hp→Prop) (y0 y3 y6 y9 y10 y11 y25 y26 y27:AV) (H:Hp):Prop:=∀ j:Nat→AV,LoopP (CZ σ) (lB (bB (sR (sL (sR (sR slices_Concat_int_int.code)))))) ([y0,j 1,j 2,y3,j 4,j 5,y6,j 7,j 8,y9,y10,y11,j 12,j 13,j 14,j 15,j 16,j 17,j 18,j 19,j 20,j 21,j 22,j 23,j 24,y25,y26,y27]++jr j 28 8) H (fun e T G=>(slices_Concat_int_int.Q0 σ K) (unblock 0 e) T G)
noncomputable def slices_Concat_int_int.J1 (σ:Sig) (K:AV→Hp→Prop) (y0 y3 y6 y9 y10 y11 y25 y26 y27:AV) (H:Hp):Prop:=∀ j:Nat→AV,wp (CZ σ) 234884681 (sR (sR (sR (lB (bB (sR (sL (sR (sR slices_Concat_int_int.code))))))))) ([y0,j 1,j 2,y3,j 4,j 5,y6,j 7,j 8,y9,y10,y11,j 12,j 13,j 14,j 15,j 16,j 17,j 18,j 19,j 20,j 21,j 22,j 23,j 24,y25,y26,y27]++jr j 28 8) H (nx (fun e T G=>(slices_Concat_int_int.Q0 σ K) (unblock 0 e) T G) fun T G=>∀ j,LoopP (CZ σ) (lB (bB (sR (sL (sR (sR slices_Concat_int_int.code)))))) (maskA 234884681 j 0 T) G (fun e T G=>(slices_Concat_int_int.Q0 σ K) (unblock 0 e) T G))
noncomputable def slices_Concat_int_int.L2 (σ:Sig) (K:AV→Hp→Prop) (y0 y3 y6 y9 y10 y11 y25 y26 y27:AV) (H:Hp):Prop:=∀ j:Nat→AV,LoopP (CZ σ) (lB (bB (sR (sL (sR (sR (sR (sR slices_Concat_int_int.code)))))))) ([y0,j 1,j 2,y3,j 4,j 5,y6,j 7,j 8,y9,y10,y11,j 12,j 13,j 14,j 15,j 16,j 17,j 18,j 19,j 20,j 21,j 22,j 23,j 24,y25,y26,y27]++jr j 28 8) H (fun e T G=>(nx (fQ Tryz.f36 σ K) fun T G=>wp (CZ σ) 234884681 (sR (sR (sR (sR (sR slices_Concat_int_int.code))))) T G (fQ Tryz.f36 σ K)) (unblock 2 e) T G)
theorem slices_Concat_int_int.L0_step {y0 y3 y6 y9 y10 y11 y25 y26 y27:AV} (h:bnd (binR .lss y11 y10) fun x1=>ifB x1 (bnd (ixaSl 1 y9 y11) fun x2=>bnd (ldA false 1 H x2) fun x3=>bnd (lenSl x3) fun x4=>bnd (binR .add y3 x4) fun x5=>bnd (binR .lss x5 (I 0)) fun x6=>ifB x6 (False) (slices_Concat_int_int.J1 σ K y0 x5 y6 y9 y10 y11 y25 y26 y27 H)) (callK Tryz.prog σ n_slices_Grow_int_int [(.lit (.slice none 0 0)),y3] H fun x7 H8=>bnd (lenSl y0) fun x9=>slices_Concat_int_int.L2 σ K y0 y3 x7 y9 y10 y11 y0 x9 (I 0) H8)):slices_Concat_int_int.L0 σ K y0 y3 y6 y9 y10 y11 y25 y26 y27 H :=
 fun j=>lrd (g:=234884681) (Eq.mpr (by kernel_rfl) h)
theorem slices_Concat_int_int.J1_step {y0 y3 y6 y9 y10 y11 y25 y26 y27:AV} (h:bnd (binR .add y11 (I 1)) fun x1=>slices_Concat_int_int.L0 σ K y0 y3 y6 y9 y10 x1 y25 y26 y27 H):slices_Concat_int_int.J1 σ K y0 y3 y6 y9 y10 y11 y25 y26 y27 H :=
 fun j=>Eq.mpr (by kernel_rfl) h
theorem slices_Concat_int_int.L2_step {y0 y3 y6 y9 y10 y11 y25 y26 y27:AV} (h:bnd (binR .lss y27 y26) fun x1=>ifB x1 (bnd (ixaSl 1 y25 y27) fun x2=>bnd (ldA false 1 H x2) fun x3=>bnd (appR false 1 8 H y6 x3) fun p4=>bnd (binR .add y27 (I 1)) fun x5=>slices_Concat_int_int.L2 σ K y0 y3 p4.1 y9 y10 y11 y25 y26 x5 p4.2) (K y6 H)):slices_Concat_int_int.L2 σ K y0 y3 y6 y9 y10 y11 y25 y26 y27 H :=
 fun j=>lrd (g:=234884681) (Eq.mpr (by kernel_rfl) h)
theorem slices_Concat_int_int.run {a0:AV} (h:bnd (lenSl a0) fun x1=>slices_Concat_int_int.L0 σ K a0 (I 0) (.lit undef) a0 x1 (I 0) (.lit undef) (.lit undef) (.lit undef) H):∃ r H1,Good Tryz.prog σ n_slices_Concat_int_int [a0] H r H1∧K r H1 :=
 gwp 234884681 (fn:=Tryz.f36) (f:=n_slices_Concat_int_int) (c:=slices_Concat_int_int.code) (by kernel_rfl) (by kernel_rfl) (Eq.mpr (by kernel_rfl) h)
noncomputable def ref9_Tree_is.code:Code:=bodyOf Tryz.f39
theorem ref9_Tree_is.run {a0 a1:AV} (h:bnd (eqPtrR .neq a0 (.lit (.pointer none))) fun x1=>ifB x1 (bnd (binR .geq a1 (I 0)) fun x2=>ifB x2 (bnd (nilR a0) fun x3=>bnd (shiftA x3 0) fun x4=>bnd (ldA false 1 H x4) fun x5=>bnd (lenSl x5) fun x6=>bnd (binR .lss a1 x6) fun x7=>K x7 H) (K (Bo false) H)) (K (Bo false) H)):∃ r H1,Good Tryz.prog σ n_ref9_Tree_is [a0,a1] H r H1∧K r H1 :=
 gwp 0 (fn:=Tryz.f39) (f:=n_ref9_Tree_is) (c:=ref9_Tree_is.code) (by kernel_rfl) (by kernel_rfl) (Eq.mpr (by kernel_rfl) h)
noncomputable def ref9_Tree_Selector.code:Code:=bodyOf Tryz.f40
theorem ref9_Tree_Selector.run {a0 a1 a2:AV} (h:boxK a2 H fun x1 H2=>bnd (ldA true 1 H2 x1) fun x3=>callK Tryz.prog σ n_ref9_DeepSel [x3,(I 0)] H2 fun x4 H5=>bnd (unR .not x4) fun x6=>ifB x6 (bnd (ldA true 1 H5 x1) fun x7=>callK Tryz.prog σ n_ref9_Tree_selector [a0,a1,x7,(I 0)] H5 fun x8 H9=>K x8 H9) (K (Bo false) H5)):∃ r H1,Good Tryz.prog σ n_ref9_Tree_Selector [a0,a1,a2] H r H1∧K r H1 :=
 gwp 0 (fn:=Tryz.f40) (f:=n_ref9_Tree_Selector) (c:=ref9_Tree_Selector.code) (by kernel_rfl) (by kernel_rfl) (Eq.mpr (by kernel_rfl) h)
noncomputable def law10_dear.code:Code:=bodyOf Tryz.f45
noncomputable def law10_dear.Q0 (σ:Sig) (K:AV→Hp→Prop):Exit→List AV→Hp→Prop:=(nx (fQ Tryz.f45 σ K) fun T G=>wp (CZ σ) 2019 (sR (sR (sR (sR law10_dear.code)))) T G (fQ Tryz.f45 σ K))
noncomputable def law10_dear.Q1 (σ:Sig) (K:AV→Hp→Prop):Exit→List AV→Hp→Prop:=(nx (fun e T G=>(law10_dear.Q0 σ K) (unblock 0 e) T G) fun T G=>∀ j,LoopP (CZ σ) (lB (bB (sR (sL (sR (sR (sR law10_dear.code))))))) (maskA 2019 j 0 T) G (fun e T G=>(law10_dear.Q0 σ K) (unblock 0 e) T G))
noncomputable def law10_dear.Q2 (σ:Sig) (K:AV→Hp→Prop):Exit→List AV→Hp→Prop:=(nx (law10_dear.Q1 σ K) fun T G=>wp (CZ σ) 2019 (sR (sR (lB (bB (sR (sL (sR (sR (sR law10_dear.code))))))))) T G (law10_dear.Q1 σ K))
noncomputable def law10_dear.Q3 (σ:Sig) (K:AV→Hp→Prop):Exit→List AV→Hp→Prop:=(nx (fun e T G=>(fun e T G=>(law10_dear.Q2 σ K) (unblock 1 e) T G) (unblock 2 e) T G) fun T G=>∀ j,LoopP (CZ σ) (lB (bB (sR (sR (sR (bB (sL (sR (lB (bB (sR (sL (sR (sR (sR law10_dear.code))))))))))))))) (maskA 2019 j 0 T) G (fun e T G=>(fun e T G=>(law10_dear.Q2 σ K) (unblock 1 e) T G) (unblock 2 e) T G))
noncomputable def law10_dear.L0 (σ:Sig) (K:AV→Hp→Prop) (y0 y1 y5 y6 y7 y8 y9 y10:AV) (H:Hp):Prop:=∀ j:Nat→AV,LoopP (CZ σ) (lB (bB (sR (sL (sR (sR (sR law10_dear.code))))))) ([y0,y1,j 2,j 3,j 4,y5,y6,y7,y8,y9,y10]++jr j 11 95) H (fun e T G=>(law10_dear.Q0 σ K) (unblock 0 e) T G)
noncomputable def law10_dear.L1 (σ:Sig) (K:AV→Hp→Prop) (y0 y1 y5 y6 y7 y8 y9 y10:AV) (H:Hp):Prop:=∀ j:Nat→AV,LoopP (CZ σ) (lB (bB (sR (sR (sR (bB (sL (sR (lB (bB (sR (sL (sR (sR (sR law10_dear.code))))))))))))))) ([y0,y1,j 2,j 3,j 4,y5,y6,y7,y8,y9,y10]++jr j 11 95) H (fun e T G=>(fun e T G=>(law10_dear.Q2 σ K) (unblock 1 e) T G) (unblock 2 e) T G)
noncomputable def law10_dear.L2 (σ:Sig) (K:AV→Hp→Prop) (y0 y1 y5 y6 y7 y8 y9 y10:AV) (H:Hp):Prop:=∀ j:Nat→AV,LoopP (CZ σ) (lB (bB (sR (sR (sR (sR (bB (sL (sR (lB (bB (sR (sR (sR (bB (sL (sR (lB (bB (sR (sL (sR (sR (sR law10_dear.code)))))))))))))))))))))))) ([y0,y1,j 2,j 3,j 4,y5,y6,y7,y8,y9,y10]++jr j 11 95) H (fun e T G=>(fun e T G=>(nx (law10_dear.Q3 σ K) fun T G=>wp (CZ σ) 2019 (sR (sR (lB (bB (sR (sR (sR (bB (sL (sR (lB (bB (sR (sL (sR (sR (sR law10_dear.code))))))))))))))))) T G (law10_dear.Q3 σ K)) (unblock 3 e) T G) (unblock 4 e) T G)
theorem law10_dear.L0_step {y0 y1 y5 y6 y7 y8 y9 y10:AV} (h:bnd (lenSl y0) fun x1=>bnd (binR .lss y6 x1) fun x2=>ifB x2 (bnd (binR .lss y5 (I 100)) fun x3=>ifB x3 (bnd (ixaSl 1 y0 y6) fun x4=>bnd (shiftA x4 0) fun x5=>bnd (ldA false 1 H x5) fun x6=>bnd (lenSl x6) fun x7=>bnd (binR .gtr x7 (I 12)) fun x8=>ifB x8 (bnd (lenSl x6) fun x9=>bnd (binR .lss x9 (I 50)) fun x10=>ifB x10 (K (I 100) H) (bnd (lenSl x6) fun x11=>bnd (binR .gtr x11 (I 60)) fun x12=>ifB x12 (K (I 100) H) (law10_dear.L1 σ K y0 y1 y5 y6 x6 (I 0) y9 y10 H))) (bnd (lenSl x6) fun x13=>bnd (binR .gtr x13 (I 60)) fun x14=>ifB x14 (K (I 100) H) (law10_dear.L1 σ K y0 y1 y5 y6 x6 (I 0) y9 y10 H))) (K y5 H)) (K y5 H)):law10_dear.L0 σ K y0 y1 y5 y6 y7 y8 y9 y10 H :=
 fun j=>lrd (g:=2019) (Eq.mpr (by kernel_rfl) h)
theorem law10_dear.L1_step {y0 y1 y5 y6 y7 y8 y9 y10:AV} (h:bnd (lenSl y7) fun x1=>bnd (binR .lss y8 x1) fun x2=>ifB x2 (bnd (binR .lss y5 (I 100)) fun x3=>ifB x3 (bnd (ixaSl 6 y7 y8) fun x4=>bnd (shiftA x4 1) fun x5=>bnd (ldA true 5 H x5) fun x6=>allocK [.lit (.string ⟨#[]⟩),.lit (.slice none 0 0),.lit (.slice none 0 0),.lit (.slice none 0 0),.lit (.slice none 0 0)] H fun x7 H8=>bnd (stA 5 H8 x7 x6) fun H9=>bnd (binR .add y5 (I 1)) fun x10=>bnd (binR .add x10 y1) fun x11=>bnd (shiftA x7 1) fun x12=>bnd (ldA false 1 H9 x12) fun x13=>bnd (lenSl x13) fun x14=>bnd (binR .gtr x14 (I 5)) fun x15=>ifB x15 (K (I 100) H9) (bnd (shiftA x7 2) fun x16=>bnd (ldA false 1 H9 x16) fun x17=>bnd (lenSl x17) fun x18=>bnd (binR .gtr x18 (I 5)) fun x19=>ifB x19 (K (I 100) H9) (bnd (shiftA x7 3) fun x20=>bnd (ldA false 1 H9 x20) fun x21=>bnd (lenSl x21) fun x22=>bnd (binR .gtr x22 (I 5)) fun x23=>ifB x23 (K (I 100) H9) (bnd (shiftA x7 4) fun x24=>bnd (ldA false 1 H9 x24) fun x25=>bnd (lenSl x25) fun x26=>bnd (binR .gtr x26 (I 5)) fun x27=>ifB x27 (K (I 100) H9) (law10_dear.L2 σ K y0 y1 x11 y6 y7 y8 x7 (I 0) H9))))) (bnd (binR .add y6 (I 1)) fun x28=>law10_dear.L0 σ K y0 y1 y5 x28 y7 y8 y9 y10 H)) (bnd (binR .add y6 (I 1)) fun x29=>law10_dear.L0 σ K y0 y1 y5 x29 y7 y8 y9 y10 H)):law10_dear.L1 σ K y0 y1 y5 y6 y7 y8 y9 y10 H :=
 fun j=>lrd (g:=2019) (Eq.mpr (by kernel_rfl) h)
theorem law10_dear.L2_step {y0 y1 y5 y6 y7 y8 y9 y10:AV} (h:bnd (shiftA y9 4) fun x1=>bnd (ldA false 1 H x1) fun x2=>bnd (lenSl x2) fun x3=>bnd (binR .lss y10 x3) fun x4=>ifB x4 (bnd (binR .lss y5 (I 100)) fun x5=>ifB x5 (bnd (shiftA y9 4) fun x6=>bnd (ldA false 1 H x6) fun x7=>bnd (ixaSl 4 x7 y10) fun x8=>bnd (shiftA x8 3) fun x9=>bnd (ldA false 1 H x9) fun x10=>bnd (binR .add y1 (I 1)) fun x11=>callK Tryz.prog σ n_law10_dear [x10,x11] H fun x12 H13=>bnd (binR .mul (I 3) x12) fun x14=>bnd (binR .add y5 x14) fun x15=>bnd (binR .add y10 (I 1)) fun x16=>law10_dear.L2 σ K y0 y1 x15 y6 y7 y8 y9 x16 H13) (bnd (binR .add y8 (I 1)) fun x17=>law10_dear.L1 σ K y0 y1 y5 y6 y7 x17 y9 y10 H)) (bnd (binR .add y8 (I 1)) fun x18=>law10_dear.L1 σ K y0 y1 y5 y6 y7 x18 y9 y10 H)):law10_dear.L2 σ K y0 y1 y5 y6 y7 y8 y9 y10 H :=
 fun j=>lrd (g:=2019) (Eq.mpr (by kernel_rfl) h)
theorem law10_dear.run {a0 a1:AV} (h:bnd (binR .gtr a1 (I 10)) fun x1=>ifB x1 (K (I 100) H) (law10_dear.L0 σ K a0 a1 (I 0) (I 0) (.lit undef) (.lit undef) (.lit undef) (.lit undef) H)):∃ r H1,Good Tryz.prog σ n_law10_dear [a0,a1] H r H1∧K r H1 :=
 gwp 2019 (fn:=Tryz.f45) (f:=n_law10_dear) (c:=law10_dear.code) (by kernel_rfl) (by kernel_rfl) (Eq.mpr (by kernel_rfl) h)
noncomputable def ref1_Lower.code:Code:=bodyOf Tryz.f51
noncomputable def ref1_Lower.Q0 (σ:Sig) (K:AV→Hp→Prop):Exit→List AV→Hp→Prop:=(nx (fQ Tryz.f51 σ K) fun T G=>wp (CZ σ) 24 (sR (sR (sR ref1_Lower.code))) T G (fQ Tryz.f51 σ K))
noncomputable def ref1_Lower.L0 (σ:Sig) (K:AV→Hp→Prop) (y3 y4:AV) (H:Hp):Prop:=∀ j:Nat→AV,LoopP (CZ σ) (lB (bB (sR (sL (sR (sR ref1_Lower.code)))))) ([j 0,j 1,j 2,y3,y4]++jr j 5 30) H (fun e T G=>(ref1_Lower.Q0 σ K) (unblock 0 e) T G)
noncomputable def ref1_Lower.J1 (σ:Sig) (K:AV→Hp→Prop) (y3 y4:AV) (H:Hp):Prop:=∀ j:Nat→AV,wp (CZ σ) 24 (sR (sR (lB (bB (sR (sL (sR (sR ref1_Lower.code)))))))) ([j 0,j 1,j 2,y3,y4]++jr j 5 30) H (nx (fun e T G=>(ref1_Lower.Q0 σ K) (unblock 0 e) T G) fun T G=>∀ j,LoopP (CZ σ) (lB (bB (sR (sL (sR (sR ref1_Lower.code)))))) (maskA 24 j 0 T) G (fun e T G=>(ref1_Lower.Q0 σ K) (unblock 0 e) T G))
theorem ref1_Lower.L0_step {y3 y4:AV} (h:bnd (lenSl y3) fun x1=>bnd (binR .lss y4 x1) fun x2=>ifB x2 (bnd (ixaSl 1 y3 y4) fun x3=>bnd (ldA false 1 H x3) fun x4=>bnd (binR .geq x4 (.lit (.int .u8 65))) fun x5=>ifB x5 (bnd (ixaSl 1 y3 y4) fun x6=>bnd (ldA false 1 H x6) fun x7=>bnd (binR .leq x7 (.lit (.int .u8 90))) fun x8=>ifB x8 (bnd (ixaSl 1 y3 y4) fun x9=>bnd (ldA false 1 H x9) fun x10=>bnd (binR .add x10 (.lit (.int .u8 32))) fun x11=>bnd (ixaSl 1 y3 y4) fun x12=>bnd (stA 1 H x12 x11) fun H13=>ref1_Lower.J1 σ K y3 y4 H13) (ref1_Lower.J1 σ K y3 y4 H)) (ref1_Lower.J1 σ K y3 y4 H)) (bnd (cvToStr H y3) fun x14=>K x14 H)):ref1_Lower.L0 σ K y3 y4 H :=
 fun j=>lrd (g:=24) (Eq.mpr (by kernel_rfl) h)
theorem ref1_Lower.J1_step {y3 y4:AV} (h:bnd (binR .add y4 (I 1)) fun x1=>ref1_Lower.L0 σ K y3 x1 H):ref1_Lower.J1 σ K y3 y4 H :=
 fun j=>Eq.mpr (by kernel_rfl) h
theorem ref1_Lower.run {a0:AV} (h:bnd (cvToBytes H a0) fun p1=>ref1_Lower.L0 σ K p1.1 (I 0) p1.2):∃ r H1,Good Tryz.prog σ n_ref1_Lower [a0] H r H1∧K r H1 :=
 gwp 24 (fn:=Tryz.f51) (f:=n_ref1_Lower) (c:=ref1_Lower.code) (by kernel_rfl) (by kernel_rfl) (Eq.mpr (by kernel_rfl) h)
noncomputable def ref9_DeepSel.code:Code:=bodyOf Tryz.f55
noncomputable def ref9_DeepSel.L0 (σ:Sig) (K:AV→Hp→Prop) (y1 y2 y5:AV) (H:Hp):Prop:=∀ j:Nat→AV,LoopP (CZ σ) (lB (bB (sR (sL (sR (sR ref9_DeepSel.code)))))) ([j 0,y1,y2,j 3,j 4,y5]++jr j 6 21) H (fun e T G=>(nx (fQ Tryz.f55 σ K) fun T G=>wp (CZ σ) 38 (sR (sR (sR ref9_DeepSel.code))) T G (fQ Tryz.f55 σ K)) (unblock 0 e) T G)
theorem ref9_DeepSel.L0_step {y1 y2 y5:AV} (h:bnd (shiftA y2 0) fun x1=>bnd (ldA false 1 H x1) fun x2=>bnd (lenSl x2) fun x3=>bnd (binR .lss y5 x3) fun x4=>ifB x4 (bnd (shiftA y2 0) fun x5=>bnd (ldA false 1 H x5) fun x6=>bnd (ixaSl 6 x6 y5) fun x7=>bnd (shiftA x7 1) fun x8=>bnd (ldA true 5 H x8) fun x9=>callK Tryz.prog σ n_ref9_Deep [x9,y1] H fun x10 H11=>ifB x10 (K (Bo true) H11) (bnd (binR .add y5 (I 1)) fun x12=>ref9_DeepSel.L0 σ K y1 y2 x12 H11)) (K (Bo false) H)):ref9_DeepSel.L0 σ K y1 y2 y5 H :=
 fun j=>lrd (g:=38) (Eq.mpr (by kernel_rfl) h)
theorem ref9_DeepSel.run {a0 a1:AV} (h:boxK a0 H fun x1 H2=>bnd (shiftA x1 0) fun x3=>bnd (ldA false 1 H2 x3) fun x4=>bnd (lenSl x4) fun x5=>bnd (binR .gtr x5 (I 50)) fun x6=>ifB x6 (K (Bo true) H2) (ref9_DeepSel.L0 σ K a1 x1 (I 0) H2)):∃ r H1,Good Tryz.prog σ n_ref9_DeepSel [a0,a1] H r H1∧K r H1 :=
 gwp 38 (fn:=Tryz.f55) (f:=n_ref9_DeepSel) (c:=ref9_DeepSel.code) (by kernel_rfl) (by kernel_rfl) (Eq.mpr (by kernel_rfl) h)
noncomputable def ref9_Tree_selector.code:Code:=bodyOf Tryz.f56
theorem ref9_Tree_selector.run {a0 a1 a2 a3:AV} (h:boxK a2 H fun x1 H2=>callK Tryz.prog σ n_ref9_Tree_is [a0,a1] H2 fun x3 H4=>bnd (unR .not x3) fun x5=>ifB x5 (K (Bo false) H4) (bnd (shiftA x1 0) fun x6=>bnd (ldA false 1 H4 x6) fun x7=>bnd (lenSl x7) fun x8=>bnd (binR .eql x8 (I 0)) fun x9=>ifB x9 (K (Bo false) H4) (bnd (nilR a0) fun x10=>bnd (shiftA x10 0) fun x11=>bnd (ldA false 1 H4 x11) fun x12=>bnd (lenSl x12) fun x13=>bnd (shiftA x1 0) fun x14=>bnd (ldA false 1 H4 x14) fun x15=>bnd (lenSl x15) fun x16=>bnd (binR .mul x13 x16) fun x17=>bnd (mkSlR [.int .i64 0] 1 8 H4 x17 x17) fun p18=>bnd (ldA true 1 p18.2 x1) fun x19=>bnd (shiftA x1 0) fun x20=>bnd (ldA false 1 p18.2 x20) fun x21=>bnd (lenSl x21) fun x22=>callK Tryz.prog σ n_ref9_Tree_front [a0,a1,x19,x22,a3,p18.1] p18.2 fun x23 H24=>K x23 H24))):∃ r H1,Good Tryz.prog σ n_ref9_Tree_selector [a0,a1,a2,a3] H r H1∧K r H1 :=
 gwp 0 (fn:=Tryz.f56) (f:=n_ref9_Tree_selector) (c:=ref9_Tree_selector.code) (by kernel_rfl) (by kernel_rfl) (Eq.mpr (by kernel_rfl) h)
end Go.Proofs.YtaoegkmfgfefgaaGreat.Ev
